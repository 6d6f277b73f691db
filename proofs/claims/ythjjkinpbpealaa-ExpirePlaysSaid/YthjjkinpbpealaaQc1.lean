/-
  7 texts in one (merge.py): Wt Wu Hints Known Names Sh Ds.
  Conditions: none. By an AI agent.
-/
import Derived.Test.YthjjkinpbpealaaQb1
import Derived.Test.YthjjkinpbpealaaQa3
import Derived.Test.YthjjkinpbpealaaChecked
import Derived.KernelRfl

/-
  Chapter 45: waiting, Next (and Copy of nil) as prims.
  Conditions: none. By an AI agent.
-/
set_option linter.unusedSimpArgs false
set_option linter.unusedVariables false
namespace Go.Proofs.Ythjjkinpbpealaa
open Go Eng Go.Maps

def entS : List (Value × Value) → Option (List (List UInt8 × Int))
  | [] => some []
  | (.string b, .int .i64 n) :: l => if decide (b.size ≤ 1000) && (decide (0 < n) && decide (n ≤ 4611686018427387904)) then (entS l).map ((b.data.toList, n) :: ·) else none
  | _ => none
def befB (a b : List UInt8 × Int) : Bool := decide (a.2 < b.2) || (decide (a.2 = b.2) && Op.bytesLess a.1 b.1)
def insE (x : List UInt8 × Int) : List (List UInt8 × Int) → List (List UInt8 × Int)
  | [] => [x]
  | y :: l => if befB y x then y :: insE x l else x :: y :: l
def sortE : List (List UInt8 × Int) → List (List UInt8 × Int)
  | [] => []
  | x :: l => insE x (sortE l)
def minE (now : Int) : List (List UInt8 × Int) → Int
  | [] => 0
  | k :: l => if decide (k.2 ≤ now) then minE now l else if decide (minE now l = 0) || decide (k.2 < minE now l) then k.2 else minE now l

def waitP : List Value → AHeap → Res := fun args H => match args with
  | [.pointer (some ⟨b, o, none⟩)] => (match H.f b with
    | .cells xs _ _ => (match xs[o + 1]? with
      | some (.map none) => some (.slice none 0 0, H)
      | some (.map (some mb)) => (match xs[o + 2]? with
        | some (.int .i64 now) => (match H.f mb with
          | .map es => (match entS es with
            | some ks => if es.length ≤ 1000000 then (if (ks.filter fun k => decide (k.2 ≤ now)).isEmpty then some (.slice none 0 0, H) else
                some (.slice (some ⟨H.n, 0, none⟩) (ks.filter fun k => decide (k.2 ≤ now)).length (2 * (ks.filter fun k => decide (k.2 ≤ now)).length + 1), H.push (.cells ((sortE (ks.filter fun k => decide (k.2 ≤ now))).map fun k => .string ⟨k.1.toArray⟩) 9 true))) else none
            | none => none)
          | _ => none)
        | _ => none)
      | _ => none)
    | _ => none)
  | _ => none
def nextP : List Value → AHeap → Res := fun args H => match args with
  | [.pointer none] => some (.int .i64 0, H)
  | [.pointer (some ⟨b, o, none⟩)] => (match H.f b with
    | .cells xs _ _ => (match xs[o + 1]? with
      | some (.map none) => some (.int .i64 0, H)
      | some (.map (some mb)) => (match xs[o + 2]? with
        | some (.int .i64 now) => (match H.f mb with
          | .map es => (match entS es with
            | some ks => if es.length ≤ 1000000 then some (.int .i64 (minE now ks), H) else none
            | none => none)
          | _ => none)
        | _ => none)
      | _ => none)
    | _ => none)
  | _ => none
def copyP : List Value → AHeap → Res := fun args H => match args with
  | [.pointer none] => some (.pointer none, H)
  | _ => none

/-! ### sorting -/
theorem insE_perm (x : List UInt8 × Int) : ∀ l, (insE x l).Perm (x :: l)
  | [] => .refl _
  | y :: l => by
    unfold insE
    split
    · exact ((insE_perm x l).cons y).trans (.swap x y l)
    · exact .refl _
theorem sortE_perm : ∀ l, (sortE l).Perm l
  | [] => .refl _
  | x :: l => (insE_perm x _).trans ((sortE_perm l).cons x)
theorem befB_iff (a b : List UInt8 × Int) : befB a b = true ↔ a.2 < b.2 ∨ (a.2 = b.2 ∧ a.1 < b.1) := by
  unfold befB
  rw [less_lt]
  simp
theorem befB_asym {a b : List UInt8 × Int} (h : befB a b = true) : ¬ befB b a = true := fun k => by
  rw [befB_iff] at h k
  rcases h with h | ⟨h, h'⟩
  · rcases k with k | ⟨k, _⟩ <;> omega
  · rcases k with k | ⟨_, k'⟩
    · omega
    · exact absurd (List.lt_trans h' k') (List.lt_irrefl _)
theorem befB_nt {a b c : List UInt8 × Int} (h : ¬ befB b a = true) (k : ¬ befB c b = true) : ¬ befB c a = true := fun x => by
  rw [befB_iff] at h k x
  have h1 : ¬ b.2 < a.2 := fun e => h (.inl e)
  have k1 : ¬ c.2 < b.2 := fun e => k (.inl e)
  rcases x with x | ⟨x, x'⟩
  · omega
  · have e1 : b.2 = a.2 := by omega
    have e2 : c.2 = b.2 := by omega
    have h2 : ¬ b.1 < a.1 := fun e => h (.inr ⟨e1, e⟩)
    have k2 : ¬ c.1 < b.1 := fun e => k (.inr ⟨e2, e⟩)
    have := List.le_trans (List.not_lt.1 h2) (List.not_lt.1 k2)
    exact absurd x' (List.not_lt.2 this)
theorem insE_sorted (x : List UInt8 × Int) : ∀ l, l.Pairwise (fun a b => ¬ befB b a = true) → (insE x l).Pairwise (fun a b => ¬ befB b a = true)
  | [], _ => by simp [insE]
  | y :: l, h => by
    have hy := List.pairwise_cons.1 h
    unfold insE
    split
    · rename_i hlt
      refine List.pairwise_cons.2 ⟨fun z hz => ?_, insE_sorted x l hy.2⟩
      rcases List.mem_cons.1 ((insE_perm x l).mem_iff.1 hz) with rfl | hz
      · exact befB_asym hlt
      · exact hy.1 z hz
    · rename_i hlt
      refine List.pairwise_cons.2 ⟨fun z hz => ?_, h⟩
      rcases List.mem_cons.1 hz with rfl | hz
      · exact hlt
      · exact befB_nt hlt (hy.1 z hz)
theorem sortE_sorted : ∀ l, (sortE l).Pairwise (fun a b => ¬ befB b a = true)
  | [] => .nil
  | x :: l => insE_sorted x _ (sortE_sorted l)

/-! ### the map, as the kit reads it -/
theorem entS_some : ∀ {es : List (Value × Value)} {ks : List (List UInt8 × Int)}, entS es = some ks → es = ks.map (fun k => (Value.string ⟨k.1.toArray⟩, Value.int .i64 k.2)) ∧ ∀ k ∈ ks, k.1.length ≤ 1000 ∧ 0 < k.2 ∧ k.2 ≤ 4611686018427387904
  | [], ks, h => by cases h; exact ⟨rfl, by simp⟩
  | p :: l, ks, h => by
    unfold entS at h
    split at h
    · rename_i e; cases e
    · rename_i b n l' e
      cases e
      split at h
      · rename_i hb
        simp only [Bool.and_eq_true, decide_eq_true_eq] at hb
        obtain ⟨m, h3, rfl⟩ := Option.map_eq_some_iff.1 h
        obtain ⟨a1, a2⟩ := entS_some h3
        refine ⟨by rw [List.map_cons, ← a1], fun z hz => ?_⟩
        rcases List.mem_cons.1 hz with rfl | hz
        · exact ⟨by simpa using hb.1, hb.2⟩
        · exact a2 z hz
      · cases h
    · cases h
theorem rv_int {ι : Emb} {n : Int} {v : Value} (h : RV ι (.int .i64 n) v) : v = .int .i64 n := by cases h; rfl

theorem own_of {B : Nat} {ι : Eng.Emb} {w : World} {L : Eng.Loc} {es : List (Value × Value)} {ks : List (List UInt8 × Int)} (h : RB Try.prog B ι w L (.map es)) (hk : entS es = some ks) (hlen : es.length ≤ 1000000) :
    ∃ (n : Nat) (D0 : DataW Unit), w.ownsMap Try.prog 9 RI L.cb n D0 ∧ (strKeys D0).Perm (ks.map (·.1)) ∧ (∀ k ∈ ks, numD D0 k.1 = k.2) ∧ Maps.size D0 ≤ 1000000 ∧ ∀ x, has D0 (.string x) = true → ∃ k ∈ ks, k.1 = x := by
  obtain ⟨hB, ents, clock, hwm, hmr⟩ := h
  obtain ⟨hk1, hk2⟩ := entS_some hk
  have hkeyOf : ∀ s : List UInt8, s.length ≤ 1000 → keyOf Try.prog 9 (.string ⟨s.toArray⟩) = some (.string s) := fun s hs => by
    have := Go.WideMaps.keyOf_string_mk (P := Try.prog) (k := 9) Try.underlying9 (s := ⟨s.toArray⟩) (by show s.length ≤ maxLen; unfold maxLen; omega)
    simpa using this
  have hval : ∀ x ∈ ents.toList, ∃ k ∈ ks, x.key = .string ⟨k.1.toArray⟩ ∧ x.val = .int .i64 k.2 := fun x hx => by
    obtain ⟨p, hp, he⟩ := hmr.bwd x hx
    rw [hk1] at hp
    obtain ⟨k, hkm, rfl⟩ := List.mem_map.1 hp
    obtain ⟨x', hx', ex', rv⟩ := hmr.fwd _ (by rw [hk1]; exact List.mem_map.2 ⟨k, hkm, rfl⟩)
    have hck := hmr.ckeys
    rw [List.Nodup, List.pairwise_map] at hck
    have : x' = x := entry_eq_of_key hck hx' hx (by rw [ex', ← he])
    subst this
    exact ⟨k, hkm, he.symm, rv_int rv⟩
  have hRI : ∀ k ∈ ks, RI (.int .i64 k.2) = some (.lit (.int .i64 k.2), []) := fun k hkm => plainElem_int Try.underlying3 (by have := hk2 k hkm; simp [Lit.wf, IntKind.min, IntKind.max, IntKind.signed, IntKind.bits]; omega)
  have hrd : ∀ x ∈ ents.toList, ∀ k ∈ ks, x.key = .string ⟨k.1.toArray⟩ → x.val = .int .i64 k.2 → WideElems.rd Try.prog 9 RI x = some (.string k.1, .lit (.int .i64 k.2)) := fun x hx k hkm e1 e2 => by
    have h1 := hkeyOf k.1 (hk2 k hkm).1
    rw [← e1] at h1
    have h2 := hRI k hkm
    rw [← e2] at h2
    simp [WideElems.rd, h1, h2]
  have hfit : WideElems.Fit Try.prog 9 RI ents clock := ⟨by have := hmr.len; unfold maxLen; omega, ⟨hmr.clk, hmr.born, hmr.ckeys⟩, fun x hx => by obtain ⟨k, hkm, e1, e2⟩ := hval x hx; exact ⟨_, hrd x hx k hkm e1 e2⟩⟩
  obtain ⟨D0, hD0⟩ : ∃ D0 : DataW Unit, D0 = .map ((ents.toList.map (WideElems.rg Try.prog 9 RI)).foldr DataW.insert []) := ⟨_, rfl⟩
  have hown : w.ownsMap Try.prog 9 RI L.cb ents.size D0 := ⟨ents, clock, hwm, hfit, Nat.le_refl _, hD0⟩
  have hinj : ∀ s s' : List UInt8, Value.string ⟨s.toArray⟩ = Value.string ⟨s'.toArray⟩ → s = s' := fun s s' e => by simpa using e
  have hnd : (ks.map (·.1)).Nodup := by
    have := hmr.keys
    rw [hk1, List.map_map, List.Nodup, List.pairwise_map] at this
    rw [List.Nodup, List.pairwise_map]
    exact this.imp fun h e => h (by simp [e])
  have hnum : ∀ k ∈ ks, numD D0 k.1 = k.2 := fun k hkm => by
    obtain ⟨x, hx, ex, rv⟩ := hmr.fwd _ (by rw [hk1]; exact List.mem_map.2 ⟨k, hkm, rfl⟩)
    rcases Maps.fit_look false law9 Try.underlying27 (Try.zeroValue3 w) hwm hfit (hkeyOf k.1 (hk2 k hkm).1) with ⟨_, h2, _⟩ | ⟨e0, y, h1, h2, _, h4, h5, _⟩
    · exact absurd ex (h2 x hx)
    · obtain ⟨k', hk', e1, e2⟩ := hval e0 h1
      have : k'.1 = k.1 := hinj _ _ (by rw [← e1, h2])
      have hck := hmr.ckeys
      rw [List.Nodup, List.pairwise_map] at hck
      have hxe : e0 = x := entry_eq_of_key hck h1 hx (by rw [h2, ex])
      subst hxe
      rw [rv_int rv] at h4
      rw [hRI k hkm] at h4
      cases h4
      unfold numD
      rw [hD0, h5]
  refine ⟨ents.size, D0, hown, ?_, hnum, ?_, fun x hx => ?_⟩
  · rw [hD0]
    show ((((ents.toList.map (WideElems.rg Try.prog 9 RI)).foldr DataW.insert [])).map fun p => Go.strOf p.1).Perm (ks.map (·.1))
    refine ((Go.WideShapes.sorted_perm _).map _).trans ?_
    rw [List.map_map]
    have hst : ∀ x ∈ ents.toList, ∀ k ∈ ks, x.key = .string ⟨k.1.toArray⟩ → x.val = .int .i64 k.2 → ((fun p : Lit × DataW Unit => Go.strOf p.1) ∘ WideElems.rg Try.prog 9 RI) x = k.1 := fun x hx k hkm e1 e2 => by
      have := hrd x hx k hkm e1 e2
      simp [WideElems.rg, this, Go.strOf]
    have nd1 : (ents.toList.map ((fun p : Lit × DataW Unit => Go.strOf p.1) ∘ WideElems.rg Try.prog 9 RI)).Nodup := by
      rw [List.Nodup, List.pairwise_map]
      have hck := hmr.ckeys
      rw [List.Nodup, List.pairwise_map] at hck
      refine hck.imp_of_mem fun {x y} hx hy hne => ?_
      obtain ⟨k, hkm, e1, e2⟩ := hval x hx
      obtain ⟨k', hkm', e1', e2'⟩ := hval y hy
      rw [hst x hx k hkm e1 e2, hst y hy k' hkm' e1' e2']
      intro he
      rw [e1, e1', he] at hne
      exact hne rfl
    refine (List.perm_ext_iff_of_nodup nd1 hnd).2 fun s => ?_
    constructor
    · intro h
      obtain ⟨x, hx, rfl⟩ := List.mem_map.1 h
      obtain ⟨k, hkm, e1, e2⟩ := hval x hx
      rw [hst x hx k hkm e1 e2]
      exact List.mem_map_of_mem hkm
    · intro hs
      obtain ⟨k, hkm, rfl⟩ := List.mem_map.1 hs
      obtain ⟨x, hx, ex, rv⟩ := hmr.fwd _ (by rw [hk1]; exact List.mem_map.2 ⟨k, hkm, rfl⟩)
      exact List.mem_map.2 ⟨x, hx, hst x hx k hkm ex (rv_int rv)⟩
  · rw [hD0]
    show (((ents.toList.map (WideElems.rg Try.prog 9 RI)).foldr DataW.insert [])).length ≤ _
    rw [(Go.WideShapes.sorted_perm _).length_eq]
    have := hmr.len
    simp; omega
  · rw [hD0] at hx
    have hx : (((ents.toList.map (WideElems.rg Try.prog 9 RI)).foldr DataW.insert [])).any (fun p => p.1.sameKey (.string x)) = true := hx
    obtain ⟨p, hp, hs⟩ := List.any_eq_true.1 hx
    have hp := (Go.WideShapes.sorted_perm _).mem_iff.1 hp
    obtain ⟨e, he, rfl⟩ := List.mem_map.1 hp
    obtain ⟨k, hkm, e1, e2⟩ := hval e he
    have := hrd e he k hkm e1 e2
    refine ⟨k, hkm, ?_⟩
    simp [WideElems.rg, this, Lit.sameKey] at hs
    exact hs

end Go.Proofs.Ythjjkinpbpealaa

/-
  Chapter 45: waiting, Next (and Copy of nil) as prims: the proofs.
  Conditions: none. By an AI agent.
-/
set_option linter.unusedSimpArgs false
set_option linter.unusedVariables false
namespace Go.Proofs.Ythjjkinpbpealaa
open Go Eng Go.Maps

theorem Eng.Rel.pushB {P : Program} {B : Nat} {ι : Emb} {H : AHeap} {w w' : World} (r : Rel P B ι H w) (hbl : RowKit.Below w.heap.size w w') (k : Blk) (L : Eng.Loc) (h1 : w.heap.size ≤ L.cb) (h2 : L.cb < w'.heap.size) (hk : RB P B ι w' L k) :
    Rel P B (up ι H.n L) (H.push k) w' ∧ Stp ι H w (up ι H.n L) (H.push k) w' := by
  refine ⟨r.lay k L h2 hbl.size hk (fun b M h _ => by have := (r.lt b M h).2; omega) (by have := r.base; omega) (fun c hc _ => hbl.block c hc), ?_⟩
  constructor
  · intro b hb; simp [up, show b ≠ H.n by omega]
  · simp
  · exact hbl.size
  · exact hbl.os
  · exact hbl.tape
  · exact hbl.output
  · intro c hc _; exact hbl.block c hc
  · intro b M hb h
    by_cases hbn : b = H.n
    · simp [up, hbn] at h
      subst h
      exact .inl h1
    · simp [up, hbn] at h
      have := (r.lt b M h).1
      omega
  · intro b _ hb _ ho
    rwa [AHeap.push_old _ _ (by omega)] at ho
  · exact VO.push _ _

theorem rows_ok {H : AHeap} (hl : Eng.Cl H) {n c : Nat} {ks : List (List UInt8 × Int)} : OkV H (H.push (.cells (ks.map fun k => .string ⟨k.1.toArray⟩) 9 true)) (.slice (some ⟨H.n, 0, none⟩) n c) := by
  refine ⟨hl.push (fun xs e rw hk v hv => ?_) (fun es hk => by cases hk), .sl (by simp), VO.push _ _⟩
  cases hk
  obtain ⟨s, _, rfl⟩ := List.mem_map.1 hv
  exact .str _

theorem minE_spec (now : Int) : ∀ {ks : List (List UInt8 × Int)}, (∀ k ∈ ks, 0 < k.2) → (minE now ks = 0 ∧ ∀ k ∈ ks, k.2 ≤ now) ∨ ((∃ k ∈ ks, ¬ k.2 ≤ now ∧ minE now ks = k.2) ∧ ∀ k ∈ ks, ¬ k.2 ≤ now → minE now ks ≤ k.2)
  | [], _ => .inl ⟨rfl, by simp⟩
  | k :: l, h => by
    have ih := minE_spec now (ks := l) fun k hk => h k (by simp [hk])
    have h0 := h k (by simp)
    unfold minE
    by_cases h1 : k.2 ≤ now
    · rw [if_pos (decide_eq_true h1)]
      rcases ih with ⟨a, b⟩ | ⟨⟨k', a, b, c⟩, d⟩
      · exact .inl ⟨a, fun z hz => by
          rcases List.mem_cons.1 hz with rfl | hz
          · exact h1
          · exact b z hz⟩
      · exact .inr ⟨⟨k', by simp [a], b, c⟩, fun z hz hn => by
          rcases List.mem_cons.1 hz with rfl | hz
          · exact absurd h1 hn
          · exact d z hz hn⟩
    · rw [if_neg (by simpa using h1)]
      rcases ih with ⟨a, b⟩ | ⟨⟨k', a, b, c⟩, d⟩
      · rw [a]
        simp only [decide_true, Bool.true_or, if_true]
        exact .inr ⟨⟨k, by simp, h1, rfl⟩, fun z hz hn => by
          rcases List.mem_cons.1 hz with rfl | hz
          · exact Int.le_refl _
          · exact absurd (b z hz) hn⟩
      · have hp := h k' (by simp [a])
        by_cases h2 : k.2 < minE now l
        · rw [if_pos (by simp [h2])]
          exact .inr ⟨⟨k, by simp, h1, rfl⟩, fun z hz hn => by
            rcases List.mem_cons.1 hz with rfl | hz
            · exact Int.le_refl _
            · have := d z hz hn; omega⟩
        · rw [if_neg (by simp; omega)]
          exact .inr ⟨⟨k', by simp [a], b, c⟩, fun z hz hn => by
            rcases List.mem_cons.1 hz with rfl | hz
            · omega
            · exact d z hz hn⟩

theorem endD_of {D0 : DataW Unit} {ks : List (List UInt8 × Int)} {now : Int} (hnum : ∀ k ∈ ks, numD D0 k.1 = k.2) (hpos : ∀ k ∈ ks, 0 < k.2) : ∀ k ∈ ks, endD D0 now k.1 = decide (k.2 ≤ now) := fun k hk => by
  unfold endD
  rw [hnum k hk]
  simp [hpos k hk]

theorem wait_eq {D0 : DataW Unit} {ks : List (List UInt8 × Int)} {now : Int} {ss : List (List UInt8)} (hnum : ∀ k ∈ ks, numD D0 k.1 = k.2) (hpos : ∀ k ∈ ks, 0 < k.2) (hperm : (strKeys D0).Perm (ks.map (·.1))) (h1 : ss.Perm ((strKeys D0).filter (endD D0 now))) (h2 : ss.Pairwise (fun x y => ¬ befP (numD D0) y x)) :
    ss = (sortE (ks.filter fun k => decide (k.2 ≤ now))).map (·.1) := by
  have hf : (ks.map (·.1)).filter (endD D0 now) = (ks.filter fun k => decide (k.2 ≤ now)).map (·.1) := by
    rw [List.filter_map]
    congr 1
    exact List.filter_congr fun k hk => endD_of hnum hpos k hk
  have hp : ss.Perm ((sortE (ks.filter fun k => decide (k.2 ≤ now))).map (·.1)) := by
    refine h1.trans ((hperm.filter _).trans ?_)
    rw [hf]
    exact ((sortE_perm _).map _).symm
  refine List.Perm.eq_of_pairwise (le := fun x y => ¬ befP (numD D0) y x) (fun a b _ _ x y => bef_tot _ y x) h2 ?_ hp
  rw [List.pairwise_map]
  refine (sortE_sorted _).imp_of_mem fun {a b} ha hb h k => h ?_
  have ma := (List.mem_filter.1 ((sortE_perm _).mem_iff.1 ha)).1
  have mb := (List.mem_filter.1 ((sortE_perm _).mem_iff.1 hb)).1
  rw [befB_iff]
  unfold befP at k
  rwa [hnum a ma, hnum b mb] at k

set_option maxHeartbeats 1000000 in
theorem wait_prim : (CallAd fun _ args H => waitP args H) ∧ CallOK Try.prog fun h args H => if h = 34 then waitP args H else none := by
  constructor
  · intro _ args H v H' h hl _
    replace h : waitP args H = some (v, H') := h
    unfold waitP at h
    split at h
    · split at h
      · split at h
        · cases h; exact OkV.still hl .nils
        · split at h
          · split at h
            · split at h
              · split at h
                · split at h
                  · cases h; exact OkV.still hl .nils
                  · cases h; exact rows_ok hl
                · cases h
              · cases h
            · cases h
          · cases h
        · cases h
      · cases h
    · cases h
  · intro k args H v H' h2 hl had B ι w args' r ha
    by_cases hg : k = 34
    · subst hg
      simp only [if_true] at h2
      unfold waitP at h2
      split at h2
      · rename_i b0 o
        split at h2
        · rename_i xs e rw hf
          cases ha with
          | cons a b =>
            cases b
            cases a with
            | ptr hL =>
              rename_i L
              have hb := r.blk _ _ hL
              rw [hf] at hb
              obtain ⟨cs, e', fr, hw, hsz, hle, hcs, _⟩ := hb
              split at h2
              · rename_i hx
                cases h2
                obtain ⟨v', hv', hrv⟩ := hcs _ _ hx
                cases hrv
                have hcell : w.cell? ⟨L.cb, L.base + o + 1, none⟩ = some (.map none) := by simp [World.cell?, hw, hv', Nat.add_assoc]
                refine Calls.mono (waiting_nilmap _ _ w hcell) ?_
                rintro e w' ⟨rfl, hbl⟩
                obtain ⟨r', s'⟩ := below_rel r hbl
                exact ⟨_, ι, rfl, .nils, r', s'⟩
              · rename_i mb hx
                obtain ⟨v', hv', hrv⟩ := hcs _ _ hx
                split at h2
                · rename_i now hxn
                  obtain ⟨vn, hvn, hrn⟩ := hcs _ _ hxn
                  cases hrn
                  have hcn : w.cell? ⟨L.cb, L.base + o + 2, none⟩ = some (.int .i64 now) := by simp [World.cell?, hw, hvn, Nat.add_assoc]
                  cases hrv with
                  | map hM =>
                    rename_i M
                    have hcell : w.cell? ⟨L.cb, L.base + o + 1, none⟩ = some (.map (some M.cb)) := by simp [World.cell?, hw, hv', Nat.add_assoc]
                    split at h2
                    · rename_i es hfm
                      have hm := r.blk _ _ hM
                      rw [hfm] at hm
                      split at h2
                      · rename_i ks hks
                        split at h2
                        · rename_i hlen
                          obtain ⟨n, D0, hown, hperm, hnum, hsize, _⟩ := own_of hm hks hlen
                          have hpos : ∀ k ∈ ks, 0 < k.2 := fun k hk => ((entS_some hks).2 k hk).2.1
                          refine Calls.mono (waiting_any _ _ M.cb n now D0 w hcell hcn hown hsize) ?_
                          rintro e w' ⟨v2, ss, rfl, hp2, hst, hrow, hnil, hbl⟩
                          have hss := wait_eq hnum hpos hperm hp2 hst
                          obtain ⟨r', s'⟩ := below_rel r hbl
                          obtain ⟨fs, hfs⟩ : ∃ fs, (ks.filter fun k => decide (k.2 ≤ now)) = fs := ⟨_, rfl⟩
                          rw [hfs] at h2 hss
                          have hsl : (sortE fs).length = fs.length := (sortE_perm fs).length_eq
                          have hlen2 : ss.length = fs.length := by rw [hss, List.length_map, hsl]
                          split at h2
                          · rename_i hke
                            cases h2
                            have hk0 : fs = [] := by cases fs with | nil => rfl | cons a b => cases hke
                            have hs0 : ss = [] := List.length_eq_zero_iff.1 (by rw [hlen2, hk0]; rfl)
                            have hv0 := hnil.2 hs0
                            subst hv0
                            exact ⟨_, ι, rfl, .nils, r', s'⟩
                          · rename_i hke
                            cases h2
                            have hs0 : ss ≠ [] := fun h => hke (by rw [h] at hlen2; rw [List.length_eq_zero_iff.1 hlen2.symm]; rfl)
                            rcases hrow.2 with ⟨hv0, _⟩ | ⟨g, cap, cur, rfl, hbase, hgb, h1, h2', h3, h4⟩
                            · exact absurd (hnil.1 hv0) hs0
                            have hcell9 : Try.prog.cellsOf 9 = 1 := by kernel_rfl
                            have hgl : g < w'.heap.size := (Array.getElem?_eq_some_iff.1 hgb).1
                            have hRB : RB Try.prog B ι w' ⟨g, 0, 1, cap⟩ (.cells ((sortE fs).map fun k => .string ⟨k.1.toArray⟩) 9 true) := by
                              refine ⟨cur, 9, (0, 0), hgb, by show cur.size = cap; omega, by show 0 + _ ≤ _; simp; omega, fun i v hv => ?_, fun _ => ⟨by have := r.base; show B ≤ g; omega, rfl, hcell9.symm, fun j _ => by simp⟩⟩
                              have hi : i < (sortE fs).length := by have := (List.getElem?_eq_some_iff.1 hv).1; simpa using this
                              have h4' := congrArg (fun l => l[i]?) h4
                              simp only [List.getElem?_take_of_lt (show i < ss.length * 1 by omega)] at h4'
                              have e1 : (Go.Proofs.encStr (sortE fs)[i].1) = v := by
                                rw [List.getElem?_map, List.getElem?_eq_getElem hi] at hv
                                exact Option.some.inj hv
                              refine ⟨v, ?_, ?_⟩
                              · show cur[0 + i]? = some v
                                rw [Nat.zero_add, ← Array.getElem?_toList, h4', List.getElem?_map, hss, List.getElem?_map, List.getElem?_eq_getElem hi]
                                exact congrArg some e1
                              · rw [← e1]; exact .str _
                            obtain ⟨r2, s2⟩ := r.pushB hbl (.cells ((sortE fs).map fun k => .string ⟨k.1.toArray⟩) 9 true) ⟨g, 0, 1, cap⟩ (by show w.heap.size ≤ g; omega) hgl hRB
                            refine ⟨_, _, rfl, ?_, r2, s2⟩
                            rw [hlen2]
                            exact .sli (L := ⟨g, 0, 1, cap⟩) (by simp [up]) (by omega) (by omega) (by simp)
                        · cases h2
                      · cases h2
                    · cases h2
                · cases h2
              · cases h2
        · cases h2
      · cases h2
    · simp [hg] at h2

set_option maxHeartbeats 1000000 in
theorem next_prim : (CallAd fun _ args H => nextP args H) ∧ CallOK Try.prog fun h args H => if h = 28 then nextP args H else none := by
  constructor
  · intro _ args H v H' h hl _
    replace h : nextP args H = some (v, H') := h
    unfold nextP at h
    split at h
    · cases h; exact OkV.still hl (.int _ _)
    · split at h
      · split at h
        · cases h; exact OkV.still hl (.int _ _)
        · split at h
          · split at h
            · split at h
              · split at h
                · cases h; exact OkV.still hl (.int _ _)
                · cases h
              · cases h
            · cases h
          · cases h
        · cases h
      · cases h
    · cases h
  · intro k args H v H' h2 hl had B ι w args' r ha
    by_cases hg : k = 28
    · subst hg
      simp only [if_true] at h2
      unfold nextP at h2
      split at h2
      · cases h2
        cases ha with
        | cons a b =>
          cases a
          cases b
          refine Calls.mono (next_nilptr w) ?_
          rintro e w' ⟨rfl, rfl⟩
          exact ⟨_, ι, rfl, .int _ _, r, Stp.refl _ _ _ r.dom⟩
      · rename_i b0 o
        split at h2
        · rename_i xs e rw hf
          cases ha with
          | cons a b =>
            cases b
            cases a with
            | ptr hL =>
              rename_i L
              have hb := r.blk _ _ hL
              rw [hf] at hb
              obtain ⟨cs, e', fr, hw, hsz, hle, hcs, _⟩ := hb
              split at h2
              · rename_i hx
                cases h2
                obtain ⟨v', hv', hrv⟩ := hcs _ _ hx
                cases hrv
                have hcell : w.cell? ⟨L.cb, L.base + o + 1, none⟩ = some (.map none) := by simp [World.cell?, hw, hv', Nat.add_assoc]
                refine Calls.mono (next_nilmap _ _ w hcell) ?_
                rintro e w' ⟨rfl, hbl⟩
                obtain ⟨r', s'⟩ := below_rel r hbl
                exact ⟨_, ι, rfl, .int _ _, r', s'⟩
              · rename_i mb hx
                obtain ⟨v', hv', hrv⟩ := hcs _ _ hx
                split at h2
                · rename_i now hxn
                  obtain ⟨vn, hvn, hrn⟩ := hcs _ _ hxn
                  cases hrn
                  have hcn : w.cell? ⟨L.cb, L.base + o + 2, none⟩ = some (.int .i64 now) := by simp [World.cell?, hw, hvn, Nat.add_assoc]
                  cases hrv with
                  | map hM =>
                    rename_i M
                    have hcell : w.cell? ⟨L.cb, L.base + o + 1, none⟩ = some (.map (some M.cb)) := by simp [World.cell?, hw, hv', Nat.add_assoc]
                    split at h2
                    · rename_i es hfm
                      have hm := r.blk _ _ hM
                      rw [hfm] at hm
                      split at h2
                      · rename_i ks hks
                        split at h2
                        · rename_i hlen
                          obtain ⟨n, D0, hown, hperm, hnum, hsize, hhas⟩ := own_of hm hks hlen
                          have hpos : ∀ k ∈ ks, 0 < k.2 := fun k hk => ((entS_some hks).2 k hk).2.1
                          cases h2
                          refine Calls.mono (next_any _ _ M.cb n now D0 w hcell hcn hown (fun x hx => by
                            obtain ⟨k, hk, rfl⟩ := hhas x hx
                            rw [hnum k hk]
                            exact hpos k hk)) ?_
                          rintro e w' ⟨m, rfl, hmin, hbl⟩
                          obtain ⟨r', s'⟩ := below_rel r hbl
                          have hm : m = minE now ks := by
                            have hsp := minE_spec now hpos
                            have hE := endD_of (now := now) hnum hpos
                            have mem : ∀ k ∈ ks, k.1 ∈ strKeys D0 := fun k hk => hperm.mem_iff.2 (List.mem_map_of_mem hk)
                            have mem' : ∀ s ∈ strKeys D0, ∃ k ∈ ks, k.1 = s := fun s hs => by
                              obtain ⟨k, hk, e⟩ := List.mem_map.1 (hperm.mem_iff.1 hs)
                              exact ⟨k, hk, e⟩
                            rcases hmin with ⟨h1, h2⟩ | ⟨⟨s, h1, h2, h3⟩, h4⟩
                            · rcases hsp with ⟨a, _⟩ | ⟨⟨k, a, b, _⟩, _⟩
                              · rw [h1, a]
                              · have := h2 _ (mem k a)
                                rw [hE k a] at this
                                exact absurd (of_decide_eq_true this) b
                            · obtain ⟨k0, hk0, rfl⟩ := mem' s h1
                              rw [hE k0 hk0] at h2
                              rw [hnum k0 hk0] at h3
                              have hn0 := of_decide_eq_false h2
                              rcases hsp with ⟨_, b⟩ | ⟨⟨k, a, b, c⟩, d⟩
                              · exact absurd (b k0 hk0) hn0
                              · have q1 := d k0 hk0 hn0
                                have q2 := h4 _ (mem k a) (by rw [hE k a]; exact decide_eq_false b)
                                rw [hnum k a] at q2
                                omega
                          subst hm
                          exact ⟨_, ι, rfl, .int _ _, r', s'⟩
                        · cases h2
                      · cases h2
                    · cases h2
                · cases h2
              · cases h2
        · cases h2
      · cases h2
    · simp [hg] at h2

theorem copy_prim : (CallAd fun _ args H => copyP args H) ∧ CallOK Try.prog fun h args H => if h = 26 then copyP args H else none := by
  constructor
  · intro _ args H v H' h hl _
    replace h : copyP args H = some (v, H') := h
    unfold copyP at h
    split at h
    · cases h; exact OkV.still hl .nilp
    · cases h
  · intro k args H v H' h2 hl had B ι w args' r ha
    by_cases hg : k = 26
    · subst hg
      simp only [if_true] at h2
      unfold copyP at h2
      split at h2
      · cases h2
        cases ha with
        | cons a b =>
          cases a
          cases b
          refine Calls.mono (copy_nilptr w) ?_
          rintro e w' ⟨rfl, rfl⟩
          exact ⟨_, ι, rfl, .nilp, r, Stp.refl _ _ _ r.dom⟩
      · cases h2
    · simp [hg] at h2

end Go.Proofs.Ythjjkinpbpealaa

/-
  The hints: which temporaries are asked for behind each if, block, loop head, return of each function (a program of ours printed it).
  Conditions: none. By an AI agent.
-/
namespace Go.Proofs.Ythjjkinpbpealaa
open Go Eng

def hintList : List (List (List Nat)) := [
  [],
  [],
  [],
  [[0,1],[4],[0,1,5],[0,1,5,6],[0,1,5,6],[0,1,5,6],[0,1,5,6,7,8],[0,1,5,6],[4],[5,9,10],[4],[4]],
  [[0],[2],[],[0,3,4,5,6],[0,3,4,5,6],[0,3,4,5,6],[0,3,4,5,6,7,8,9],[0,3,4,5,6,7,8,9],[0,3,4,5,6,7,8,9,10],[0,3,4,5,6,7,8,9],[0,3,4,5,6,7,8,9],[0,3,4,5,6,7,8,9,11,13],[2],[0,3,4,5,6,7,8,9,11],[0,3,4,5,6,7,8,9,11,13,14],[0,3,4,5,6,7,8,9,11,13,14],[0,3,4,5,6,7,8,9,11,13,14],[0,3,4,5,6,7,8,9,11,13,14],[2],[0,3,4,5,6,7,8,9],[0,3,4,5,6,7,8,9,11,15],[0,3,4,5,6,7,8,9,11,15],[0,3,4,5,6,7,8,9,11,15],[0,3,4,5,6,7,8,9,11,15],[2],[0,3,4,5,6,7,9],[2],[0,3,4,5,6],[0,3,4,5,6,7,9,16],[0,3,4,5,6,7,9,16],[0,3,4,5,6,7,9,16],[0,3,4,5,6,7,9,16],[0,3,4,5,6],[0,3,4,5,6,20],[0,3,4,5,6,20],[0,3,4,5,6,20],[0,3,4,5,6,20],[2],[2]],
  [[0],[2],[],[0,3,4,5],[0,3,4,5],[0,3,4,5],[0,3,4,5,7],[0,3,4,5,7],[0,3,4,5,7],[0,3,4,5,6],[0,3,4,5,6,8],[0,3,4,5,6,8,9],[0,3,4,5,6,8,9],[0,3,4,5,6,8,9],[0,3,4,5,7],[0,3,4,5,6,10],[0,3,4,5],[2],[2]],
  [[1],[2],[1,3],[1,3,4],[1,3,4],[1,3,4],[1,3,4],[2],[2]],
  [[1],[0],[1],[0],[0]],
  [[0,1,2,3],[0,1,2,3],[8],[0,1,2,3],[8],[0,1,2,3],[8],[0,1,2,3],[8],[0,1,3],[8],[8]],
  [[0,1],[0,1],[4],[0,1],[4],[0,1],[4],[4]],
  [[0],[2],[2]],
  [[0],[2],[2]],
  [[0,1],[0,1],[4,5],[0,1],[4,5],[6],[0,6,23,24,25],[0,6,23,24,25],[0,6,23,24,25],[4,5]],
  [[1],[2],[2]],
  [[0,1],[0,1,5],[0,1,5],[0,1,5],[0,1,5],[4],[4]],
  [[0,3],[0,3],[4],[0,3],[4],[0,3],[4],[4]],
  [[0],[2],[2]],
  [[0,1],[4,5,6],[0,1],[4,5,6],[0,1,8],[4,5,6],[4,5,6]],
  [[0,3],[4],[0,3],[0,3],[4],[4],[0,3],[0,3],[4],[],[],[4],[],[4],[],[],[4]],
  [[2,9],[8],[],[2,9,11],[2,9,11],[2,9,11],[2,9,11],[8],[8]],
  [[3],[0,3,4],[0,3,4],[0,3,4],[0,3,4],[0,3,4,5,6],[0,3,4,5,6],[0,3,4,5,6],[0,3,4,5,6],[8],[3,8,9],[3,8,9],[3,8,9],[2]],
  [[0,1],[4],[4]],
  [[],[0,1,5],[0,1,5],[0,1,5],[0,1,5],[4],[4]],
  [[],[],[4],[],[4],[4]],
  [[4]],
  [[10]],
  [[0],[2],[3],[3,24],[3,24],[3,24],[2]],
  [[0,1],[4],[0,5,6],[0,1,5,6,7],[0,1,5,6,7],[0,1,5,6,7],[0,1,5,6,7,8],[0,1,5,6,7],[4],[0,1,5,6,7,8],[0,1,5,6,7],[4],[0,5],[0,5,6,9],[0,5,6,9],[0,5,6,9],[0,5,6,9,10],[4],[0,5,6,9],[0,5,6,9,10,11],[0,5,6,9,10,11],[0,5,6,9,10,11],[0,5,6,9,10,11],[4],[4]],
  [[0],[2],[3],[0,3,12],[0,3,12],[0,3,12],[0,3,12],[2]],
  [[0,1,2],[0,1,2],[6],[0,1,2],[6],[0,1,2],[6],[0,1,2],[6],[0,1,2],[6],[6]],
  [[0,1],[4],[4]],
  [[4]],
  [[0,1,2,7,8],[6],[6]],
  [[0,1,2],[]],
  [[1,3],[1,3,9],[1,3,9],[1,3,9],[1,3,9],[2]],
  [[0],[2],[2]],
  [[0,1,6],[4,5],[4,5]],
  [[0,1,5],[4],[0,5],[0,1,5,6],[0,1,5,6],[0,1,5,6],[0,1,5,6],[4]],
  [[0],[2],[2]],
  [[3]],
  [[4]],
  [[0,6],[0,6],[4,5],[0,6],[4,5],[4,5]],
  [[0,3,4,5],[0,3,4,5],[0,3,4,5],[0,3,4,5]],
  [[0],[2],[2]],
  [[0,1,2],[6,7,8],[0,1],[6,7,8],[6,7,8]],
  [[],[],[],[8],[8]],
  [],
  [[5]],
  [[3],[3,6,7,8],[3,6,7,8],[3,6,7,8],[3,6,7,8],[2],[2]],
  [[0,1,6],[],[4],[4],[0,1],[4],[0,1],[4],[],[4],[4]],
  [[0,1,6],[],[4],[4],[0,1],[4],[0,1],[4],[],[4],[4]],
  [[4,5]],
  [[0,1,2],[6],[6]],
  [[],[0,1,7,8],[0,1,7,8],[0,1,7,8],[0,1,7,8],[4],[4]],
  [[0],[2],[2]],
  [[],[],[4],[],[4],[4]],
  [[0,1,2,7],[6],[0,1,2,7,8],[6],[0,1,2,7,8],[6],[0,1,2,7,8],[6],[6]],
  [[],[0,1,2,3,4,10,11],[0,1,2,3,4,10,11],[0,1,2,3,4,10,11,12],[],[0,1,2,3,4,10,11,12],[],[0,1,2,3,4,10,11,12],[0,1,2,3,4,10,11,12,13,14],[0,1,2,3,4,10,11,12,13],[0,1,2,3,4,10,11,12,13],[],[0,1,2,3,4,12,13],[0,1,2,3,4,10,11]],
  [[0],[2],[2]],
  [[2]],
  [[2]],
  [[0,1,2,8,9],[0,1,2,8,9,10],[0,1,2,8,9,10],[0,1,2,8,9,10],[0,1,2,8,9,10],[6,7]],
  [[4]],
  [[4]],
  [[4]],
  [[2]],
  [],
  [],
  [[],[0,1,2,3,8],[0,1,2,3,8],[0,1,2,3,8],[0,1,2,3,8],[0,1,2,3,8,9],[0,1,2,3,8,9],[0,1,2,3,8,9]],
  [[0,3,8,9,10],[0,3,8,9,10,11],[0,3,8,9,10,11],[0,3,8,9,10,11],[],[0,3,8,9,12],[0,3,8,9,12],[0,3,8,9,12]],
  [[],[],[0,1,8,9,10,11],[0,1,8,9,10,11],[0,1,8,9,10,11],[0,1,8,9,10,11,12]],
  [[11,13],[0,3,11,12,13,14],[8,9],[8,9],[8,9],[8,9],[8,9],[8,9]],
  [[],[0,8,9],[0,8,9],[0,8,9]],
  [[],[0,1,2,3,9,10],[0,1,2,3,9,10],[0,1,2,3,9,10],[0,1,2,3,9,10],[0,1,2,3,9,10],[0,1,2,3,9,10],[0,1,2,3,9,10],[0,1,2,3,9,10],[8],[0,1,2,3,9,10],[8],[0,1,2,3,9,10],[0,1,2,3,9,10],[0,1,2,3,9,10,11],[0,1,2,3,9,10,11],[0,1,2,3,9,10,11],[0,1,2,3,9,10,11],[0,1,2,3,9,10],[0,1,2,3,9,10],[0,1,2,3,9,10,12],[0,1,2,3,9,10,12],[0,1,2,3,9,10,12],[0,1,2,3,9,10,12],[8]],
  [[11],[0,1,4,11,12],[0,1,4,11,12],[0,1,4,11,12],[0,1,4,11,12],[0,1,4,11,12],[0,1,4,11,12],[0,1,4,11,12],[0,1,4,11,12],[0,1,4,11,12],[0,1,4,11,12],[0,1,4,11,12],[10]],
  [[0,1,4,12,13],[0,1,4,12,13],[0,1,4,12,13],[0,1,4,12,13],[0,1,4,12,13],[0,1,4,12,13],[0,1,4,12,13],[0,1,4,12,13],[0,1,4,12,13],[10,11],[0,1,13],[0,1,4,12,13],[0,1,4,12,13],[0,1,4,12,13],[0,1,4,12,13],[0,1,4,12,13],[0,1,4,12,13],[0,1,4,12,13],[0,1,4,12,13],[0,1,4,12,13],[0,1,4,12,13],[0,1,4,12,13],[10,11]],
  [[0,2],[0,2],[2]],
  [[0,2],[0,2],[0,2],[2]],
  [[4]],
  [[],[0,1,7,8],[0,1,7,8],[0,1,7,8],[0,1,7,8],[4],[4]],
  [],
  [[],[0,2,3,4,10],[0,2,3,4,10],[0,2,3,4,10,11],[0,2,3,4,10,11],[0,2,3,4,10,11],[]],
  [[2]],
  [[2]],
  [[8]],
  [[12]],
  [[4]],
  [[],[0,2,3],[0,2,3],[0,2,3]],
  [[1,2],[10,11],[10,11]],
  [],
  [],
  [],
  [],
  [],
  [],
  [],
  [],
  [],
  [],
  [],
  [],
  [],
  [],
  [],
  [],
  []
]

def hints : Hints := fun f => (hintList[f]?).getD []

end Go.Proofs.Ythjjkinpbpealaa

/-
  Chapter 45: slices.Insert as a Prim; known() returns true.
  Conditions: none. By an AI agent.
-/
namespace Go.Proofs.Ythjjkinpbpealaa
open Go Eng

theorem mixed : Try.prog.follows .mixedOrders = true := by kernel_rfl

def zIns0 : List Value := [(.string (mk [])), (.string (mk []))]
theorem insOK0 : InsOK Try.prog hints 56 24 3 47 zIns0 66 67 where
  mixed := mixed
  body := fun C n a0 a1 a2 H => by kernel_rfl
  hS := Try.underlying24
  hI := Try.underlying3
  hz := by kernel_rfl
  hsz := by kernel_rfl
  ovl := ⟨Try.f66, by kernel_rfl, by decide, by kernel_rfl, by kernel_rfl, by kernel_rfl, by kernel_rfl⟩

noncomputable def prims0 : Prims := fun f => if f = 56 then some (insP Try.prog hints 56 47 zIns0) else if f = 26 then some copyP else if f = 28 then some nextP else if f = 34 then some waitP else none

theorem prims0_ok : PrimsOK Try.prog prims0 := by
  intro f p h
  unfold prims0 at h
  split at h
  · rename_i hf
    have e := Option.some.inj h
    subst hf
    rw [← e]
    exact ins_prim insOK0
  · skip
    split at h
    · rename_i hf
      have e := Option.some.inj h
      subst hf
      rw [← e]
      exact copy_prim
    · skip
      split at h
      · rename_i hf
        have e := Option.some.inj h
        subst hf
        rw [← e]
        exact next_prim
      · skip
        split at h
        · rename_i hf
          have e := Option.some.inj h
          subst hf
          rw [← e]
          exact wait_prim
        · skip
          cases h

theorem known_run : dCall Try.prog prims0 hints 60 7 [] H0 = some (.bool true, H0) := by kernel_rfl

noncomputable def prims1 : Prims := fun f => if f = 7 then some trueP else prims0 f

theorem prims1_ok : PrimsOK Try.prog prims1 := by
  intro f p h
  unfold prims1 at h
  split at h
  · rename_i hf
    have e := Option.some.inj h
    subst hf
    rw [← e]
    exact true_prim prims0_ok mixed ⟨60, _, known_run⟩
  · exact prims0_ok f p h

/-- What a call gives. -/
noncomputable def CC : CallF := D Try.prog prims1 hints

end Go.Proofs.Ythjjkinpbpealaa

/-
  Names of the seat's functions and types (a program of ours printed it).
  Conditions: none. By an AI agent.
-/
namespace Go.Proofs.Ythjjkinpbpealaa
open Go
def F.main_main : FuncId := 0
def F.gosem_cut : FuncId := 1
def F.gosem_cut_init : FuncId := 2
def F.law_ExpireMany : FuncId := 3
def F.law_ExpireHolds : FuncId := 4
def F.law_ExpirePlays : FuncId := 5
def F.law_ExpireNil : FuncId := 6
def F.law_known : FuncId := 7
def F.expire_Store_Put : FuncId := 8
def F.expire_Store_Pass : FuncId := 9
def F.expire_Store_Waiting : FuncId := 10
def F.expire_Store_Len : FuncId := 11
def F.expire_Store_Sweep : FuncId := 12
def F.expire_Store_Alive : FuncId := 13
def F.law_small : FuncId := 14
def F.law_calls : FuncId := 15
def F.expire_Store_Now : FuncId := 16
def F.expire_Store_Get : FuncId := 17
def F.law_Model_do : FuncId := 18
def F.law_sweeps : FuncId := 19
def F.law_Model_waiting : FuncId := 20
def F.law_Model_without : FuncId := 21
def F.law_Model_find : FuncId := 22
def F.law_bad : FuncId := 23
def F.law_Model_alive : FuncId := 24
def F.law_gets : FuncId := 25
def F.expire_Store_Copy : FuncId := 26
def F.law_alike : FuncId := 27
def F.expire_Store_Next : FuncId := 28
def F.expire_Store_Extend : FuncId := 29
def F.expire_Store_Delete : FuncId := 30
def F.expire_check : FuncId := 31
def F.model_Model_Put : FuncId := 32
def F.expire_Store_set : FuncId := 33
def F.expire_Store_waiting : FuncId := 34
def F.model_Model_Len : FuncId := 35
def F.model_Model_Delete : FuncId := 36
def F.slices_DeleteFunc_Pair : FuncId := 37
def F.model_Model_Pairs : FuncId := 38
def F.expire_Store_Alive_1 : FuncId := 39
def F.expire_Store_ended : FuncId := 40
def F.model_Model_Get : FuncId := 41
def F.law_Model_put : FuncId := 42
def F.model_Model_Copy : FuncId := 43
def F.model_Model_at : FuncId := 44
def F.model_Model_set : FuncId := 45
def F.slices_SortFunc_string : FuncId := 46
def F.expire_Store_waiting_1 : FuncId := 47
def F.cmp_Or_int : FuncId := 48
def F.cmp_Compare_int : FuncId := 49
def F.cmp_Compare_string : FuncId := 50
def F.model_Model_place : FuncId := 51
def F.slices_Delete_Pair : FuncId := 52
def F.slices_IndexFunc_Pair : FuncId := 53
def F.slices_Clone_Pair : FuncId := 54
def F.model_check : FuncId := 55
def F.slices_Insert_Pair : FuncId := 56
def F.slices_pdqsortCmpFunc_string : FuncId := 57
def F.math_bits_Len : FuncId := 58
def F.cmp_isNaN_int : FuncId := 59
def F.cmp_isNaN_string : FuncId := 60
def F.slices_BinarySearchFunc_string : FuncId := 61
def F.model_Model_place_1 : FuncId := 62
def F.keys_Compare : FuncId := 63
def F.slices_ContainsFunc_string : FuncId := 64
def F.model_check_1 : FuncId := 65
def F.slices_overlaps_Pair : FuncId := 66
def F.slices_rotateRight_Pair : FuncId := 67
def F.slices_insertionSortCmpFunc_string : FuncId := 68
def F.slices_heapSortCmpFunc_string : FuncId := 69
def F.slices_breakPatternsCmpFunc_string : FuncId := 70
def F.slices_choosePivotCmpFunc_string : FuncId := 71
def F.slices_reverseRangeCmpFunc_string : FuncId := 72
def F.slices_partialInsertionSortCmpFunc_string : FuncId := 73
def F.slices_partitionEqualCmpFunc_string : FuncId := 74
def F.slices_partitionCmpFunc_string : FuncId := 75
def F.math_bits_Len32 : FuncId := 76
def F.math_bits_Len64 : FuncId := 77
def F.strings_Compare : FuncId := 78
def F.slices_IndexFunc_string : FuncId := 79
def F.slices_rotateLeft_Pair : FuncId := 80
def F.slices_siftDownCmpFunc_string : FuncId := 81
def F.slices_nextPowerOfTwo : FuncId := 82
def F.slices_xorshift_Next : FuncId := 83
def F.slices_medianAdjacentCmpFunc_string : FuncId := 84
def F.slices_medianCmpFunc_string : FuncId := 85
def F.internal_bytealg_CompareString : FuncId := 86
def F.slices_Reverse_Pair : FuncId := 87
def F.slices_order2CmpFunc_string : FuncId := 88
def F.internal_bytealg_abigen_runtime_cmpstring : FuncId := 89
def F.runtime_boundsError_Error : FuncId := 90
def F.runtime_boundsError_RuntimeError : FuncId := 91
def F.runtime_errorString_Error : FuncId := 92
def F.runtime_errorString_RuntimeError : FuncId := 93
def F.runtime_plainError_Error : FuncId := 94
def F.runtime_plainError_RuntimeError : FuncId := 95
def F.runtime_errorAddressString_Error : FuncId := 96
def F.runtime_errorAddressString_RuntimeError : FuncId := 97
def F.runtime_TypeAssertionError_Error : FuncId := 98
def F.runtime_TypeAssertionError_RuntimeError : FuncId := 99
def F.runtime_PanicNilError_Error : FuncId := 100
def F.runtime_PanicNilError_RuntimeError : FuncId := 101
def F.internal_abi_Type_Align : FuncId := 102
def F.internal_runtime_maps_unhashableTypeError_Error : FuncId := 103
def F.internal_runtime_maps_unhashableTypeError_RuntimeError : FuncId := 104
def F.internal_abi_Kind_String : FuncId := 105
def T.tuple : TypeId := 0
def T.func : TypeId := 1
def T.int64 : TypeId := 2
def T.int : TypeId := 3
def T.bool : TypeId := 4
def T.uint8 : TypeId := 5
def T.internal_abi_BoundsErrorCode : TypeId := 6
def T.struct_x_int64_y_int_signed_bool_code_abi_BoundsErrorCode : TypeId := 7
def T.runtime_boundsError : TypeId := 8
def T.string : TypeId := 9
def T.runtime_errorString : TypeId := 10
def T.runtime_plainError : TypeId := 11
def T.uintptr : TypeId := 12
def T.struct_msg_string_addr_uintptr : TypeId := 13
def T.runtime_errorAddressString : TypeId := 14
def T.p_runtime_TypeAssertionError : TypeId := 15
def T.p_runtime_PanicNilError : TypeId := 16
def T.p_abi_Type : TypeId := 17
def T.struct_typ_abi_Type : TypeId := 18
def T.internal_runtime_maps_unhashableTypeError : TypeId := 19
def T.interface : TypeId := 20
def T.int32 : TypeId := 21
def T.func_1 : TypeId := 22
def T.p_expire_Store : TypeId := 23
def T.sl_api_Pair : TypeId := 24
def T.struct_list_api_Pair : TypeId := 25
def T.model_Model : TypeId := 26
def T.map_string_int : TypeId := 27
def T.struct_data_model_Model_ends_map_string_int_now_int : TypeId := 28
def T.expire_Store : TypeId := 29
def T.sl_uint8 : TypeId := 30
def T.api_Errno : TypeId := 31
def T.func_2 : TypeId := 32
def T.func_3 : TypeId := 33
def T.func_4 : TypeId := 34
def T.sl_string : TypeId := 35
def T.tuple_1 : TypeId := 36
def T.func_5 : TypeId := 37
def T.func_6 : TypeId := 38
def T.func_7 : TypeId := 39
def T.sl_ticketlinelaw_Act : TypeId := 40
def T.func_8 : TypeId := 41
def T.map_string_bool : TypeId := 42
def T.struct_What_int_Key_string_Value_string_N_int : TypeId := 43
def T.law_Act : TypeId := 44
def T.func_9 : TypeId := 45
def T.struct_Key_string_Value_string : TypeId := 46
def T.api_Pair : TypeId := 47
def T.tuple_2 : TypeId := 48
def T.func_10 : TypeId := 49
def T.func_11 : TypeId := 50
def T.p_ticketlinelaw_Model : TypeId := 51
def T.sl_ticketlinelaw_Entry : TypeId := 52
def T.struct_All_ticketlinelaw_Entry_Now_int : TypeId := 53
def T.law_Model : TypeId := 54
def T.func_12 : TypeId := 55
def T.func_13 : TypeId := 56
def T.func_14 : TypeId := 57
def T.func_15 : TypeId := 58
def T.func_16 : TypeId := 59
def T.func_17 : TypeId := 60
def T.func_18 : TypeId := 61
def T.func_19 : TypeId := 62
def T.func_20 : TypeId := 63
def T.func_21 : TypeId := 64
def T.func_22 : TypeId := 65
def T.func_23 : TypeId := 66
def T.func_24 : TypeId := 67
def T.func_25 : TypeId := 68
def T.tuple_3 : TypeId := 69
def T.func_26 : TypeId := 70
def T.func_27 : TypeId := 71
def T.func_28 : TypeId := 72
def T.func_29 : TypeId := 73
def T.func_30 : TypeId := 74
def T.struct_Key_string_Value_string_End_int : TypeId := 75
def T.law_Entry : TypeId := 76
def T.p_model_Model : TypeId := 77
def T.func_31 : TypeId := 78
def T.tuple_4 : TypeId := 79
def T.func_32 : TypeId := 80
def T.func_33 : TypeId := 81
def T.func_34 : TypeId := 82
def T.func_35 : TypeId := 83
def T.func_36 : TypeId := 84
def T.func_37 : TypeId := 85
def T.tuple_5 : TypeId := 86
def T.func_38 : TypeId := 87
def T.func_39 : TypeId := 88
def T.func_40 : TypeId := 89
def T.func_41 : TypeId := 90
def T.func_42 : TypeId := 91
def T.func_43 : TypeId := 92
def T.func_44 : TypeId := 93
def T.func_45 : TypeId := 94
def T.uint : TypeId := 95
def T.sl_int : TypeId := 96
def T.func_46 : TypeId := 97
def T.func_47 : TypeId := 98
def T.func_48 : TypeId := 99
def T.func_49 : TypeId := 100
def T.func_50 : TypeId := 101
def T.func_51 : TypeId := 102
def T.slices_sortedHint : TypeId := 103
def T.tuple_6 : TypeId := 104
def T.func_52 : TypeId := 105
def T.func_53 : TypeId := 106
def T.func_54 : TypeId := 107
def T.func_55 : TypeId := 108
def T.func_56 : TypeId := 109
def T.uint32 : TypeId := 110
def T.func_57 : TypeId := 111
def T.uint64 : TypeId := 112
def T.func_58 : TypeId := 113
def T.slices_xorshift : TypeId := 114
def T.func_59 : TypeId := 115
def T.func_60 : TypeId := 116
def T.func_61 : TypeId := 117
def T.p_int : TypeId := 118
def T.func_62 : TypeId := 119
def T.func_63 : TypeId := 120
def T.p_slices_xorshift : TypeId := 121
def T.tuple_7 : TypeId := 122
def T.func_64 : TypeId := 123
def T.func_65 : TypeId := 124
def T.struct_interface_abi_Type_concrete_abi_Type_asserted_abi_Typ : TypeId := 125
def T.runtime_TypeAssertionError : TypeId := 126
def T.n0_runtime_PanicNilError : TypeId := 127
def T.struct_0_runtime_PanicNilError : TypeId := 128
def T.runtime_PanicNilError : TypeId := 129
def T.internal_abi_TFlag : TypeId := 130
def T.internal_abi_Kind : TypeId := 131
def T.func_66 : TypeId := 132
def T.p_uint8 : TypeId := 133
def T.internal_abi_NameOff : TypeId := 134
def T.internal_abi_TypeOff : TypeId := 135
def T.struct_Size_uintptr_PtrBytes_uintptr_Hash_uint32_TFlag_abi_T : TypeId := 136
def T.internal_abi_Type : TypeId := 137
def T.unsafe_Pointer : TypeId := 138
end Go.Proofs.Ythjjkinpbpealaa

/-
  The seat's functions as terms over the engine's combinators (a program of ours printed it).
  Conditions: none. By an AI agent.
-/
set_option linter.unusedVariables false
namespace Go.Proofs.Ythjjkinpbpealaa
open Go Eng

/-! (*ticketline.expire.Store).Put -/

noncomputable def s_expire_Store_Put (mg : GT) (mc : CT) (ms : ST) (P : Program) (C : CallF) (a0 : Value) (a1 : Value) (a2 : Value) (a3 : Value) (H : AHeap) (K0 : K) : Res :=
ms (fun k1 =>
bareK (xbin P .eql T.p_expire_Store (.tmp 12) (.const (.pointer none)) a0 (.pointer none)) H fun t13 h1 =>
mc t13 (fun k2 => k2 .ret [(8, (.int .i64 1))] h1) (fun k2 =>
bareK (xbin P .lss T.int (.tmp 15) (.const (.int .i64 0)) a3 (.int .i64 0)) h1 fun t16 h2 =>
mg t16 false (fun o3 => o3 a3 h2) h2 fun t18 h3 =>
mg t16 false (fun o4 => bareK (xbin P .gtr T.int (.tmp 18) (.const (.int .i64 1099511627776)) t18 (.int .i64 1099511627776)) h3 o4) h3 fun t19 h4 =>
pickK t16 (.bool true) t19 fun t20 =>
mc t20 (fun k5 => k5 .ret [(8, (.int .i64 2))] h4) (fun k5 =>
k5 .normal [(0, a0), (1, a1), (2, a2), (3, a3)] h4) (afterK [0, 1, 2, 3] k2)) (blkK [0, 1, 2, 3] 0 k1)) (seqK (fun tT h5 =>
enterK C F.expire_check [(get tT 1), (get tT 2)] h5 fun t23 h6 =>
bareK (xbin P .neq T.api_Errno (.tmp 24) (.const (.int .i64 0)) t23 (.int .i64 0)) h6 fun t25 h7 =>
mc t25 (fun k6 => k6 .ret [(8, t23)] h7) (fun k6 =>
k6 .normal [(0, (get tT 0)), (1, (get tT 1)), (2, (get tT 2)), (3, (get tT 3))] h7) (seqK (fun tT_1 h8 =>
bareK (xbin P .gtr T.int (.tmp 27) (.const (.int .i64 0)) (get tT_1 3) (.int .i64 0)) h8 fun t28 h9 =>
mg t28 true (fun o7 => o7 (get tT_1 3) h9) h9 fun t30 h10 =>
mg t28 true (fun o8 => o8 (get tT_1 0) h10) h10 fun t31 h11 =>
mg t28 true (fun o9 => bareK (xnilCheck t31) h11 o9) h11 fun t32 h12 =>
mg t28 true (fun o10 => bareK (fad 2 t32) h12 o10) h12 fun t33 h13 =>
mg t28 true (fun o11 => bareK (ld1 h13 t33) h13 o11) h13 fun t34 h14 =>
mg t28 true (fun o12 => bareK (xbin P .leq T.int (.tmp 30) (.tmp 34) t30 t34) h14 o12) h14 fun t35 h15 =>
pickK t28 t35 (.bool false) fun t36 =>
mc t36 (fun k13 => k13 .ret [(8, (.int .i64 14))] h15) (fun k13 =>
k13 .normal [(0, (get tT_1 0)), (1, (get tT_1 1)), (2, (get tT_1 2)), (3, (get tT_1 3))] h15) (seqK (fun tT_2 h16 =>
bareK (xnilCheck (get tT_2 0)) h16 fun t38 h17 =>
bareK (fad 0 t38) h17 fun t39 h18 =>
enterK C F.model_Model_Put [t39, (get tT_2 1), (get tT_2 2)] h18 fun t42 h19 =>
bareK (xbin P .neq T.api_Errno (.tmp 43) (.const (.int .i64 0)) t42 (.int .i64 0)) h19 fun t44 h20 =>
mc t44 (fun k14 => k14 .ret [(8, t42)] h20) (fun k14 =>
k14 .normal [(0, (get tT_2 0)), (1, (get tT_2 1)), (3, (get tT_2 3))] h20) (seqK (fun tT_3 h21 =>
enterK C F.expire_Store_set [(get tT_3 0), (get tT_3 1), (get tT_3 3)] h21 fun t49 h22 =>
K0 .ret [(8, (.int .i64 0))] h22) K0)) K0)) K0)) K0)

theorem s_expire_Store_Put_eq (M : CombL) (C : CallF) (LP : LoopH) (a0 : Value) (a1 : Value) (a2 : Value) (a3 : Value) (H : AHeap) : dBodyL M Try.prog hints C LP F.expire_Store_Put [a0, a1, a2, a3] H = s_expire_Store_Put M.b.g M.c M.s Try.prog C a0 a1 a2 a3 H (endK Try.prog [.tmp 8]) := by kernel_rfl

/-! (*ticketline.expire.Store).Pass -/

noncomputable def s_expire_Store_Pass (mg : GT) (mc : CT) (ms : ST) (P : Program) (C : CallF) (a0 : Value) (a1 : Value) (H : AHeap) (K0 : K) : Res :=
ms (fun k1 =>
bareK (xbin P .eql T.p_expire_Store (.tmp 6) (.const (.pointer none)) a0 (.pointer none)) H fun t7 h1 =>
mc t7 (fun k2 => k2 .ret [(4, (.int .i64 1))] h1) (fun k2 =>
bareK (xbin P .lss T.int (.tmp 9) (.const (.int .i64 0)) a1 (.int .i64 0)) h1 fun t10 h2 =>
mg t10 false (fun o3 => o3 a1 h2) h2 fun t12 h3 =>
mg t10 false (fun o4 => bareK (xbin P .gtr T.int (.tmp 12) (.const (.int .i64 1099511627776)) t12 (.int .i64 1099511627776)) h3 o4) h3 fun t13 h4 =>
pickK t10 (.bool true) t13 fun t14 =>
mc t14 (fun k5 => k5 .ret [(4, (.int .i64 2))] h4) (fun k5 =>
bareK (xnilCheck a0) h4 fun t18 h5 =>
bareK (fad 2 t18) h5 fun t19 h6 =>
bareK (ld1 h6 t19) h6 fun t20 h7 =>
bareK (xbin P .lss T.int (.tmp 16) (.tmp 20) a1 t20) h7 fun t21 h8 =>
mc t21 (fun k6 => k6 .ret [(4, (.int .i64 14))] h8) (fun k6 =>
k6 .normal [(0, a0), (1, a1)] h8) (afterK [0, 1] k5)) (afterK [0, 1] k2)) (blkK [0, 1] 0 k1)) (seqK (fun tT h9 =>
bareK (xnilCheck (get tT 0)) h9 fun t24 h10 =>
bareK (fad 2 t24) h10 fun t25 h11 =>
quietK (st1 h11 t25 (get tT 1)) fun _ h12 =>
K0 .ret [(4, (.int .i64 0))] h12) K0)

theorem s_expire_Store_Pass_eq (M : CombL) (C : CallF) (LP : LoopH) (a0 : Value) (a1 : Value) (H : AHeap) : dBodyL M Try.prog hints C LP F.expire_Store_Pass [a0, a1] H = s_expire_Store_Pass M.b.g M.c M.s Try.prog C a0 a1 H (endK Try.prog [.tmp 4]) := by kernel_rfl

/-! (*ticketline.expire.Store).Waiting -/

noncomputable def s_expire_Store_Waiting (mg : GT) (mc : CT) (ms : ST) (P : Program) (C : CallF) (a0 : Value) (H : AHeap) (K0 : K) : Res :=
bareK (xbin P .eql T.p_expire_Store (.tmp 3) (.const (.pointer none)) a0 (.pointer none)) H fun t4 h1 =>
mc t4 (fun k1 => k1 .ret [(2, (.int .i64 0))] h1) (fun k1 =>
k1 .normal [(0, a0)] h1) (seqK (fun tT h2 =>
enterK C F.expire_Store_waiting [(get tT 0)] h2 fun t6 h3 =>
bareK (lenS t6) h3 fun t7 h4 =>
K0 .ret [(2, t7)] h4) K0)

theorem s_expire_Store_Waiting_eq (M : CombL) (C : CallF) (LP : LoopH) (a0 : Value) (H : AHeap) : dBodyL M Try.prog hints C LP F.expire_Store_Waiting [a0] H = s_expire_Store_Waiting M.b.g M.c M.s Try.prog C a0 H (endK Try.prog [.tmp 2]) := by kernel_rfl

/-! (*ticketline.expire.Store).Len -/

noncomputable def s_expire_Store_Len (mg : GT) (mc : CT) (ms : ST) (P : Program) (C : CallF) (a0 : Value) (H : AHeap) (K0 : K) : Res :=
bareK (xbin P .eql T.p_expire_Store (.tmp 3) (.const (.pointer none)) a0 (.pointer none)) H fun t4 h1 =>
mc t4 (fun k1 => k1 .ret [(2, (.int .i64 0))] h1) (fun k1 =>
k1 .normal [(0, a0)] h1) (seqK (fun tT h2 =>
bareK (xnilCheck (get tT 0)) h2 fun t6 h3 =>
bareK (fad 0 t6) h3 fun t7 h4 =>
enterK C F.model_Model_Len [t7] h4 fun t8 h5 =>
enterK C F.expire_Store_Waiting [(get tT 0)] h5 fun t10 h6 =>
bareK (xbin P .sub T.int (.tmp 8) (.tmp 10) t8 t10) h6 fun t11 h7 =>
K0 .ret [(2, t11)] h7) K0)

theorem s_expire_Store_Len_eq (M : CombL) (C : CallF) (LP : LoopH) (a0 : Value) (H : AHeap) : dBodyL M Try.prog hints C LP F.expire_Store_Len [a0] H = s_expire_Store_Len M.b.g M.c M.s Try.prog C a0 H (endK Try.prog [.tmp 2]) := by kernel_rfl

/-! (*ticketline.expire.Store).Sweep -/

noncomputable def s_expire_Store_Sweep (mg : GT) (mc : CT) (ms : ST) (P : Program) (C : CallF) (L0 : Value → Value → Value → Value → Value → AHeap → K → Res) (a0 : Value) (a1 : Value) (H : AHeap) (K0 : K) : Res :=
ms (fun k1 =>
bareK (xbin P .eql T.p_expire_Store (.tmp 10) (.const (.pointer none)) a0 (.pointer none)) H fun t11 h1 =>
mc t11 (fun k2 => k2 .ret [(4, (.slice none 0 0)), (5, (.int .i64 1))] h1) (fun k2 =>
bareK (xbin P .lss T.int (.tmp 13) (.const (.int .i64 1)) a1 (.int .i64 1)) h1 fun t14 h2 =>
mc t14 (fun k3 => k3 .ret [(4, (.slice none 0 0)), (5, (.int .i64 2))] h2) (fun k3 =>
k3 .normal [(0, a0), (1, a1)] h2) (afterK [0, 1] k2)) (blkK [0, 1] 0 k1)) (seqK (fun tT h3 =>
enterK C F.expire_Store_waiting [(get tT 0)] h3 fun t16 h4 =>
bareK (lenS t16) h4 fun t20 h5 =>
nextK C h5 (xbuiltin P .min [T.int, T.int] [(get tT 1), t20] h5) fun t21 h6 =>
bareK (slS T.string 1 t16 none (some t21) none h6) h6 fun t22 h7 =>
bareK (lenS t22) h7 fun t24 h8 =>
ms (fun k4 =>
L0 (get tT 0) t22 t22 t24 (.int .i64 0) h8 (blkK [6] 1 k4)) (seqK (fun tT_1 h9 =>
K0 .ret [(4, (get tT_1 6)), (5, (.int .i64 0))] h9) K0)) K0)

noncomputable def s_expire_Store_Sweep_b0 (mg : GT) (mc : CT) (ms : ST) (P : Program) (C : CallF) (L0 : Value → Value → Value → Value → Value → AHeap → K → Res) (v0 : Value) (v6 : Value) (v23 : Value) (v24 : Value) (v25 : Value) (H : AHeap) (k : K) : Res :=
bareK (xbin P .lss T.int (.tmp 25) (.tmp 24) v25 v24) H fun t26 h9 =>
mc t26 (fun k5 => k5 .normal [(0, v0), (6, v6), (23, v23), (24, v24), (25, v25)] h9) (fun k5 =>
k5 (.exit 1) [(26, t26), (0, v0), (6, v6), (23, v23), (24, v24), (25, v25)] h9) (seqK (fun tT h10 =>
ms (fun k6 =>
bareK (ixS 1 (get tT 23) (get tT 25)) h10 fun t27 h11 =>
bareK (ld1 h11 t27) h11 fun t28 h12 =>
bareK (xnilCheck (get tT 0)) h12 fun t30 h13 =>
bareK (fad 0 t30) h13 fun t31 h14 =>
enterK C F.model_Model_Delete [t31, t28] h14 fun t33 h15 =>
bareK (xnilCheck (get tT 0)) h15 fun t35 h16 =>
bareK (fad 1 t35) h16 fun t36 h17 =>
bareK (ld1 h17 t36) h17 fun t37 h18 =>
nextK C h18 (xbuiltin P .delete [T.map_string_int, T.string] [t37, t28] h18) fun _ h19 =>
k6 .normal [(0, (get tT 0)), (6, (get tT 6)), (23, (get tT 23)), (24, (get tT 24)), (25, (get tT 25))] h19) (seqK (fun tT_1 h20 =>
bareK (xbin P .add T.int (.tmp 25) (.const (.int .i64 1)) (get tT_1 25) (.int .i64 1)) h20 fun t39 h21 =>
k .normal [(0, (get tT_1 0)), (6, (get tT_1 6)), (23, (get tT_1 23)), (24, (get tT_1 24)), (25, t39)] h21) (afterK [0, 6, 23, 24, 25] k))) (afterK [0, 6, 23, 24, 25] k))

theorem s_expire_Store_Sweep_eq (M : CombL) (C : CallF) (LP : LoopH) (a0 : Value) (a1 : Value) (H : AHeap) : dBodyL M Try.prog hints C LP F.expire_Store_Sweep [a0, a1] H = s_expire_Store_Sweep M.b.g M.c M.s Try.prog C (fun v0 v6 v23 v24 v25 H k => loopL M Try.prog hints C LP F.expire_Store_Sweep 0 [(0, v0), (6, v6), (23, v23), (24, v24), (25, v25)] H k) a0 a1 H (endK Try.prog [.tmp 4, .tmp 5]) := by kernel_rfl

theorem s_expire_Store_Sweep_b0_eq (M : CombL) (C : CallF) (LP : LoopH) (v0 : Value) (v6 : Value) (v23 : Value) (v24 : Value) (v25 : Value) (H : AHeap) (k : K) : bodyL M Try.prog hints C LP F.expire_Store_Sweep 0 [(0, v0), (6, v6), (23, v23), (24, v24), (25, v25)] H (afterK [0, 6, 23, 24, 25] k) = s_expire_Store_Sweep_b0 M.b.g M.c M.s Try.prog C (fun v0 v6 v23 v24 v25 H k => loopL M Try.prog hints C LP F.expire_Store_Sweep 0 [(0, v0), (6, v6), (23, v23), (24, v24), (25, v25)] H k) v0 v6 v23 v24 v25 H k := by kernel_rfl

/-! (*ticketline.expire.Store).Alive -/

noncomputable def s_expire_Store_Alive (mg : GT) (mc : CT) (ms : ST) (P : Program) (C : CallF) (a0 : Value) (H : AHeap) (K0 : K) : Res :=
bothK (newv T.p_expire_Store a0 H) fun t1 h1 =>
bareK (ld1 h1 t1) h1 fun t3 h2 =>
bareK (xbin P .eql T.p_expire_Store (.tmp 3) (.const (.pointer none)) t3 (.pointer none)) h2 fun t4 h3 =>
mc t4 (fun k1 => k1 .ret [(2, (.slice none 0 0))] h3) (fun k1 =>
k1 .normal [(1, t1)] h3) (seqK (fun tT h4 =>
bareK (ld1 h4 (get tT 1)) h4 fun t5 h5 =>
bareK (xnilCheck t5) h5 fun t6 h6 =>
bareK (fad 0 t6) h6 fun t7 h7 =>
enterK C F.model_Model_Pairs [t7] h7 fun t8 h8 =>
enterK C F.slices_DeleteFunc_Pair [t8, (.func (.func F.expire_Store_Alive_1) #[] #[(get tT 1)])] h8 fun t10 h9 =>
K0 .ret [(2, t10)] h9) K0)

theorem s_expire_Store_Alive_eq (M : CombL) (C : CallF) (LP : LoopH) (a0 : Value) (H : AHeap) : dBodyL M Try.prog hints C LP F.expire_Store_Alive [a0] H = s_expire_Store_Alive M.b.g M.c M.s Try.prog C a0 H (endK Try.prog [.tmp 2]) := by kernel_rfl

/-! ticketline.ticketlinelaw45.small -/

noncomputable def s_law_small (mg : GT) (mc : CT) (ms : ST) (P : Program) (C : CallF) (L0 : Value → Value → Value → AHeap → K → Res) (a0 : Value) (a1 : Value) (H : AHeap) (K0 : K) : Res :=
ms (fun k1 =>
L0 a0 a1 (.int .i64 0) H (blkK [0, 1] 0 k1)) (seqK (fun tT h1 =>
bareK (lenS (get tT 0)) h1 fun t34 h2 =>
bareK (xbin P .leq T.int (.tmp 34) (.tmp 35) t34 (get tT 1)) h2 fun t36 h3 =>
K0 .ret [(4, t36)] h3) K0)

noncomputable def s_law_small_b0 (mg : GT) (mc : CT) (ms : ST) (P : Program) (C : CallF) (L0 : Value → Value → Value → AHeap → K → Res) (v0 : Value) (v1 : Value) (v5 : Value) (H : AHeap) (k : K) : Res :=
bareK (lenS v0) H fun t8 h1 =>
bareK (xbin P .lss T.int (.tmp 6) (.tmp 8) v5 t8) h1 fun t9 h2 =>
mg t9 true (fun o2 => o2 v5 h2) h2 fun t11 h3 =>
mg t9 true (fun o3 => o3 v1 h3) h3 fun t12 h4 =>
mg t9 true (fun o4 => bareK (xbin P .lss T.int (.tmp 11) (.tmp 12) t11 t12) h4 o4) h4 fun t13 h5 =>
pickK t9 t13 (.bool false) fun t14 =>
mc t14 (fun k5 => k5 .normal [(0, v0), (1, v1), (5, v5)] h5) (fun k5 =>
k5 (.exit 0) [(14, t14), (13, t13), (12, t12), (11, t11), (10, t9), (9, t9), (8, t8), (7, v0), (6, v5), (0, v0), (1, v1), (5, v5)] h5) (seqK (fun tT h6 =>
ms (fun k6 =>
bareK (ixS 4 (get tT 0) (get tT 5)) h6 fun t19 h7 =>
bareK (fad 1 t19) h7 fun t20 h8 =>
bareK (ld1 h8 t20) h8 fun t21 h9 =>
bareK (lenT t21) h9 fun t22 h10 =>
bareK (xbin P .gtr T.int (.tmp 22) (.const (.int .i64 30)) t22 (.int .i64 30)) h10 fun t23 h11 =>
mg t23 false (fun o7 => o7 (get tT 0) h11) h11 fun t25 h12 =>
mg t23 false (fun o8 => o8 (get tT 5) h12) h12 fun t26 h13 =>
mg t23 false (fun o9 => bareK (ixS 4 t25 t26) h13 o9) h13 fun t27 h14 =>
mg t23 false (fun o10 => bareK (fad 2 t27) h14 o10) h14 fun t28 h15 =>
mg t23 false (fun o11 => bareK (ld1 h15 t28) h15 o11) h15 fun t29 h16 =>
mg t23 false (fun o12 => bareK (lenT t29) h16 o12) h16 fun t30 h17 =>
mg t23 false (fun o13 => bareK (xbin P .gtr T.int (.tmp 30) (.const (.int .i64 44)) t30 (.int .i64 44)) h17 o13) h17 fun t31 h18 =>
pickK t23 (.bool true) t31 fun t32 =>
mc t32 (fun k14 => k14 .ret [(4, (.bool false))] h18) (fun k14 =>
k14 .normal [(0, (get tT 0)), (1, (get tT 1)), (5, (get tT 5))] h18) (blkK [0, 1, 5] 1 k6)) (seqK (fun tT_1 h19 =>
bareK (xbin P .add T.int (.tmp 15) (.const (.int .i64 1)) (get tT_1 5) (.int .i64 1)) h19 fun t16 h20 =>
k .normal [(0, (get tT_1 0)), (1, (get tT_1 1)), (5, t16)] h20) (afterK [0, 1, 5] k))) (afterK [0, 1, 5] k))

theorem s_law_small_eq (M : CombL) (C : CallF) (LP : LoopH) (a0 : Value) (a1 : Value) (H : AHeap) : dBodyL M Try.prog hints C LP F.law_small [a0, a1] H = s_law_small M.b.g M.c M.s Try.prog C (fun v0 v1 v5 H k => loopL M Try.prog hints C LP F.law_small 0 [(0, v0), (1, v1), (5, v5)] H k) a0 a1 H (endK Try.prog [.tmp 4]) := by kernel_rfl

theorem s_law_small_b0_eq (M : CombL) (C : CallF) (LP : LoopH) (v0 : Value) (v1 : Value) (v5 : Value) (H : AHeap) (k : K) : bodyL M Try.prog hints C LP F.law_small 0 [(0, v0), (1, v1), (5, v5)] H (afterK [0, 1, 5] k) = s_law_small_b0 M.b.g M.c M.s Try.prog C (fun v0 v1 v5 H k => loopL M Try.prog hints C LP F.law_small 0 [(0, v0), (1, v1), (5, v5)] H k) v0 v1 v5 H k := by kernel_rfl

/-! ticketline.ticketlinelaw45.calls -/

noncomputable def s_law_calls (mg : GT) (mc : CT) (ms : ST) (P : Program) (C : CallF) (a0 : Value) (a1 : Value) (H : AHeap) (K0 : K) : Res :=
bothK (newv T.law_Act a1 H) fun t3 h1 =>
bareK (fad 0 t3) h1 fun t5 h2 =>
bareK (ld1 h2 t5) h2 fun t6 h3 =>
ms (fun k1 =>
bareK (xbin P .eql T.int (.tmp 6) (.const (.int .i64 0)) t6 (.int .i64 0)) h3 fun t8 h4 =>
mc t8 (fun k2 => bareK (fad 1 t3) h4 fun t10 h5 =>
bareK (ld1 h5 t10) h5 fun t11 h6 =>
bareK (fad 2 t3) h6 fun t12 h7 =>
bareK (ld1 h7 t12) h7 fun t13 h8 =>
bareK (fad 3 t3) h8 fun t14 h9 =>
bareK (ld1 h9 t14) h9 fun t15 h10 =>
enterK C F.expire_Store_Put [a0, t11, t13, t15] h10 fun t16 h11 =>
k2 .ret [(4, t16)] h11) (fun k2 =>
bareK (xbin P .eql T.int (.tmp 6) (.const (.int .i64 1)) t6 (.int .i64 1)) h4 fun t18 h12 =>
mc t18 (fun k3 => bareK (fad 1 t3) h12 fun t20 h13 =>
bareK (ld1 h13 t20) h13 fun t21 h14 =>
bareK (fad 3 t3) h14 fun t22 h15 =>
bareK (ld1 h15 t22) h15 fun t23 h16 =>
enterK C F.expire_Store_Extend [a0, t21, t23] h16 fun t24 h17 =>
k3 .ret [(4, t24)] h17) (fun k3 =>
bareK (xbin P .eql T.int (.tmp 6) (.const (.int .i64 2)) t6 (.int .i64 2)) h12 fun t26 h18 =>
mc t26 (fun k4 => bareK (fad 1 t3) h18 fun t28 h19 =>
bareK (ld1 h19 t28) h19 fun t29 h20 =>
enterK C F.expire_Store_Delete [a0, t29] h20 fun t30 h21 =>
k4 .ret [(4, t30)] h21) (fun k4 =>
k4 .normal [(0, a0), (3, t3)] h18) (afterK [0, 3] k3)) (afterK [0, 3] k2)) (blkK [0, 3] 0 k1)) (seqK (fun tT h22 =>
bareK (fad 3 (get tT 3)) h22 fun t32 h23 =>
bareK (ld1 h23 t32) h23 fun t33 h24 =>
enterK C F.expire_Store_Pass [(get tT 0), t33] h24 fun t34 h25 =>
K0 .ret [(4, t34)] h25) K0)

theorem s_law_calls_eq (M : CombL) (C : CallF) (LP : LoopH) (a0 : Value) (a1 : Value) (H : AHeap) : dBodyL M Try.prog hints C LP F.law_calls [a0, a1] H = s_law_calls M.b.g M.c M.s Try.prog C a0 a1 H (endK Try.prog [.tmp 4]) := by kernel_rfl

/-! (*ticketline.expire.Store).Now -/

noncomputable def s_expire_Store_Now (mg : GT) (mc : CT) (ms : ST) (P : Program) (C : CallF) (a0 : Value) (H : AHeap) (K0 : K) : Res :=
bareK (xbin P .eql T.p_expire_Store (.tmp 3) (.const (.pointer none)) a0 (.pointer none)) H fun t4 h1 =>
mc t4 (fun k1 => k1 .ret [(2, (.int .i64 0))] h1) (fun k1 =>
k1 .normal [(0, a0)] h1) (seqK (fun tT h2 =>
bareK (xnilCheck (get tT 0)) h2 fun t6 h3 =>
bareK (fad 2 t6) h3 fun t7 h4 =>
bareK (ld1 h4 t7) h4 fun t8 h5 =>
K0 .ret [(2, t8)] h5) K0)

theorem s_expire_Store_Now_eq (M : CombL) (C : CallF) (LP : LoopH) (a0 : Value) (H : AHeap) : dBodyL M Try.prog hints C LP F.expire_Store_Now [a0] H = s_expire_Store_Now M.b.g M.c M.s Try.prog C a0 H (endK Try.prog [.tmp 2]) := by kernel_rfl

/-! (*ticketline.expire.Store).Get -/

noncomputable def s_expire_Store_Get (mg : GT) (mc : CT) (ms : ST) (P : Program) (C : CallF) (a0 : Value) (a1 : Value) (H : AHeap) (K0 : K) : Res :=
bareK (xbin P .eql T.p_expire_Store (.tmp 9) (.const (.pointer none)) a0 (.pointer none)) H fun t10 h1 =>
mc t10 (fun k1 => k1 .ret [(4, (.string (mk []))), (5, (.int .i64 0)), (6, (.int .i64 1))] h1) (fun k1 =>
k1 .normal [(0, a0), (1, a1)] h1) (seqK (fun tT h2 =>
enterK C F.expire_check [(get tT 1), (.string (mk []))] h2 fun t12 h3 =>
bareK (xbin P .neq T.api_Errno (.tmp 13) (.const (.int .i64 0)) t12 (.int .i64 0)) h3 fun t14 h4 =>
mc t14 (fun k2 => k2 .ret [(4, (.string (mk []))), (5, (.int .i64 0)), (6, t12)] h4) (fun k2 =>
k2 .normal [(0, (get tT 0)), (1, (get tT 1))] h4) (seqK (fun tT_1 h5 =>
bareK (xnilCheck (get tT_1 0)) h5 fun t18 h6 =>
bareK (fad 0 t18) h6 fun t19 h7 =>
enterK C F.model_Model_Get [t19, (get tT_1 1)] h7 fun t21 h8 =>
bareK (xextract t21 0) h8 fun t22 h9 =>
bareK (xextract t21 1) h9 fun t23 h10 =>
bareK (xbin P .neq T.api_Errno (.tmp 24) (.const (.int .i64 0)) t23 (.int .i64 0)) h10 fun t25 h11 =>
mg t25 false (fun o3 => o3 (get tT_1 0) h11) h11 fun t27 h12 =>
mg t25 false (fun o4 => o4 (get tT_1 1) h12) h12 fun t28 h13 =>
mg t25 false (fun o5 => enterK C F.expire_Store_ended [t27, t28] h13 o5) h13 fun t29 h14 =>
pickK t25 (.bool true) t29 fun t30 =>
mc t30 (fun k6 => k6 .ret [(4, (.string (mk []))), (5, (.int .i64 0)), (6, (.int .i64 9))] h14) (fun k6 =>
k6 .normal [(0, (get tT_1 0)), (1, (get tT_1 1)), (8, t22)] h14) (seqK (fun tT_2 h15 =>
bareK (xnilCheck (get tT_2 0)) h15 fun t33 h16 =>
bareK (fad 1 t33) h16 fun t34 h17 =>
bareK (ld1 h17 t34) h17 fun t35 h18 =>
bareK (xlookup P T.map_string_int t35 (get tT_2 1) false h18) h18 fun t37 h19 =>
checkK true <|
K0 .ret [(4, (get tT_2 8)), (5, t37), (6, (.int .i64 0))] h19) K0)) K0)) K0)

theorem s_expire_Store_Get_eq (M : CombL) (C : CallF) (LP : LoopH) (a0 : Value) (a1 : Value) (H : AHeap) : dBodyL M Try.prog hints C LP F.expire_Store_Get [a0, a1] H = s_expire_Store_Get M.b.g M.c M.s Try.prog C a0 a1 H (endK Try.prog [.tmp 4, .tmp 5, .tmp 6]) := by kernel_rfl

/-! (*ticketline.ticketlinelaw45.Model).do -/

noncomputable def s_law_Model_do (mg : GT) (mc : CT) (ms : ST) (P : Program) (C : CallF) (a0 : Value) (a1 : Value) (H : AHeap) (K0 : K) : Res :=
bothK (newv T.law_Act a1 H) fun t3 h1 =>
bareK (fad 0 t3) h1 fun t7 h2 =>
bareK (ld1 h2 t7) h2 fun t8 h3 =>
bareK (xbin P .neq T.int (.tmp 8) (.const (.int .i64 2)) t8 (.int .i64 2)) h3 fun t9 h4 =>
mg t9 true (fun o1 => bareK (fad 3 t3) h4 o1) h4 fun t11 h5 =>
mg t9 true (fun o2 => bareK (ld1 h5 t11) h5 o2) h5 fun t12 h6 =>
mg t9 true (fun o3 => bareK (xbin P .lss T.int (.tmp 12) (.const (.int .i64 0)) t12 (.int .i64 0)) h6 o3) h6 fun t13 h7 =>
mg t9 true (fun o4 => o4 t13 h7) h7 fun t14 h8 =>
mg t14 false (fun o5 => bareK (fad 3 t3) h8 o5) h8 fun t15 h9 =>
mg t14 false (fun o6 => bareK (ld1 h9 t15) h9 o6) h9 fun t16 h10 =>
mg t14 false (fun o7 => bareK (xbin P .gtr T.int (.tmp 16) (.const (.int .i64 1099511627776)) t16 (.int .i64 1099511627776)) h10 o7) h10 fun t17 h11 =>
mg t9 true (fun o8 => pickK t14 (.bool true) t17 fun v => o8 v h11) h11 fun t18 h12 =>
pickK t9 t18 (.bool false) fun t19 =>
mc t19 (fun k9 => k9 .ret [(4, (.int .i64 2))] h12) (fun k9 =>
k9 .normal [(0, a0), (3, t3)] h12) (seqK (fun tT h13 =>
bareK (fad 0 (get tT 3)) h13 fun t20 h14 =>
bareK (ld1 h14 t20) h14 fun t21 h15 =>
bareK (xbin P .eql T.int (.tmp 21) (.const (.int .i64 3)) t21 (.int .i64 3)) h15 fun t22 h16 =>
mc t22 (fun k10 => bareK (fad 3 (get tT 3)) h16 fun t23 h17 =>
bareK (ld1 h17 t23) h17 fun t24 h18 =>
bareK (xnilCheck (get tT 0)) h18 fun t26 h19 =>
bareK (fad 1 t26) h19 fun t27 h20 =>
bareK (ld1 h20 t27) h20 fun t28 h21 =>
bareK (xbin P .lss T.int (.tmp 24) (.tmp 28) t24 t28) h21 fun t29 h22 =>
checkK true <|
mc t29 (fun k11 => k11 .ret [(4, (.int .i64 14))] h22) (fun k11 =>
k11 .normal [(0, (get tT 0)), (3, (get tT 3))] h22) (seqK (fun tT_1 h23 =>
bareK (fad 3 (get tT_1 3)) h23 fun t31 h24 =>
bareK (ld1 h24 t31) h24 fun t32 h25 =>
bareK (xnilCheck (get tT_1 0)) h25 fun t33 h26 =>
bareK (fad 1 t33) h26 fun t34 h27 =>
quietK (st1 h27 t34 t32) fun _ h28 =>
k10 .ret [(4, (.int .i64 0))] h28) (afterK [0, 3] k10))) (fun k10 =>
k10 .normal [(0, (get tT 0)), (3, (get tT 3))] h16) (seqK (fun tT_2 h29 =>
bareK (fad 0 (get tT_2 3)) h29 fun t35 h30 =>
bareK (ld1 h30 t35) h30 fun t36 h31 =>
bareK (xbin P .neq T.int (.tmp 36) (.const (.int .i64 0)) t36 (.int .i64 0)) h31 fun t37 h32 =>
mc t37 (fun k12 => bareK (fad 2 (get tT_2 3)) h32 fun t38 h33 =>
quietK (st1 h33 t38 (.string (mk []))) fun _ h34 =>
k12 .normal [(0, (get tT_2 0)), (3, (get tT_2 3))] h34) (fun k12 =>
k12 .normal [(0, (get tT_2 0)), (3, (get tT_2 3))] h32) (seqK (fun tT_3 h35 =>
bareK (fad 1 (get tT_3 3)) h35 fun t39 h36 =>
bareK (ld1 h36 t39) h36 fun t40 h37 =>
bareK (fad 2 (get tT_3 3)) h37 fun t41 h38 =>
bareK (ld1 h38 t41) h38 fun t42 h39 =>
enterK C F.law_bad [t40, t42] h39 fun t43 h40 =>
bareK (xbin P .neq T.api_Errno (.tmp 44) (.const (.int .i64 0)) t43 (.int .i64 0)) h40 fun t45 h41 =>
mc t45 (fun k13 => k13 .ret [(4, t43)] h41) (fun k13 =>
k13 .normal [(0, (get tT_3 0)), (3, (get tT_3 3))] h41) (seqK (fun tT_4 h42 =>
bareK (fad 1 (get tT_4 3)) h42 fun t48 h43 =>
bareK (ld1 h43 t48) h43 fun t49 h44 =>
enterK C F.law_Model_find [(get tT_4 0), t49] h44 fun t50 h45 =>
ms (fun k14 =>
bareK (fad 0 (get tT_4 3)) h45 fun t58 h46 =>
bareK (ld1 h46 t58) h46 fun t59 h47 =>
bareK (xbin P .neq T.int (.tmp 59) (.const (.int .i64 2)) t59 (.int .i64 2)) h47 fun t60 h48 =>
mg t60 true (fun o15 => bareK (fad 3 (get tT_4 3)) h48 o15) h48 fun t62 h49 =>
mg t60 true (fun o16 => bareK (ld1 h49 t62) h49 o16) h49 fun t63 h50 =>
mg t60 true (fun o17 => bareK (xbin P .neq T.int (.tmp 63) (.const (.int .i64 0)) t63 (.int .i64 0)) h50 o17) h50 fun t64 h51 =>
pickK t60 t64 (.bool false) fun t65 =>
mg t65 true (fun o18 => bareK (fad 3 (get tT_4 3)) h51 o18) h51 fun t67 h52 =>
mg t65 true (fun o19 => bareK (ld1 h52 t67) h52 o19) h52 fun t68 h53 =>
mg t65 true (fun o20 => o20 (get tT_4 0) h53) h53 fun t69 h54 =>
mg t65 true (fun o21 => bareK (xnilCheck t69) h54 o21) h54 fun t70 h55 =>
mg t65 true (fun o22 => bareK (fad 1 t70) h55 o22) h55 fun t71 h56 =>
mg t65 true (fun o23 => bareK (ld1 h56 t71) h56 o23) h56 fun t72 h57 =>
mg t65 true (fun o24 => bareK (xbin P .leq T.int (.tmp 68) (.tmp 72) t68 t72) h57 o24) h57 fun t73 h58 =>
pickK t65 t73 (.bool false) fun t74 =>
checkK true <|
mc t74 (fun k25 => k25 .ret [(4, (.int .i64 14))] h58) (fun k25 =>
bareK (fad 0 (get tT_4 3)) h58 fun t76 h59 =>
bareK (ld1 h59 t76) h59 fun t77 h60 =>
bareK (xbin P .neq T.int (.tmp 77) (.const (.int .i64 0)) t77 (.int .i64 0)) h60 fun t78 h61 =>
mg t78 true (fun o26 => o26 (get tT_4 0) h61) h61 fun t80 h62 =>
mg t78 true (fun o27 => o27 t50 h62) h62 fun t81 h63 =>
mg t78 true (fun o28 => enterK C F.law_Model_alive [t80, t81] h63 o28) h63 fun t82 h64 =>
mg t78 true (fun o29 => bareK (xun P .not t82) h64 o29) h64 fun t83 h65 =>
pickK t78 t83 (.bool false) fun t84 =>
mc t84 (fun k30 => k30 .ret [(4, (.int .i64 9))] h65) (fun k30 =>
bareK (fad 0 (get tT_4 3)) h65 fun t86 h66 =>
bareK (ld1 h66 t86) h66 fun t87 h67 =>
bareK (xbin P .eql T.int (.tmp 87) (.const (.int .i64 0)) t87 (.int .i64 0)) h67 fun t88 h68 =>
mc t88 (fun k31 => bareK (fad 1 (get tT_4 3)) h68 fun t90 h69 =>
bareK (ld1 h69 t90) h69 fun t91 h70 =>
bareK (fad 2 (get tT_4 3)) h70 fun t92 h71 =>
bareK (ld1 h71 t92) h71 fun t93 h72 =>
bareK (fad 3 (get tT_4 3)) h72 fun t94 h73 =>
bareK (ld1 h73 t94) h73 fun t95 h74 =>
bareK (bldS #[(.string (mk [])), (.string (mk [])), (.int .i64 0)] [(0, 1), (1, 1), (2, 1)] [(0, t91), (1, t93), (2, t95)]) h74 fun t96 h75 =>
enterK C F.law_Model_put [(get tT_4 0), t96] h75 fun t97 h76 =>
k31 .normal [] h76) (fun k31 =>
bareK (fad 0 (get tT_4 3)) h68 fun t99 h77 =>
bareK (ld1 h77 t99) h77 fun t100 h78 =>
bareK (xbin P .eql T.int (.tmp 100) (.const (.int .i64 1)) t100 (.int .i64 1)) h78 fun t101 h79 =>
mc t101 (fun k32 => bareK (fad 1 (get tT_4 3)) h79 fun t103 h80 =>
bareK (ld1 h80 t103) h80 fun t104 h81 =>
bareK (xnilCheck (get tT_4 0)) h81 fun t106 h82 =>
bareK (fad 0 t106) h82 fun t107 h83 =>
bareK (ld1 h83 t107) h83 fun t108 h84 =>
bareK (ixS 3 t108 t50) h84 fun t110 h85 =>
bareK (fad 1 t110) h85 fun t111 h86 =>
bareK (ld1 h86 t111) h86 fun t112 h87 =>
bareK (fad 3 (get tT_4 3)) h87 fun t113 h88 =>
bareK (ld1 h88 t113) h88 fun t114 h89 =>
bareK (bldS #[(.string (mk [])), (.string (mk [])), (.int .i64 0)] [(0, 1), (1, 1), (2, 1)] [(0, t104), (1, t112), (2, t114)]) h89 fun t115 h90 =>
enterK C F.law_Model_put [(get tT_4 0), t115] h90 fun t116 h91 =>
checkK true <|
k32 .normal [] h91) (fun k32 =>
enterK C F.law_Model_without [(get tT_4 0), t50] h79 fun t54 h92 =>
bareK (xnilCheck (get tT_4 0)) h92 fun t55 h93 =>
bareK (fad 0 t55) h93 fun t56 h94 =>
quietK (st1 h94 t56 t54) fun _ h95 =>
k32 .normal [] h95) (afterK [] k31)) (afterK [] k30)) (afterK [] k25)) (blkK [] 0 k14)) (seqK (fun tT_5 h96 =>
K0 .ret [(4, (.int .i64 0))] h96) K0)) K0)) K0)) K0)) K0)

theorem s_law_Model_do_eq (M : CombL) (C : CallF) (LP : LoopH) (a0 : Value) (a1 : Value) (H : AHeap) : dBodyL M Try.prog hints C LP F.law_Model_do [a0, a1] H = s_law_Model_do M.b.g M.c M.s Try.prog C a0 a1 H (endK Try.prog [.tmp 4]) := by kernel_rfl

/-! ticketline.ticketlinelaw45.sweeps -/

noncomputable def s_law_sweeps (mg : GT) (mc : CT) (ms : ST) (P : Program) (C : CallF) (L0 : Value → Value → Value → AHeap → K → Res) (a0 : Value) (a1 : Value) (a2 : Value) (a3 : Value) (H : AHeap) (K0 : K) : Res :=
enterK C F.expire_Store_Sweep [a0, a1] H fun t15 h1 =>
bareK (xextract t15 0) h1 fun t16 h2 =>
bareK (xextract t15 1) h2 fun t17 h3 =>
bareK (lenS t16) h3 fun t19 h4 =>
bareK (lenS a2) h4 fun t21 h5 =>
bareK (xbin P .neq T.int (.tmp 19) (.tmp 21) t19 t21) h5 fun t22 h6 =>
mg t22 false (fun o1 => o1 t17 h6) h6 fun t24 h7 =>
mg t22 false (fun o2 => o2 a3 h7) h7 fun t25 h8 =>
mg t22 false (fun o3 => bareK (xbin P .neq T.int (.tmp 24) (.tmp 25) t24 t25) h8 o3) h8 fun t26 h9 =>
pickK t22 (.bool true) t26 fun t27 =>
mc t27 (fun k4 => k4 .ret [(8, (.bool false))] h9) (fun k4 =>
k4 .normal [(2, a2), (9, t16)] h9) (seqK (fun tT h10 =>
ms (fun k5 =>
L0 (get tT 2) (get tT 9) (.int .i64 0) h10 (blkK [] 0 k5)) (seqK (fun tT_1 h11 =>
K0 .ret [(8, (.bool true))] h11) K0)) K0)

noncomputable def s_law_sweeps_b0 (mg : GT) (mc : CT) (ms : ST) (P : Program) (C : CallF) (L0 : Value → Value → Value → AHeap → K → Res) (v2 : Value) (v9 : Value) (v11 : Value) (H : AHeap) (k : K) : Res :=
bareK (lenS v9) H fun t30 h11 =>
bareK (xbin P .lss T.int (.tmp 28) (.tmp 30) v11 t30) h11 fun t31 h12 =>
mc t31 (fun k6 => k6 .normal [(2, v2), (9, v9), (11, v11)] h12) (fun k6 =>
k6 (.exit 0) [(31, t31), (30, t30), (29, v9), (28, v11), (2, v2), (9, v9), (11, v11)] h12) (seqK (fun tT h13 =>
ms (fun k7 =>
bareK (ixS 1 (get tT 9) (get tT 11)) h13 fun t36 h14 =>
bareK (ld1 h14 t36) h14 fun t37 h15 =>
bareK (ixS 1 (get tT 2) (get tT 11)) h15 fun t40 h16 =>
bareK (ld1 h16 t40) h16 fun t41 h17 =>
bareK (xbin P .neq T.string (.tmp 37) (.tmp 41) t37 t41) h17 fun t42 h18 =>
checkK true <|
mc t42 (fun k8 => k8 .ret [(8, (.bool false))] h18) (fun k8 =>
k8 .normal [(2, (get tT 2)), (9, (get tT 9)), (11, (get tT 11))] h18) (blkK [2, 9, 11] 1 k7)) (seqK (fun tT_1 h19 =>
bareK (xbin P .add T.int (.tmp 32) (.const (.int .i64 1)) (get tT_1 11) (.int .i64 1)) h19 fun t33 h20 =>
k .normal [(2, (get tT_1 2)), (9, (get tT_1 9)), (11, t33)] h20) (afterK [2, 9, 11] k))) (afterK [2, 9, 11] k))

theorem s_law_sweeps_eq (M : CombL) (C : CallF) (LP : LoopH) (a0 : Value) (a1 : Value) (a2 : Value) (a3 : Value) (H : AHeap) : dBodyL M Try.prog hints C LP F.law_sweeps [a0, a1, a2, a3] H = s_law_sweeps M.b.g M.c M.s Try.prog C (fun v2 v9 v11 H k => loopL M Try.prog hints C LP F.law_sweeps 0 [(2, v2), (9, v9), (11, v11)] H k) a0 a1 a2 a3 H (endK Try.prog [.tmp 8]) := by kernel_rfl

theorem s_law_sweeps_b0_eq (M : CombL) (C : CallF) (LP : LoopH) (v2 : Value) (v9 : Value) (v11 : Value) (H : AHeap) (k : K) : bodyL M Try.prog hints C LP F.law_sweeps 0 [(2, v2), (9, v9), (11, v11)] H (afterK [2, 9, 11] k) = s_law_sweeps_b0 M.b.g M.c M.s Try.prog C (fun v2 v9 v11 H k => loopL M Try.prog hints C LP F.law_sweeps 0 [(2, v2), (9, v9), (11, v11)] H k) v2 v9 v11 H k := by kernel_rfl

/-! (*ticketline.ticketlinelaw45.Model).waiting -/

noncomputable def s_law_Model_waiting (mg : GT) (mc : CT) (ms : ST) (P : Program) (C : CallF) (L0 : Value → Value → Value → AHeap → K → Res) (L1 : Value → Value → Value → Value → Value → AHeap → K → Res) (L2 : Value → Value → Value → AHeap → K → Res) (a0 : Value) (H : AHeap) (K0 : K) : Res :=
ms (fun k1 =>
L0 a0 (.slice none 0 0) (.int .i64 0) H (blkK [3] 0 k1)) (seqK (fun tT h1 =>
ms (fun k2 =>
L2 (get tT 3) (.slice none 0 0) (.int .i64 0) h1 (blkK [8] 4 k2)) (seqK (fun tT_1 h2 =>
K0 .ret [(2, (get tT_1 8))] h2) K0)) K0)

noncomputable def s_law_Model_waiting_b0 (mg : GT) (mc : CT) (ms : ST) (P : Program) (C : CallF) (L0 : Value → Value → Value → AHeap → K → Res) (L1 : Value → Value → Value → Value → Value → AHeap → K → Res) (L2 : Value → Value → Value → AHeap → K → Res) (v0 : Value) (v3 : Value) (v4 : Value) (H : AHeap) (k : K) : Res :=
bareK (xnilCheck v0) H fun t12 h1 =>
bareK (fad 0 t12) h1 fun t13 h2 =>
bareK (ld1 h2 t13) h2 fun t14 h3 =>
bareK (lenS t14) h3 fun t15 h4 =>
bareK (xbin P .lss T.int (.tmp 10) (.tmp 15) v4 t15) h4 fun t16 h5 =>
mc t16 (fun k2 => k2 .normal [(0, v0), (3, v3), (4, v4)] h5) (fun k2 =>
k2 (.exit 0) [(16, t16), (15, t15), (14, t14), (13, t13), (12, t12), (11, v0), (10, v4), (0, v0), (3, v3), (4, v4)] h5) (seqK (fun tT h6 =>
ms (fun k3 =>
enterK C F.law_Model_alive [(get tT 0), (get tT 4)] h6 fun t21 h7 =>
mc t21 (fun k4 => k4 (.exit 1) ((21, t21) :: (20, (get tT 4)) :: (19, (get tT 0)) :: tT) h7) (fun k4 =>
k4 .normal [(0, (get tT 0)), (3, (get tT 3)), (4, (get tT 4))] h7) (seqK (fun tT_1 h8 =>
bareK (xnilCheck (get tT_1 0)) h8 fun t23 h9 =>
bareK (fad 0 t23) h9 fun t24 h10 =>
bareK (ld1 h10 t24) h10 fun t25 h11 =>
bareK (ixS 3 t25 (get tT_1 4)) h11 fun t27 h12 =>
bareK (ldN 3 h12 t27) h12 fun t28 h13 =>
bothK (newv T.law_Entry (.agg #[(.string (mk [])), (.string (mk [])), (.int .i64 0)]) h13) fun t5 h14 =>
quietK (stN 3 h14 t5 t28) fun _ h15 =>
ms (fun k5 =>
L1 (get tT_1 0) (get tT_1 3) (get tT_1 4) t5 (.int .i64 0) h15 (blkK [0, 3, 4, 5, 6] 2 k5)) (seqK (fun tT_2 h16 =>
bareK (ldN 3 h16 (get tT_2 5)) h16 fun t65 h17 =>
bothK (bldL T.law_Entry [(.string (mk [])), (.string (mk [])), (.int .i64 0)] 1 [(0, t65)] h17) fun t66 h18 =>
bareK (slS T.law_Entry 3 (get tT_2 3) (some (get tT_2 6)) none none h18) h18 fun t69 h19 =>
bothK (app T.law_Entry 3 40 t66 (srcS 3 t69 h19) h19) fun t70 h20 =>
checkK true <|
bareK (slS T.law_Entry 3 (get tT_2 3) none (some (get tT_2 6)) none h20) h20 fun t73 h21 =>
bothK (app T.law_Entry 3 40 (.slice none 0 0) (srcS 3 t73 h21) h21) fun t74 h22 =>
bothK (app T.law_Entry 3 40 t74 (srcS 3 t70 h22) h22) fun t76 h23 =>
k3 .normal [(0, (get tT_2 0)), (3, t76), (4, (get tT_2 4))] h23) (blkK [0, 3, 4] 1 k3))) (blkK [0, 3, 4] 1 k3))) (seqK (fun tT_3 h24 =>
bareK (xbin P .add T.int (.tmp 17) (.const (.int .i64 1)) (get tT_3 4) (.int .i64 1)) h24 fun t18 h25 =>
k .normal [(0, (get tT_3 0)), (3, (get tT_3 3)), (4, t18)] h25) (afterK [0, 3, 4] k))) (afterK [0, 3, 4] k))

noncomputable def s_law_Model_waiting_b1 (mg : GT) (mc : CT) (ms : ST) (P : Program) (C : CallF) (L0 : Value → Value → Value → AHeap → K → Res) (L1 : Value → Value → Value → Value → Value → AHeap → K → Res) (L2 : Value → Value → Value → AHeap → K → Res) (v0 : Value) (v3 : Value) (v4 : Value) (v5 : Value) (v6 : Value) (H : AHeap) (k : K) : Res :=
bareK (lenS v3) H fun t31 h16 =>
bareK (xbin P .lss T.int (.tmp 29) (.tmp 31) v6 t31) h16 fun t32 h17 =>
mg t32 true (fun o6 => o6 v3 h17) h17 fun t34 h18 =>
mg t32 true (fun o7 => o7 v6 h18) h18 fun t35 h19 =>
mg t32 true (fun o8 => bareK (ixS 3 t34 t35) h19 o8) h19 fun t36 h20 =>
mg t32 true (fun o9 => bareK (fad 2 t36) h20 o9) h20 fun t37 h21 =>
mg t32 true (fun o10 => bareK (ld1 h21 t37) h21 o10) h21 fun t38 h22 =>
mg t32 true (fun o11 => bareK (fad 2 v5) h22 o11) h22 fun t39 h23 =>
mg t32 true (fun o12 => bareK (ld1 h23 t39) h23 o12) h23 fun t40 h24 =>
mg t32 true (fun o13 => bareK (xbin P .lss T.int (.tmp 38) (.tmp 40) t38 t40) h24 o13) h24 fun t41 h25 =>
mg t32 true (fun o14 => o14 t41 h25) h25 fun t42 h26 =>
mg t42 false (fun o15 => o15 v3 h26) h26 fun t43 h27 =>
mg t42 false (fun o16 => o16 v6 h27) h27 fun t44 h28 =>
mg t42 false (fun o17 => bareK (ixS 3 t43 t44) h28 o17) h28 fun t45 h29 =>
mg t42 false (fun o18 => bareK (fad 2 t45) h29 o18) h29 fun t46 h30 =>
mg t42 false (fun o19 => bareK (ld1 h30 t46) h30 o19) h30 fun t47 h31 =>
mg t42 false (fun o20 => bareK (fad 2 v5) h31 o20) h31 fun t48 h32 =>
mg t42 false (fun o21 => bareK (ld1 h32 t48) h32 o21) h32 fun t49 h33 =>
mg t42 false (fun o22 => bareK (xbin P .eql T.int (.tmp 47) (.tmp 49) t47 t49) h33 o22) h33 fun t50 h34 =>
mg t42 false (fun o23 => o23 t50 h34) h34 fun t51 h35 =>
mg t51 true (fun o24 => o24 v3 h35) h35 fun t52 h36 =>
mg t51 true (fun o25 => o25 v6 h36) h36 fun t53 h37 =>
mg t51 true (fun o26 => bareK (ixS 3 t52 t53) h37 o26) h37 fun t54 h38 =>
mg t51 true (fun o27 => bareK (fad 0 t54) h38 o27) h38 fun t55 h39 =>
mg t51 true (fun o28 => bareK (ld1 h39 t55) h39 o28) h39 fun t56 h40 =>
mg t51 true (fun o29 => bareK (fad 0 v5) h40 o29) h40 fun t57 h41 =>
mg t51 true (fun o30 => bareK (ld1 h41 t57) h41 o30) h41 fun t58 h42 =>
mg t51 true (fun o31 => bareK (xbin P .lss T.string (.tmp 56) (.tmp 58) t56 t58) h42 o31) h42 fun t59 h43 =>
mg t42 false (fun o32 => pickK t51 t59 (.bool false) fun v => o32 v h43) h43 fun t60 h44 =>
mg t32 true (fun o33 => pickK t42 (.bool true) t60 fun v => o33 v h44) h44 fun t61 h45 =>
pickK t32 t61 (.bool false) fun t62 =>
checkK true <|
mc t62 (fun k34 => k34 .normal [(0, v0), (3, v3), (4, v4), (5, v5), (6, v6)] h45) (fun k34 =>
k34 (.exit 2) [(62, t62), (61, t61), (60, t60), (59, t59), (58, t58), (57, t57), (56, t56), (55, t55), (54, t54), (53, t53), (52, t52), (51, t51), (50, t50), (49, t49), (48, t48), (47, t47), (46, t46), (45, t45), (44, t44), (43, t43), (42, t42), (41, t41), (40, t40), (39, t39), (38, t38), (37, t37), (36, t36), (35, t35), (34, t34), (33, t32), (32, t32), (31, t31), (30, v3), (29, v6), (0, v0), (3, v3), (4, v4), (5, v5), (6, v6)] h45) (seqK (fun tT h46 =>
ms (fun k35 =>
bareK (xbin P .add T.int (.tmp 63) (.const (.int .i64 1)) (get tT 6) (.int .i64 1)) h46 fun t64 h47 =>
k35 .normal [(0, (get tT 0)), (3, (get tT 3)), (4, (get tT 4)), (5, (get tT 5)), (6, t64)] h47) (afterK [0, 3, 4, 5, 6] k)) (afterK [0, 3, 4, 5, 6] k))

noncomputable def s_law_Model_waiting_b2 (mg : GT) (mc : CT) (ms : ST) (P : Program) (C : CallF) (L0 : Value → Value → Value → AHeap → K → Res) (L1 : Value → Value → Value → Value → Value → AHeap → K → Res) (L2 : Value → Value → Value → AHeap → K → Res) (v3 : Value) (v8 : Value) (v9 : Value) (H : AHeap) (k : K) : Res :=
bareK (lenS v3) H fun t79 h2 =>
bareK (xbin P .lss T.int (.tmp 77) (.tmp 79) v9 t79) h2 fun t80 h3 =>
mc t80 (fun k3 => k3 .normal [(3, v3), (8, v8), (9, v9)] h3) (fun k3 =>
k3 (.exit 4) [(80, t80), (79, t79), (78, v3), (77, v9), (3, v3), (8, v8), (9, v9)] h3) (seqK (fun tT h4 =>
ms (fun k4 =>
bareK (ixS 3 (get tT 3) (get tT 9)) h4 fun t86 h5 =>
bareK (fad 0 t86) h5 fun t87 h6 =>
bareK (ld1 h6 t87) h6 fun t88 h7 =>
bothK (bldL T.string [(.string (mk []))] 1 [(0, t88)] h7) fun t89 h8 =>
bothK (app T.string 1 16 (get tT 8) (srcS 1 t89 h8) h8) fun t90 h9 =>
k4 .normal [(3, (get tT 3)), (8, t90), (9, (get tT 9))] h9) (seqK (fun tT_1 h10 =>
bareK (xbin P .add T.int (.tmp 81) (.const (.int .i64 1)) (get tT_1 9) (.int .i64 1)) h10 fun t82 h11 =>
k .normal [(3, (get tT_1 3)), (8, (get tT_1 8)), (9, t82)] h11) (afterK [3, 8, 9] k))) (afterK [3, 8, 9] k))

theorem s_law_Model_waiting_eq (M : CombL) (C : CallF) (LP : LoopH) (a0 : Value) (H : AHeap) : dBodyL M Try.prog hints C LP F.law_Model_waiting [a0] H = s_law_Model_waiting M.b.g M.c M.s Try.prog C (fun v0 v3 v4 H k => loopL M Try.prog hints C LP F.law_Model_waiting 0 [(0, v0), (3, v3), (4, v4)] H k) (fun v0 v3 v4 v5 v6 H k => loopL M Try.prog hints C LP F.law_Model_waiting 1 [(0, v0), (3, v3), (4, v4), (5, v5), (6, v6)] H k) (fun v3 v8 v9 H k => loopL M Try.prog hints C LP F.law_Model_waiting 2 [(3, v3), (8, v8), (9, v9)] H k) a0 H (endK Try.prog [.tmp 2]) := by kernel_rfl

theorem s_law_Model_waiting_b0_eq (M : CombL) (C : CallF) (LP : LoopH) (v0 : Value) (v3 : Value) (v4 : Value) (H : AHeap) (k : K) : bodyL M Try.prog hints C LP F.law_Model_waiting 0 [(0, v0), (3, v3), (4, v4)] H (afterK [0, 3, 4] k) = s_law_Model_waiting_b0 M.b.g M.c M.s Try.prog C (fun v0 v3 v4 H k => loopL M Try.prog hints C LP F.law_Model_waiting 0 [(0, v0), (3, v3), (4, v4)] H k) (fun v0 v3 v4 v5 v6 H k => loopL M Try.prog hints C LP F.law_Model_waiting 1 [(0, v0), (3, v3), (4, v4), (5, v5), (6, v6)] H k) (fun v3 v8 v9 H k => loopL M Try.prog hints C LP F.law_Model_waiting 2 [(3, v3), (8, v8), (9, v9)] H k) v0 v3 v4 H k := by kernel_rfl

theorem s_law_Model_waiting_b1_eq (M : CombL) (C : CallF) (LP : LoopH) (v0 : Value) (v3 : Value) (v4 : Value) (v5 : Value) (v6 : Value) (H : AHeap) (k : K) : bodyL M Try.prog hints C LP F.law_Model_waiting 1 [(0, v0), (3, v3), (4, v4), (5, v5), (6, v6)] H (afterK [0, 3, 4, 5, 6] k) = s_law_Model_waiting_b1 M.b.g M.c M.s Try.prog C (fun v0 v3 v4 H k => loopL M Try.prog hints C LP F.law_Model_waiting 0 [(0, v0), (3, v3), (4, v4)] H k) (fun v0 v3 v4 v5 v6 H k => loopL M Try.prog hints C LP F.law_Model_waiting 1 [(0, v0), (3, v3), (4, v4), (5, v5), (6, v6)] H k) (fun v3 v8 v9 H k => loopL M Try.prog hints C LP F.law_Model_waiting 2 [(3, v3), (8, v8), (9, v9)] H k) v0 v3 v4 v5 v6 H k := by kernel_rfl

theorem s_law_Model_waiting_b2_eq (M : CombL) (C : CallF) (LP : LoopH) (v3 : Value) (v8 : Value) (v9 : Value) (H : AHeap) (k : K) : bodyL M Try.prog hints C LP F.law_Model_waiting 2 [(3, v3), (8, v8), (9, v9)] H (afterK [3, 8, 9] k) = s_law_Model_waiting_b2 M.b.g M.c M.s Try.prog C (fun v0 v3 v4 H k => loopL M Try.prog hints C LP F.law_Model_waiting 0 [(0, v0), (3, v3), (4, v4)] H k) (fun v0 v3 v4 v5 v6 H k => loopL M Try.prog hints C LP F.law_Model_waiting 1 [(0, v0), (3, v3), (4, v4), (5, v5), (6, v6)] H k) (fun v3 v8 v9 H k => loopL M Try.prog hints C LP F.law_Model_waiting 2 [(3, v3), (8, v8), (9, v9)] H k) v3 v8 v9 H k := by kernel_rfl

/-! (*ticketline.ticketlinelaw45.Model).without -/

noncomputable def s_law_Model_without (mg : GT) (mc : CT) (ms : ST) (P : Program) (C : CallF) (a0 : Value) (a1 : Value) (H : AHeap) (K0 : K) : Res :=
bareK (xbin P .lss T.int (.tmp 5) (.const (.int .i64 0)) a1 (.int .i64 0)) H fun t6 h1 =>
mc t6 (fun k1 => bareK (xnilCheck a0) h1 fun t8 h2 =>
bareK (fad 0 t8) h2 fun t9 h3 =>
bareK (ld1 h3 t9) h3 fun t10 h4 =>
k1 .ret [(4, t10)] h4) (fun k1 =>
k1 .normal [(0, a0), (1, a1)] h1) (seqK (fun tT h5 =>
bareK (xnilCheck (get tT 0)) h5 fun t12 h6 =>
bareK (fad 0 t12) h6 fun t13 h7 =>
bareK (ld1 h7 t13) h7 fun t14 h8 =>
bareK (slS T.law_Entry 3 t14 none (some (get tT 1)) none h8) h8 fun t16 h9 =>
bothK (app T.law_Entry 3 40 (.slice none 0 0) (srcS 3 t16 h9) h9) fun t17 h10 =>
bareK (xnilCheck (get tT 0)) h10 fun t19 h11 =>
bareK (fad 0 t19) h11 fun t20 h12 =>
bareK (ld1 h12 t20) h12 fun t21 h13 =>
bareK (xbin P .add T.int (.tmp 22) (.const (.int .i64 1)) (get tT 1) (.int .i64 1)) h13 fun t23 h14 =>
bareK (slS T.law_Entry 3 t21 (some t23) none none h14) h14 fun t24 h15 =>
bothK (app T.law_Entry 3 40 t17 (srcS 3 t24 h15) h15) fun t25 h16 =>
checkK (okV (some true) none h9 h10 h10 h10 && (okV (some true) none h9 h10 h10 h11 && (okV (some true) none h9 h10 h11 h12 && (okV (some true) (blockOf t20) h9 h10 h12 h13 && (okV (some true) none h9 h10 h13 h13 && (okV (some true) none h9 h10 h13 h14 && (okV (some true) (blockOf t21) h9 h10 h14 h15 && true))))))) <|
K0 .ret [(4, t25)] h16) K0)

theorem s_law_Model_without_eq (M : CombL) (C : CallF) (LP : LoopH) (a0 : Value) (a1 : Value) (H : AHeap) : dBodyL M Try.prog hints C LP F.law_Model_without [a0, a1] H = s_law_Model_without M.b.g M.c M.s Try.prog C a0 a1 H (endK Try.prog [.tmp 4]) := by kernel_rfl

/-! (*ticketline.ticketlinelaw45.Model).find -/

noncomputable def s_law_Model_find (mg : GT) (mc : CT) (ms : ST) (P : Program) (C : CallF) (L0 : Value → Value → Value → AHeap → K → Res) (a0 : Value) (a1 : Value) (H : AHeap) (K0 : K) : Res :=
ms (fun k1 =>
L0 a0 a1 (.int .i64 0) H (blkK [] 0 k1)) (seqK (fun tT h1 =>
K0 .ret [(4, (.int .i64 (-1)))] h1) K0)

noncomputable def s_law_Model_find_b0 (mg : GT) (mc : CT) (ms : ST) (P : Program) (C : CallF) (L0 : Value → Value → Value → AHeap → K → Res) (v0 : Value) (v1 : Value) (v5 : Value) (H : AHeap) (k : K) : Res :=
bareK (xnilCheck v0) H fun t8 h1 =>
bareK (fad 0 t8) h1 fun t9 h2 =>
bareK (ld1 h2 t9) h2 fun t10 h3 =>
bareK (lenS t10) h3 fun t11 h4 =>
bareK (xbin P .lss T.int (.tmp 6) (.tmp 11) v5 t11) h4 fun t12 h5 =>
mc t12 (fun k2 => k2 .normal [(0, v0), (1, v1), (5, v5)] h5) (fun k2 =>
k2 (.exit 0) [(12, t12), (11, t11), (10, t10), (9, t9), (8, t8), (7, v0), (6, v5), (0, v0), (1, v1), (5, v5)] h5) (seqK (fun tT h6 =>
ms (fun k3 =>
bareK (xnilCheck (get tT 0)) h6 fun t16 h7 =>
bareK (fad 0 t16) h7 fun t17 h8 =>
bareK (ld1 h8 t17) h8 fun t18 h9 =>
bareK (ixS 3 t18 (get tT 5)) h9 fun t20 h10 =>
bareK (fad 0 t20) h10 fun t21 h11 =>
bareK (ld1 h11 t21) h11 fun t22 h12 =>
bareK (xbin P .eql T.string (.tmp 22) (.tmp 23) t22 (get tT 1)) h12 fun t24 h13 =>
mc t24 (fun k4 => k4 .ret [(4, (get tT 5))] h13) (fun k4 =>
k4 .normal [(0, (get tT 0)), (1, (get tT 1)), (5, (get tT 5))] h13) (blkK [0, 1, 5] 1 k3)) (seqK (fun tT_1 h14 =>
bareK (xbin P .add T.int (.tmp 13) (.const (.int .i64 1)) (get tT_1 5) (.int .i64 1)) h14 fun t14 h15 =>
k .normal [(0, (get tT_1 0)), (1, (get tT_1 1)), (5, t14)] h15) (afterK [0, 1, 5] k))) (afterK [0, 1, 5] k))

theorem s_law_Model_find_eq (M : CombL) (C : CallF) (LP : LoopH) (a0 : Value) (a1 : Value) (H : AHeap) : dBodyL M Try.prog hints C LP F.law_Model_find [a0, a1] H = s_law_Model_find M.b.g M.c M.s Try.prog C (fun v0 v1 v5 H k => loopL M Try.prog hints C LP F.law_Model_find 0 [(0, v0), (1, v1), (5, v5)] H k) a0 a1 H (endK Try.prog [.tmp 4]) := by kernel_rfl

theorem s_law_Model_find_b0_eq (M : CombL) (C : CallF) (LP : LoopH) (v0 : Value) (v1 : Value) (v5 : Value) (H : AHeap) (k : K) : bodyL M Try.prog hints C LP F.law_Model_find 0 [(0, v0), (1, v1), (5, v5)] H (afterK [0, 1, 5] k) = s_law_Model_find_b0 M.b.g M.c M.s Try.prog C (fun v0 v1 v5 H k => loopL M Try.prog hints C LP F.law_Model_find 0 [(0, v0), (1, v1), (5, v5)] H k) v0 v1 v5 H k := by kernel_rfl

/-! ticketline.ticketlinelaw45.bad -/

noncomputable def s_law_bad (mg : GT) (mc : CT) (ms : ST) (P : Program) (C : CallF) (a0 : Value) (a1 : Value) (H : AHeap) (K0 : K) : Res :=
ms (fun k1 =>
bareK (lenT a0) H fun t7 h1 =>
bareK (xbin P .eql T.int (.tmp 7) (.const (.int .i64 0)) t7 (.int .i64 0)) h1 fun t8 h2 =>
mc t8 (fun k2 => k2 .ret [(4, (.int .i64 2))] h2) (fun k2 =>
bareK (lenT a0) h2 fun t11 h3 =>
bareK (xbin P .gtr T.int (.tmp 11) (.const (.int .i64 24)) t11 (.int .i64 24)) h3 fun t12 h4 =>
mg t12 false (fun o3 => o3 a1 h4) h4 fun t14 h5 =>
mg t12 false (fun o4 => bareK (lenT t14) h5 o4) h5 fun t15 h6 =>
mg t12 false (fun o5 => bareK (xbin P .gtr T.int (.tmp 15) (.const (.int .i64 40)) t15 (.int .i64 40)) h6 o5) h6 fun t16 h7 =>
pickK t12 (.bool true) t16 fun t17 =>
mc t17 (fun k6 => k6 .ret [(4, (.int .i64 5))] h7) (fun k6 =>
k6 .normal [] h7) (afterK [] k2)) (blkK [] 0 k1)) (seqK (fun tT h8 =>
K0 .ret [(4, (.int .i64 0))] h8) K0)

theorem s_law_bad_eq (M : CombL) (C : CallF) (LP : LoopH) (a0 : Value) (a1 : Value) (H : AHeap) : dBodyL M Try.prog hints C LP F.law_bad [a0, a1] H = s_law_bad M.b.g M.c M.s Try.prog C a0 a1 H (endK Try.prog [.tmp 4]) := by kernel_rfl

/-! (*ticketline.ticketlinelaw45.Model).alive -/

noncomputable def s_law_Model_alive (mg : GT) (mc : CT) (ms : ST) (P : Program) (C : CallF) (a0 : Value) (a1 : Value) (H : AHeap) (K0 : K) : Res :=
bareK (xbin P .geq T.int (.tmp 5) (.const (.int .i64 0)) a1 (.int .i64 0)) H fun t6 h1 =>
mg t6 true (fun o1 => o1 a0 h1) h1 fun t8 h2 =>
mg t6 true (fun o2 => bareK (xnilCheck t8) h2 o2) h2 fun t9 h3 =>
mg t6 true (fun o3 => bareK (fad 0 t9) h3 o3) h3 fun t10 h4 =>
mg t6 true (fun o4 => bareK (ld1 h4 t10) h4 o4) h4 fun t11 h5 =>
mg t6 true (fun o5 => o5 a1 h5) h5 fun t12 h6 =>
mg t6 true (fun o6 => bareK (ixS 3 t11 t12) h6 o6) h6 fun t13 h7 =>
mg t6 true (fun o7 => bareK (fad 2 t13) h7 o7) h7 fun t14 h8 =>
mg t6 true (fun o8 => bareK (ld1 h8 t14) h8 o8) h8 fun t15 h9 =>
mg t6 true (fun o9 => bareK (xbin P .eql T.int (.tmp 15) (.const (.int .i64 0)) t15 (.int .i64 0)) h9 o9) h9 fun t16 h10 =>
mg t6 true (fun o10 => o10 t16 h10) h10 fun t17 h11 =>
mg t17 false (fun o11 => o11 a0 h11) h11 fun t18 h12 =>
mg t17 false (fun o12 => bareK (xnilCheck t18) h12 o12) h12 fun t19 h13 =>
mg t17 false (fun o13 => bareK (fad 0 t19) h13 o13) h13 fun t20 h14 =>
mg t17 false (fun o14 => bareK (ld1 h14 t20) h14 o14) h14 fun t21 h15 =>
mg t17 false (fun o15 => o15 a1 h15) h15 fun t22 h16 =>
mg t17 false (fun o16 => bareK (ixS 3 t21 t22) h16 o16) h16 fun t23 h17 =>
mg t17 false (fun o17 => bareK (fad 2 t23) h17 o17) h17 fun t24 h18 =>
mg t17 false (fun o18 => bareK (ld1 h18 t24) h18 o18) h18 fun t25 h19 =>
mg t17 false (fun o19 => o19 a0 h19) h19 fun t26 h20 =>
mg t17 false (fun o20 => bareK (xnilCheck t26) h20 o20) h20 fun t27 h21 =>
mg t17 false (fun o21 => bareK (fad 1 t27) h21 o21) h21 fun t28 h22 =>
mg t17 false (fun o22 => bareK (ld1 h22 t28) h22 o22) h22 fun t29 h23 =>
mg t17 false (fun o23 => bareK (xbin P .gtr T.int (.tmp 25) (.tmp 29) t25 t29) h23 o23) h23 fun t30 h24 =>
mg t6 true (fun o24 => pickK t17 (.bool true) t30 fun v => o24 v h24) h24 fun t31 h25 =>
pickK t6 t31 (.bool false) fun t32 =>
checkK true <|
K0 .ret [(4, t32)] h25

theorem s_law_Model_alive_eq (M : CombL) (C : CallF) (LP : LoopH) (a0 : Value) (a1 : Value) (H : AHeap) : dBodyL M Try.prog hints C LP F.law_Model_alive [a0, a1] H = s_law_Model_alive M.b.g M.c M.s Try.prog C a0 a1 H (endK Try.prog [.tmp 4]) := by kernel_rfl

/-! ticketline.ticketlinelaw45.gets -/

noncomputable def s_law_gets (mg : GT) (mc : CT) (ms : ST) (P : Program) (C : CallF) (a0 : Value) (a1 : Value) (a2 : Value) (a3 : Value) (a4 : Value) (H : AHeap) (K0 : K) : Res :=
enterK C F.expire_Store_Get [a0, a1] H fun t17 h1 =>
bareK (xextract t17 0) h1 fun t18 h2 =>
bareK (xextract t17 1) h2 fun t19 h3 =>
bareK (xextract t17 2) h3 fun t20 h4 =>
bareK (xbin P .eql T.string (.tmp 21) (.tmp 22) t18 a2) h4 fun t23 h5 =>
mg t23 true (fun o1 => o1 t19 h5) h5 fun t25 h6 =>
mg t23 true (fun o2 => o2 a3 h6) h6 fun t26 h7 =>
mg t23 true (fun o3 => bareK (xbin P .eql T.int (.tmp 25) (.tmp 26) t25 t26) h7 o3) h7 fun t27 h8 =>
pickK t23 t27 (.bool false) fun t28 =>
mg t28 true (fun o4 => o4 t20 h8) h8 fun t30 h9 =>
mg t28 true (fun o5 => o5 a4 h9) h9 fun t31 h10 =>
mg t28 true (fun o6 => bareK (xbin P .eql T.int (.tmp 30) (.tmp 31) t30 t31) h10 o6) h10 fun t32 h11 =>
pickK t28 t32 (.bool false) fun t33 =>
K0 .ret [(10, t33)] h11

theorem s_law_gets_eq (M : CombL) (C : CallF) (LP : LoopH) (a0 : Value) (a1 : Value) (a2 : Value) (a3 : Value) (a4 : Value) (H : AHeap) : dBodyL M Try.prog hints C LP F.law_gets [a0, a1, a2, a3, a4] H = s_law_gets M.b.g M.c M.s Try.prog C a0 a1 a2 a3 a4 H (endK Try.prog [.tmp 10]) := by kernel_rfl

/-! ticketline.ticketlinelaw45.alike -/

noncomputable def s_law_alike (mg : GT) (mc : CT) (ms : ST) (P : Program) (C : CallF) (L0 : Value → Value → Value → Value → Value → AHeap → K → Res) (L1 : Value → Value → Value → Value → AHeap → K → Res) (L2 : Value → Value → Value → Value → Value → Value → AHeap → K → Res) (a0 : Value) (a1 : Value) (H : AHeap) (K0 : K) : Res :=
bareK (xbin P .eql T.p_expire_Store (.tmp 12) (.const (.pointer none)) a0 (.pointer none)) H fun t13 h1 =>
mg t13 false (fun o1 => o1 a0 h1) h1 fun t15 h2 =>
mg t13 false (fun o2 => enterK C F.expire_Store_Now [t15] h2 o2) h2 fun t16 h3 =>
mg t13 false (fun o3 => o3 a1 h3) h3 fun t17 h4 =>
mg t13 false (fun o4 => bareK (xnilCheck t17) h4 o4) h4 fun t18 h5 =>
mg t13 false (fun o5 => bareK (fad 1 t18) h5 o5) h5 fun t19 h6 =>
mg t13 false (fun o6 => bareK (ld1 h6 t19) h6 o6) h6 fun t20 h7 =>
mg t13 false (fun o7 => bareK (xbin P .neq T.int (.tmp 16) (.tmp 20) t16 t20) h7 o7) h7 fun t21 h8 =>
pickK t13 (.bool true) t21 fun t22 =>
mg t22 false (fun o8 => o8 a0 h8) h8 fun t24 h9 =>
mg t22 false (fun o9 => enterK C F.expire_Store_Waiting [t24] h9 o9) h9 fun t25 h10 =>
mg t22 false (fun o10 => o10 a1 h10) h10 fun t26 h11 =>
mg t22 false (fun o11 => enterK C F.law_Model_waiting [t26] h11 o11) h11 fun t27 h12 =>
mg t22 false (fun o12 => bareK (lenS t27) h12 o12) h12 fun t28 h13 =>
mg t22 false (fun o13 => bareK (xbin P .neq T.int (.tmp 25) (.tmp 28) t25 t28) h13 o13) h13 fun t29 h14 =>
pickK t22 (.bool true) t29 fun t30 =>
mg t30 false (fun o14 => o14 a0 h14) h14 fun t32 h15 =>
mg t30 false (fun o15 => enterK C F.expire_Store_Len [t32] h15 o15) h15 fun t33 h16 =>
mg t30 false (fun o16 => o16 a1 h16) h16 fun t34 h17 =>
mg t30 false (fun o17 => bareK (xnilCheck t34) h17 o17) h17 fun t35 h18 =>
mg t30 false (fun o18 => bareK (fad 0 t35) h18 o18) h18 fun t36 h19 =>
mg t30 false (fun o19 => bareK (ld1 h19 t36) h19 o19) h19 fun t37 h20 =>
mg t30 false (fun o20 => bareK (lenS t37) h20 o20) h20 fun t38 h21 =>
mg t30 false (fun o21 => o21 a1 h21) h21 fun t39 h22 =>
mg t30 false (fun o22 => enterK C F.law_Model_waiting [t39] h22 o22) h22 fun t40 h23 =>
mg t30 false (fun o23 => bareK (lenS t40) h23 o23) h23 fun t41 h24 =>
mg t30 false (fun o24 => bareK (xbin P .sub T.int (.tmp 38) (.tmp 41) t38 t41) h24 o24) h24 fun t42 h25 =>
mg t30 false (fun o25 => bareK (xbin P .neq T.int (.tmp 33) (.tmp 42) t33 t42) h25 o25) h25 fun t43 h26 =>
pickK t30 (.bool true) t43 fun t44 =>
checkK (okV (goesV t13 false) none h2 h3 h3 h4 && (okV (goesV t13 false) none h2 h3 h4 h5 && (okV (goesV t13 false) none h2 h3 h5 h6 && (okV (goesV t13 false) (blockOf t19) h2 h3 h6 h7 && (okV (goesV t22 false) none h9 h10 h10 h11 && (okV (goesV t30 false) none h15 h16 h16 h17 && (okV (goesV t30 false) none h15 h16 h17 h18 && (okV (goesV t30 false) none h15 h16 h18 h19 && (okV (goesV t30 false) (blockOf t36) h15 h16 h19 h20 && (okV (goesV t30 false) none h15 h16 h20 h21 && (okV (goesV t30 false) none h15 h16 h21 h22 && (okV (goesV t30 false) none h22 h23 h16 h17 && (okV (goesV t30 false) none h22 h23 h17 h18 && (okV (goesV t30 false) none h22 h23 h18 h19 && (okV (goesV t30 false) (blockOf t36) h22 h23 h19 h20 && (okV (goesV t30 false) none h22 h23 h20 h21 && true)))))))))))))))) <|
mc t44 (fun k26 => k26 .ret [(4, (.bool false))] h26) (fun k26 =>
k26 .normal [(0, a0), (1, a1)] h26) (seqK (fun tT h27 =>
ms (fun k27 =>
L0 (get tT 0) (get tT 1) (.int .i64 0) (.slice none 0 0) (.int .i64 0) h27 (blkK [0, 5, 6] 0 k27)) (seqK (fun tT_1 h28 =>
ms (fun k28 =>
L1 (get tT_1 0) (get tT_1 5) (get tT_1 6) (.int .i64 0) h28 (blkK [0, 5] 2 k28)) (seqK (fun tT_2 h29 =>
enterK C F.expire_Store_Next [(get tT_2 0)] h29 fun t133 h30 =>
bareK (xbin P .eql T.int (.tmp 133) (.tmp 134) t133 (get tT_2 5)) h30 fun t135 h31 =>
K0 .ret [(4, t135)] h31) K0)) K0)) K0)

noncomputable def s_law_alike_b0 (mg : GT) (mc : CT) (ms : ST) (P : Program) (C : CallF) (L0 : Value → Value → Value → Value → Value → AHeap → K → Res) (L1 : Value → Value → Value → Value → AHeap → K → Res) (L2 : Value → Value → Value → Value → Value → Value → AHeap → K → Res) (v0 : Value) (v1 : Value) (v5 : Value) (v6 : Value) (v7 : Value) (H : AHeap) (k : K) : Res :=
bareK (xnilCheck v1) H fun t47 h28 =>
bareK (fad 0 t47) h28 fun t48 h29 =>
bareK (ld1 h29 t48) h29 fun t49 h30 =>
bareK (lenS t49) h30 fun t50 h31 =>
bareK (xbin P .lss T.int (.tmp 45) (.tmp 50) v7 t50) h31 fun t51 h32 =>
mc t51 (fun k28 => k28 .normal [(0, v0), (1, v1), (5, v5), (6, v6), (7, v7)] h32) (fun k28 =>
k28 (.exit 0) [(51, t51), (50, t50), (49, t49), (48, t48), (47, t47), (46, v1), (45, v7), (0, v0), (1, v1), (5, v5), (6, v6), (7, v7)] h32) (seqK (fun tT h33 =>
ms (fun k29 =>
bareK (xnilCheck (get tT 1)) h33 fun t55 h34 =>
bareK (fad 0 t55) h34 fun t56 h35 =>
bareK (ld1 h35 t56) h35 fun t57 h36 =>
bareK (ixS 3 t57 (get tT 7)) h36 fun t59 h37 =>
bareK (ldN 3 h37 t59) h37 fun t60 h38 =>
bothK (newv T.law_Entry (.agg #[(.string (mk [])), (.string (mk [])), (.int .i64 0)]) h38) fun t8 h39 =>
quietK (stN 3 h39 t8 t60) fun _ h40 =>
enterK C F.law_Model_alive [(get tT 1), (get tT 7)] h40 fun t63 h41 =>
bareK (xun P .not t63) h41 fun t64 h42 =>
mc t64 (fun k30 => bareK (fad 0 t8) h42 fun t66 h43 =>
bareK (ld1 h43 t66) h43 fun t67 h44 =>
enterK C F.law_gets [(get tT 0), t67, (.string (mk [])), (.int .i64 0), (.int .i64 9)] h44 fun t68 h45 =>
bareK (xun P .not t68) h45 fun t69 h46 =>
mc t69 (fun k31 => k31 .ret [(4, (.bool false))] h46) (fun k31 =>
k31 .normal [(0, (get tT 0)), (1, (get tT 1)), (5, (get tT 5)), (6, (get tT 6)), (7, (get tT 7))] h46) (seqK (fun tT_1 h47 =>
k30 (.exit 1) (tT_1) h47) (afterK [0, 1, 5, 6, 7, 8] k30))) (fun k30 =>
k30 .normal [(0, (get tT 0)), (1, (get tT 1)), (5, (get tT 5)), (6, (get tT 6)), (7, (get tT 7)), (8, t8)] h42) (seqK (fun tT_2 h48 =>
bareK (fad 0 (get tT_2 8)) h48 fun t71 h49 =>
bareK (ld1 h49 t71) h49 fun t72 h50 =>
bareK (fad 1 (get tT_2 8)) h50 fun t73 h51 =>
bareK (ld1 h51 t73) h51 fun t74 h52 =>
bareK (bldS #[(.string (mk [])), (.string (mk []))] [(0, 1), (1, 1)] [(0, t72), (1, t74)]) h52 fun t75 h53 =>
bothK (bldL T.api_Pair [(.string (mk [])), (.string (mk []))] 1 [(0, t75)] h53) fun t76 h54 =>
bothK (app T.api_Pair 2 32 (get tT_2 6) (srcS 2 t76 h54) h54) fun t77 h55 =>
bareK (fad 2 (get tT_2 8)) h55 fun t78 h56 =>
bareK (ld1 h56 t78) h56 fun t79 h57 =>
bareK (xbin P .gtr T.int (.tmp 79) (.const (.int .i64 0)) t79 (.int .i64 0)) h57 fun t80 h58 =>
mg t80 true (fun o32 => o32 (get tT_2 5) h58) h58 fun t82 h59 =>
mg t80 true (fun o33 => bareK (xbin P .eql T.int (.tmp 82) (.const (.int .i64 0)) t82 (.int .i64 0)) h59 o33) h59 fun t83 h60 =>
mg t80 true (fun o34 => o34 t83 h60) h60 fun t84 h61 =>
mg t84 false (fun o35 => bareK (fad 2 (get tT_2 8)) h61 o35) h61 fun t85 h62 =>
mg t84 false (fun o36 => bareK (ld1 h62 t85) h62 o36) h62 fun t86 h63 =>
mg t84 false (fun o37 => o37 (get tT_2 5) h63) h63 fun t87 h64 =>
mg t84 false (fun o38 => bareK (xbin P .lss T.int (.tmp 86) (.tmp 87) t86 t87) h64 o38) h64 fun t88 h65 =>
mg t80 true (fun o39 => pickK t84 (.bool true) t88 fun v => o39 v h65) h65 fun t89 h66 =>
pickK t80 t89 (.bool false) fun t90 =>
mc t90 (fun k40 => bareK (fad 2 (get tT_2 8)) h66 fun t91 h67 =>
bareK (ld1 h67 t91) h67 fun t92 h68 =>
k40 .normal [(0, (get tT_2 0)), (1, (get tT_2 1)), (5, t92), (6, t77), (7, (get tT_2 7)), (8, (get tT_2 8))] h68) (fun k40 =>
k40 .normal [(0, (get tT_2 0)), (1, (get tT_2 1)), (5, (get tT_2 5)), (6, t77), (7, (get tT_2 7)), (8, (get tT_2 8))] h66) (seqK (fun tT_3 h69 =>
bareK (fad 0 (get tT_3 8)) h69 fun t94 h70 =>
bareK (ld1 h70 t94) h70 fun t95 h71 =>
bareK (fad 1 (get tT_3 8)) h71 fun t96 h72 =>
bareK (ld1 h72 t96) h72 fun t97 h73 =>
bareK (fad 2 (get tT_3 8)) h73 fun t98 h74 =>
bareK (ld1 h74 t98) h74 fun t99 h75 =>
enterK C F.law_gets [(get tT_3 0), t95, t97, t99, (.int .i64 0)] h75 fun t100 h76 =>
bareK (xun P .not t100) h76 fun t101 h77 =>
mc t101 (fun k41 => k41 .ret [(4, (.bool false))] h77) (fun k41 =>
k41 .normal [(0, (get tT_3 0)), (1, (get tT_3 1)), (5, (get tT_3 5)), (6, (get tT_3 6)), (7, (get tT_3 7))] h77) (blkK [0, 1, 5, 6, 7] 1 k29)) (blkK [0, 1, 5, 6, 7] 1 k29))) (blkK [0, 1, 5, 6, 7] 1 k29))) (seqK (fun tT_4 h78 =>
bareK (xbin P .add T.int (.tmp 52) (.const (.int .i64 1)) (get tT_4 7) (.int .i64 1)) h78 fun t53 h79 =>
k .normal [(0, (get tT_4 0)), (1, (get tT_4 1)), (5, (get tT_4 5)), (6, (get tT_4 6)), (7, t53)] h79) (afterK [0, 1, 5, 6, 7] k))) (afterK [0, 1, 5, 6, 7] k))

noncomputable def s_law_alike_b1 (mg : GT) (mc : CT) (ms : ST) (P : Program) (C : CallF) (L0 : Value → Value → Value → Value → Value → AHeap → K → Res) (L1 : Value → Value → Value → Value → AHeap → K → Res) (L2 : Value → Value → Value → Value → Value → Value → AHeap → K → Res) (v0 : Value) (v5 : Value) (v6 : Value) (v9 : Value) (H : AHeap) (k : K) : Res :=
bareK (xbin P .lss T.int (.tmp 102) (.const (.int .i64 2)) v9 (.int .i64 2)) H fun t103 h29 =>
mc t103 (fun k29 => k29 .normal [(0, v0), (5, v5), (6, v6), (9, v9)] h29) (fun k29 =>
k29 (.exit 2) [(103, t103), (102, v9), (0, v0), (5, v5), (6, v6), (9, v9)] h29) (seqK (fun tT h30 =>
ms (fun k30 =>
enterK C F.expire_Store_Alive [(get tT 0)] h30 fun t107 h31 =>
bareK (lenS t107) h31 fun t109 h32 =>
bareK (lenS (get tT 6)) h32 fun t111 h33 =>
bareK (xbin P .neq T.int (.tmp 109) (.tmp 111) t109 t111) h33 fun t112 h34 =>
mc t112 (fun k31 => k31 .ret [(4, (.bool false))] h34) (fun k31 =>
k31 .normal [(0, (get tT 0)), (5, (get tT 5)), (6, (get tT 6)), (9, (get tT 9)), (10, t107)] h34) (seqK (fun tT_1 h35 =>
ms (fun k32 =>
L2 (get tT_1 0) (get tT_1 5) (get tT_1 6) (get tT_1 9) (get tT_1 10) (.int .i64 0) h35 (blkK [0, 5, 6, 9] 4 k32)) (blkK [0, 5, 6, 9] 3 k30)) (blkK [0, 5, 6, 9] 3 k30))) (seqK (fun tT_2 h36 =>
bareK (xbin P .add T.int (.tmp 104) (.const (.int .i64 1)) (get tT_2 9) (.int .i64 1)) h36 fun t105 h37 =>
k .normal [(0, (get tT_2 0)), (5, (get tT_2 5)), (6, (get tT_2 6)), (9, t105)] h37) (afterK [0, 5, 6, 9] k))) (afterK [0, 5, 6, 9] k))

noncomputable def s_law_alike_b2 (mg : GT) (mc : CT) (ms : ST) (P : Program) (C : CallF) (L0 : Value → Value → Value → Value → Value → AHeap → K → Res) (L1 : Value → Value → Value → Value → AHeap → K → Res) (L2 : Value → Value → Value → Value → Value → Value → AHeap → K → Res) (v0 : Value) (v5 : Value) (v6 : Value) (v9 : Value) (v10 : Value) (v11 : Value) (H : AHeap) (k : K) : Res :=
bareK (lenS v10) H fun t115 h36 =>
bareK (xbin P .lss T.int (.tmp 113) (.tmp 115) v11 t115) h36 fun t116 h37 =>
mc t116 (fun k33 => k33 .normal [(0, v0), (5, v5), (6, v6), (9, v9), (10, v10), (11, v11)] h37) (fun k33 =>
k33 (.exit 4) [(116, t116), (115, t115), (114, v10), (113, v11), (0, v0), (5, v5), (6, v6), (9, v9), (10, v10), (11, v11)] h37) (seqK (fun tT h38 =>
ms (fun k34 =>
bareK (ixS 2 (get tT 10) (get tT 11)) h38 fun t121 h39 =>
bareK (ldN 2 h39 t121) h39 fun t122 h40 =>
bareK (ixS 2 (get tT 6) (get tT 11)) h40 fun t125 h41 =>
bareK (ldN 2 h41 t125) h41 fun t126 h42 =>
bareK (xbin P .neq T.api_Pair (.tmp 122) (.tmp 126) t122 t126) h42 fun t127 h43 =>
checkK true <|
mc t127 (fun k35 => k35 .ret [(4, (.bool false))] h43) (fun k35 =>
k35 .normal [(0, (get tT 0)), (5, (get tT 5)), (6, (get tT 6)), (9, (get tT 9)), (10, (get tT 10)), (11, (get tT 11))] h43) (seqK (fun tT_1 h44 =>
bareK (ixS 2 (get tT_1 10) (get tT_1 11)) h44 fun t130 h45 =>
bareK (fad 1 t130) h45 fun t131 h46 =>
quietK (st1 h46 t131 (.string (mk [111, 116, 104, 101, 114]))) fun _ h47 =>
k34 .normal [(0, (get tT_1 0)), (5, (get tT_1 5)), (6, (get tT_1 6)), (9, (get tT_1 9)), (10, (get tT_1 10)), (11, (get tT_1 11))] h47) (blkK [0, 5, 6, 9, 10, 11] 5 k34))) (seqK (fun tT_2 h48 =>
bareK (xbin P .add T.int (.tmp 117) (.const (.int .i64 1)) (get tT_2 11) (.int .i64 1)) h48 fun t118 h49 =>
k .normal [(0, (get tT_2 0)), (5, (get tT_2 5)), (6, (get tT_2 6)), (9, (get tT_2 9)), (10, (get tT_2 10)), (11, t118)] h49) (afterK [0, 5, 6, 9, 10, 11] k))) (afterK [0, 5, 6, 9, 10, 11] k))

theorem s_law_alike_eq (M : CombL) (C : CallF) (LP : LoopH) (a0 : Value) (a1 : Value) (H : AHeap) : dBodyL M Try.prog hints C LP F.law_alike [a0, a1] H = s_law_alike M.b.g M.c M.s Try.prog C (fun v0 v1 v5 v6 v7 H k => loopL M Try.prog hints C LP F.law_alike 0 [(0, v0), (1, v1), (5, v5), (6, v6), (7, v7)] H k) (fun v0 v5 v6 v9 H k => loopL M Try.prog hints C LP F.law_alike 1 [(0, v0), (5, v5), (6, v6), (9, v9)] H k) (fun v0 v5 v6 v9 v10 v11 H k => loopL M Try.prog hints C LP F.law_alike 2 [(0, v0), (5, v5), (6, v6), (9, v9), (10, v10), (11, v11)] H k) a0 a1 H (endK Try.prog [.tmp 4]) := by kernel_rfl

theorem s_law_alike_b0_eq (M : CombL) (C : CallF) (LP : LoopH) (v0 : Value) (v1 : Value) (v5 : Value) (v6 : Value) (v7 : Value) (H : AHeap) (k : K) : bodyL M Try.prog hints C LP F.law_alike 0 [(0, v0), (1, v1), (5, v5), (6, v6), (7, v7)] H (afterK [0, 1, 5, 6, 7] k) = s_law_alike_b0 M.b.g M.c M.s Try.prog C (fun v0 v1 v5 v6 v7 H k => loopL M Try.prog hints C LP F.law_alike 0 [(0, v0), (1, v1), (5, v5), (6, v6), (7, v7)] H k) (fun v0 v5 v6 v9 H k => loopL M Try.prog hints C LP F.law_alike 1 [(0, v0), (5, v5), (6, v6), (9, v9)] H k) (fun v0 v5 v6 v9 v10 v11 H k => loopL M Try.prog hints C LP F.law_alike 2 [(0, v0), (5, v5), (6, v6), (9, v9), (10, v10), (11, v11)] H k) v0 v1 v5 v6 v7 H k := by kernel_rfl

theorem s_law_alike_b1_eq (M : CombL) (C : CallF) (LP : LoopH) (v0 : Value) (v5 : Value) (v6 : Value) (v9 : Value) (H : AHeap) (k : K) : bodyL M Try.prog hints C LP F.law_alike 1 [(0, v0), (5, v5), (6, v6), (9, v9)] H (afterK [0, 5, 6, 9] k) = s_law_alike_b1 M.b.g M.c M.s Try.prog C (fun v0 v1 v5 v6 v7 H k => loopL M Try.prog hints C LP F.law_alike 0 [(0, v0), (1, v1), (5, v5), (6, v6), (7, v7)] H k) (fun v0 v5 v6 v9 H k => loopL M Try.prog hints C LP F.law_alike 1 [(0, v0), (5, v5), (6, v6), (9, v9)] H k) (fun v0 v5 v6 v9 v10 v11 H k => loopL M Try.prog hints C LP F.law_alike 2 [(0, v0), (5, v5), (6, v6), (9, v9), (10, v10), (11, v11)] H k) v0 v5 v6 v9 H k := by kernel_rfl

theorem s_law_alike_b2_eq (M : CombL) (C : CallF) (LP : LoopH) (v0 : Value) (v5 : Value) (v6 : Value) (v9 : Value) (v10 : Value) (v11 : Value) (H : AHeap) (k : K) : bodyL M Try.prog hints C LP F.law_alike 2 [(0, v0), (5, v5), (6, v6), (9, v9), (10, v10), (11, v11)] H (afterK [0, 5, 6, 9, 10, 11] k) = s_law_alike_b2 M.b.g M.c M.s Try.prog C (fun v0 v1 v5 v6 v7 H k => loopL M Try.prog hints C LP F.law_alike 0 [(0, v0), (1, v1), (5, v5), (6, v6), (7, v7)] H k) (fun v0 v5 v6 v9 H k => loopL M Try.prog hints C LP F.law_alike 1 [(0, v0), (5, v5), (6, v6), (9, v9)] H k) (fun v0 v5 v6 v9 v10 v11 H k => loopL M Try.prog hints C LP F.law_alike 2 [(0, v0), (5, v5), (6, v6), (9, v9), (10, v10), (11, v11)] H k) v0 v5 v6 v9 v10 v11 H k := by kernel_rfl

/-! (*ticketline.expire.Store).Extend -/

noncomputable def s_expire_Store_Extend (mg : GT) (mc : CT) (ms : ST) (P : Program) (C : CallF) (a0 : Value) (a1 : Value) (a2 : Value) (H : AHeap) (K0 : K) : Res :=
ms (fun k1 =>
bareK (xbin P .eql T.p_expire_Store (.tmp 12) (.const (.pointer none)) a0 (.pointer none)) H fun t13 h1 =>
mc t13 (fun k2 => k2 .ret [(6, (.int .i64 1))] h1) (fun k2 =>
bareK (xbin P .lss T.int (.tmp 15) (.const (.int .i64 0)) a2 (.int .i64 0)) h1 fun t16 h2 =>
mg t16 false (fun o3 => o3 a2 h2) h2 fun t18 h3 =>
mg t16 false (fun o4 => bareK (xbin P .gtr T.int (.tmp 18) (.const (.int .i64 1099511627776)) t18 (.int .i64 1099511627776)) h3 o4) h3 fun t19 h4 =>
pickK t16 (.bool true) t19 fun t20 =>
mc t20 (fun k5 => k5 .ret [(6, (.int .i64 2))] h4) (fun k5 =>
k5 .normal [(0, a0), (1, a1), (2, a2)] h4) (afterK [0, 1, 2] k2)) (blkK [0, 1, 2] 0 k1)) (seqK (fun tT h5 =>
enterK C F.expire_check [(get tT 1), (.string (mk []))] h5 fun t22 h6 =>
bareK (xbin P .neq T.api_Errno (.tmp 23) (.const (.int .i64 0)) t22 (.int .i64 0)) h6 fun t24 h7 =>
mc t24 (fun k6 => k6 .ret [(6, t22)] h7) (fun k6 =>
k6 .normal [(0, (get tT 0)), (1, (get tT 1)), (2, (get tT 2))] h7) (seqK (fun tT_1 h8 =>
bareK (xbin P .gtr T.int (.tmp 26) (.const (.int .i64 0)) (get tT_1 2) (.int .i64 0)) h8 fun t27 h9 =>
mg t27 true (fun o7 => o7 (get tT_1 2) h9) h9 fun t29 h10 =>
mg t27 true (fun o8 => o8 (get tT_1 0) h10) h10 fun t30 h11 =>
mg t27 true (fun o9 => bareK (xnilCheck t30) h11 o9) h11 fun t31 h12 =>
mg t27 true (fun o10 => bareK (fad 2 t31) h12 o10) h12 fun t32 h13 =>
mg t27 true (fun o11 => bareK (ld1 h13 t32) h13 o11) h13 fun t33 h14 =>
mg t27 true (fun o12 => bareK (xbin P .leq T.int (.tmp 29) (.tmp 33) t29 t33) h14 o12) h14 fun t34 h15 =>
pickK t27 t34 (.bool false) fun t35 =>
mc t35 (fun k13 => k13 .ret [(6, (.int .i64 14))] h15) (fun k13 =>
k13 .normal [(0, (get tT_1 0)), (1, (get tT_1 1)), (2, (get tT_1 2))] h15) (seqK (fun tT_2 h16 =>
enterK C F.expire_Store_Get [(get tT_2 0), (get tT_2 1)] h16 fun t39 h17 =>
bareK (xextract t39 0) h17 fun t40 h18 =>
bareK (xextract t39 1) h18 fun t41 h19 =>
bareK (xextract t39 2) h19 fun t42 h20 =>
bareK (xbin P .neq T.api_Errno (.tmp 43) (.const (.int .i64 0)) t42 (.int .i64 0)) h20 fun t44 h21 =>
mc t44 (fun k14 => k14 .ret [(6, t42)] h21) (fun k14 =>
k14 .normal [(0, (get tT_2 0)), (1, (get tT_2 1)), (2, (get tT_2 2))] h21) (seqK (fun tT_3 h22 =>
enterK C F.expire_Store_set [(get tT_3 0), (get tT_3 1), (get tT_3 2)] h22 fun t49 h23 =>
K0 .ret [(6, (.int .i64 0))] h23) K0)) K0)) K0)) K0)

theorem s_expire_Store_Extend_eq (M : CombL) (C : CallF) (LP : LoopH) (a0 : Value) (a1 : Value) (a2 : Value) (H : AHeap) : dBodyL M Try.prog hints C LP F.expire_Store_Extend [a0, a1, a2] H = s_expire_Store_Extend M.b.g M.c M.s Try.prog C a0 a1 a2 H (endK Try.prog [.tmp 6]) := by kernel_rfl

/-! (*ticketline.expire.Store).Delete -/

noncomputable def s_expire_Store_Delete (mg : GT) (mc : CT) (ms : ST) (P : Program) (C : CallF) (a0 : Value) (a1 : Value) (H : AHeap) (K0 : K) : Res :=
enterK C F.expire_Store_Get [a0, a1] H fun t11 h1 =>
bareK (xextract t11 0) h1 fun t12 h2 =>
bareK (xextract t11 1) h2 fun t13 h3 =>
bareK (xextract t11 2) h3 fun t14 h4 =>
bareK (xbin P .neq T.api_Errno (.tmp 15) (.const (.int .i64 0)) t14 (.int .i64 0)) h4 fun t16 h5 =>
mc t16 (fun k1 => k1 .ret [(4, t14)] h5) (fun k1 =>
k1 .normal [(0, a0), (1, a1)] h5) (seqK (fun tT h6 =>
bareK (xnilCheck (get tT 0)) h6 fun t19 h7 =>
bareK (fad 0 t19) h7 fun t20 h8 =>
enterK C F.model_Model_Delete [t20, (get tT 1)] h8 fun t22 h9 =>
bareK (xnilCheck (get tT 0)) h9 fun t24 h10 =>
bareK (fad 1 t24) h10 fun t25 h11 =>
bareK (ld1 h11 t25) h11 fun t26 h12 =>
nextK C h12 (xbuiltin P .delete [T.map_string_int, T.string] [t26, (get tT 1)] h12) fun _ h13 =>
K0 .ret [(4, (.int .i64 0))] h13) K0)

theorem s_expire_Store_Delete_eq (M : CombL) (C : CallF) (LP : LoopH) (a0 : Value) (a1 : Value) (H : AHeap) : dBodyL M Try.prog hints C LP F.expire_Store_Delete [a0, a1] H = s_expire_Store_Delete M.b.g M.c M.s Try.prog C a0 a1 H (endK Try.prog [.tmp 4]) := by kernel_rfl

/-! ticketline.expire.check -/

noncomputable def s_expire_check (mg : GT) (mc : CT) (ms : ST) (P : Program) (C : CallF) (a0 : Value) (a1 : Value) (H : AHeap) (K0 : K) : Res :=
bothK (newv T.model_Model (.agg #[(.slice none 0 0)]) H) fun t5 h1 =>
enterK C F.model_Model_Put [t5, a0, a1] h1 fun t8 h2 =>
K0 .ret [(4, t8)] h2

theorem s_expire_check_eq (M : CombL) (C : CallF) (LP : LoopH) (a0 : Value) (a1 : Value) (H : AHeap) : dBodyL M Try.prog hints C LP F.expire_check [a0, a1] H = s_expire_check M.b.g M.c M.s Try.prog C a0 a1 H (endK Try.prog [.tmp 4]) := by kernel_rfl

/-! (*ticketline.model.Model).Put -/

noncomputable def s_model_Model_Put (mg : GT) (mc : CT) (ms : ST) (P : Program) (C : CallF) (a0 : Value) (a1 : Value) (a2 : Value) (H : AHeap) (K0 : K) : Res :=
bothK (bldL T.string [(.string (mk []))] 1 [(0, a2)] H) fun t14 h1 =>
enterK C F.model_Model_at [a0, a1, t14] h1 fun t15 h2 =>
bareK (xextract t15 0) h2 fun t16 h3 =>
bareK (xextract t15 1) h3 fun t17 h4 =>
bareK (xextract t15 2) h4 fun t18 h5 =>
bareK (xbin P .neq T.api_Errno (.tmp 19) (.const (.int .i64 0)) t18 (.int .i64 0)) h5 fun t20 h6 =>
mc t20 (fun k1 => k1 .ret [(6, t18)] h6) (fun k1 =>
k1 .normal [(0, a0), (1, a1), (2, a2), (7, t16), (8, t17)] h6) (seqK (fun tT h7 =>
bareK (bldS #[(.string (mk [])), (.string (mk []))] [(0, 1), (1, 1)] [(0, (get tT 1)), (1, (get tT 2))]) h7 fun t27 h8 =>
enterK C F.model_Model_set [(get tT 0), (get tT 7), (get tT 8), t27] h8 fun t28 h9 =>
K0 .ret [(6, t28)] h9) K0)

theorem s_model_Model_Put_eq (M : CombL) (C : CallF) (LP : LoopH) (a0 : Value) (a1 : Value) (a2 : Value) (H : AHeap) : dBodyL M Try.prog hints C LP F.model_Model_Put [a0, a1, a2] H = s_model_Model_Put M.b.g M.c M.s Try.prog C a0 a1 a2 H (endK Try.prog [.tmp 6]) := by kernel_rfl

/-! (*ticketline.expire.Store).set -/

noncomputable def s_expire_Store_set (mg : GT) (mc : CT) (ms : ST) (P : Program) (C : CallF) (a0 : Value) (a1 : Value) (a2 : Value) (H : AHeap) (K0 : K) : Res :=
bareK (xnilCheck a0) H fun t7 h1 =>
bareK (fad 1 t7) h1 fun t8 h2 =>
bareK (ld1 h2 t8) h2 fun t9 h3 =>
bareK (xbin P .eql T.map_string_int (.tmp 9) (.const (.map none)) t9 (.map none)) h3 fun t10 h4 =>
mc t10 (fun k1 => bothK (xmakeMap P T.map_string_int none h4) fun t12 h5 =>
bareK (xnilCheck a0) h5 fun t13 h6 =>
bareK (fad 1 t13) h6 fun t14 h7 =>
quietK (st1 h7 t14 t12) fun _ h8 =>
k1 .normal [(0, a0), (1, a1), (2, a2)] h8) (fun k1 =>
k1 .normal [(0, a0), (1, a1), (2, a2)] h4) (seqK (fun tT h9 =>
bareK (xnilCheck (get tT 0)) h9 fun t16 h10 =>
bareK (fad 1 t16) h10 fun t17 h11 =>
bareK (ld1 h11 t17) h11 fun t18 h12 =>
nextK C h12 (xbuiltin P .delete [T.map_string_int, T.string] [t18, (get tT 1)] h12) fun _ h13 =>
bareK (xbin P .gtr T.int (.tmp 20) (.const (.int .i64 0)) (get tT 2) (.int .i64 0)) h13 fun t21 h14 =>
mc t21 (fun k2 => bareK (xnilCheck (get tT 0)) h14 fun t23 h15 =>
bareK (fad 1 t23) h15 fun t24 h16 =>
bareK (ld1 h16 t24) h16 fun t25 h17 =>
quietK (xmapUpdate P T.map_string_int t25 (get tT 1) (get tT 2) h17) fun _ h18 =>
k2 .normal [] h18) (fun k2 =>
k2 .normal [] h14) K0) K0)

theorem s_expire_Store_set_eq (M : CombL) (C : CallF) (LP : LoopH) (a0 : Value) (a1 : Value) (a2 : Value) (H : AHeap) : dBodyL M Try.prog hints C LP F.expire_Store_set [a0, a1, a2] H = s_expire_Store_set M.b.g M.c M.s Try.prog C a0 a1 a2 H (endK Try.prog []) := by kernel_rfl

/-! (*ticketline.model.Model).Len -/

noncomputable def s_model_Model_Len (mg : GT) (mc : CT) (ms : ST) (P : Program) (C : CallF) (a0 : Value) (H : AHeap) (K0 : K) : Res :=
bareK (xbin P .eql T.p_model_Model (.tmp 3) (.const (.pointer none)) a0 (.pointer none)) H fun t4 h1 =>
mc t4 (fun k1 => k1 .ret [(2, (.int .i64 0))] h1) (fun k1 =>
k1 .normal [(0, a0)] h1) (seqK (fun tT h2 =>
bareK (xnilCheck (get tT 0)) h2 fun t6 h3 =>
bareK (fad 0 t6) h3 fun t7 h4 =>
bareK (ld1 h4 t7) h4 fun t8 h5 =>
bareK (lenS t8) h5 fun t9 h6 =>
K0 .ret [(2, t9)] h6) K0)

theorem s_model_Model_Len_eq (M : CombL) (C : CallF) (LP : LoopH) (a0 : Value) (H : AHeap) : dBodyL M Try.prog hints C LP F.model_Model_Len [a0] H = s_model_Model_Len M.b.g M.c M.s Try.prog C a0 H (endK Try.prog [.tmp 2]) := by kernel_rfl

/-! (*ticketline.model.Model).Delete -/

noncomputable def s_model_Model_Delete (mg : GT) (mc : CT) (ms : ST) (P : Program) (C : CallF) (a0 : Value) (a1 : Value) (H : AHeap) (K0 : K) : Res :=
enterK C F.model_Model_Get [a0, a1] H fun t13 h1 =>
bareK (xextract t13 0) h1 fun t14 h2 =>
bareK (xextract t13 1) h2 fun t15 h3 =>
bareK (xbin P .neq T.api_Errno (.tmp 16) (.const (.int .i64 0)) t15 (.int .i64 0)) h3 fun t17 h4 =>
mc t17 (fun k1 => k1 .ret [(4, (.string (mk []))), (5, t15)] h4) (fun k1 =>
k1 .normal [(0, a0), (1, a1), (6, t14)] h4) (seqK (fun tT h5 =>
enterK C F.model_Model_place [(get tT 0), (get tT 1)] h5 fun t22 h6 =>
bareK (xextract t22 0) h6 fun t23 h7 =>
bareK (xextract t22 1) h7 fun t24 h8 =>
bareK (xnilCheck (get tT 0)) h8 fun t27 h9 =>
bareK (fad 0 t27) h9 fun t28 h10 =>
bareK (ld1 h10 t28) h10 fun t29 h11 =>
bareK (xbin P .add T.int (.tmp 31) (.const (.int .i64 1)) t23 (.int .i64 1)) h11 fun t32 h12 =>
enterK C F.slices_Delete_Pair [t29, t23, t32] h12 fun t33 h13 =>
bareK (xnilCheck (get tT 0)) h13 fun t34 h14 =>
bareK (fad 0 t34) h14 fun t35 h15 =>
quietK (st1 h15 t35 t33) fun _ h16 =>
K0 .ret [(4, (get tT 6)), (5, (.int .i64 0))] h16) K0)

theorem s_model_Model_Delete_eq (M : CombL) (C : CallF) (LP : LoopH) (a0 : Value) (a1 : Value) (H : AHeap) : dBodyL M Try.prog hints C LP F.model_Model_Delete [a0, a1] H = s_model_Model_Delete M.b.g M.c M.s Try.prog C a0 a1 H (endK Try.prog [.tmp 4, .tmp 5]) := by kernel_rfl

/-! slices.DeleteFunc[[]ticketline.api.Pair,ticketline.api.Pair] -/

noncomputable def s_slices_DeleteFunc_Pair (mg : GT) (mc : CT) (ms : ST) (P : Program) (C : CallF) (L0 : Value → Value → Value → Value → AHeap → K → Res) (a0 : Value) (a1 : Value) (H : AHeap) (K0 : K) : Res :=
enterK C F.slices_IndexFunc_Pair [a0, a1] H fun t10 h1 =>
bareK (xbin P .eql T.int (.tmp 11) (.const (.int .i64 (-1))) t10 (.int .i64 (-1))) h1 fun t12 h2 =>
mc t12 (fun k1 => k1 .ret [(4, a0)] h2) (fun k1 =>
k1 .normal [(0, a0), (1, a1), (5, t10)] h2) (seqK (fun tT h3 =>
bareK (xbin P .add T.int (.tmp 14) (.const (.int .i64 1)) (get tT 5) (.int .i64 1)) h3 fun t15 h4 =>
ms (fun k2 =>
L0 (get tT 0) (get tT 1) (get tT 5) t15 h4 (blkK [0, 5] 0 k2)) (seqK (fun tT_1 h5 =>
bareK (slS T.api_Pair 2 (get tT_1 0) (some (get tT_1 5)) none none h5) h5 fun t38 h6 =>
bothK (xclear P [T.sl_api_Pair] t38 h6) fun _ h7 =>
bareK (slS T.api_Pair 2 (get tT_1 0) none (some (get tT_1 5)) none h7) h7 fun t41 h8 =>
K0 .ret [(4, t41)] h8) K0)) K0)

noncomputable def s_slices_DeleteFunc_Pair_b0 (mg : GT) (mc : CT) (ms : ST) (P : Program) (C : CallF) (L0 : Value → Value → Value → Value → AHeap → K → Res) (v0 : Value) (v1 : Value) (v5 : Value) (v6 : Value) (H : AHeap) (k : K) : Res :=
bareK (lenS v0) H fun t18 h5 =>
bareK (xbin P .lss T.int (.tmp 16) (.tmp 18) v6 t18) h5 fun t19 h6 =>
mc t19 (fun k3 => k3 .normal [(0, v0), (1, v1), (5, v5), (6, v6)] h6) (fun k3 =>
k3 (.exit 0) [(19, t19), (18, t18), (17, v0), (16, v6), (0, v0), (1, v1), (5, v5), (6, v6)] h6) (seqK (fun tT h7 =>
ms (fun k4 =>
bareK (ixS 2 (get tT 0) (get tT 6)) h7 fun t24 h8 =>
bareK (ldN 2 h8 t24) h8 fun t25 h9 =>
bothK (newv T.api_Pair (.agg #[(.string (mk [])), (.string (mk []))]) h9) fun t7 h10 =>
quietK (stN 2 h10 t7 t25) fun _ h11 =>
bareK (ldN 2 h11 t7) h11 fun t27 h12 =>
callK P C (get tT 1) [t27] h12 fun t28 h13 =>
bareK (xun P .not t28) h13 fun t29 h14 =>
mc t29 (fun k5 => bareK (ldN 2 h14 t7) h14 fun t32 h15 =>
bareK (ixS 2 (get tT 0) (get tT 5)) h15 fun t33 h16 =>
quietK (stN 2 h16 t33 t32) fun _ h17 =>
bareK (xbin P .add T.int (.tmp 34) (.const (.int .i64 1)) (get tT 5) (.int .i64 1)) h17 fun t35 h18 =>
k5 .normal [(0, (get tT 0)), (1, (get tT 1)), (5, t35), (6, (get tT 6))] h18) (fun k5 =>
k5 .normal [(0, (get tT 0)), (1, (get tT 1)), (5, (get tT 5)), (6, (get tT 6))] h14) (blkK [0, 1, 5, 6] 1 k4)) (seqK (fun tT_1 h19 =>
bareK (xbin P .add T.int (.tmp 20) (.const (.int .i64 1)) (get tT_1 6) (.int .i64 1)) h19 fun t21 h20 =>
k .normal [(0, (get tT_1 0)), (1, (get tT_1 1)), (5, (get tT_1 5)), (6, t21)] h20) (afterK [0, 1, 5, 6] k))) (afterK [0, 1, 5, 6] k))

theorem s_slices_DeleteFunc_Pair_eq (M : CombL) (C : CallF) (LP : LoopH) (a0 : Value) (a1 : Value) (H : AHeap) : dBodyL M Try.prog hints C LP F.slices_DeleteFunc_Pair [a0, a1] H = s_slices_DeleteFunc_Pair M.b.g M.c M.s Try.prog C (fun v0 v1 v5 v6 H k => loopL M Try.prog hints C LP F.slices_DeleteFunc_Pair 0 [(0, v0), (1, v1), (5, v5), (6, v6)] H k) a0 a1 H (endK Try.prog [.tmp 4]) := by kernel_rfl

theorem s_slices_DeleteFunc_Pair_b0_eq (M : CombL) (C : CallF) (LP : LoopH) (v0 : Value) (v1 : Value) (v5 : Value) (v6 : Value) (H : AHeap) (k : K) : bodyL M Try.prog hints C LP F.slices_DeleteFunc_Pair 0 [(0, v0), (1, v1), (5, v5), (6, v6)] H (afterK [0, 1, 5, 6] k) = s_slices_DeleteFunc_Pair_b0 M.b.g M.c M.s Try.prog C (fun v0 v1 v5 v6 H k => loopL M Try.prog hints C LP F.slices_DeleteFunc_Pair 0 [(0, v0), (1, v1), (5, v5), (6, v6)] H k) v0 v1 v5 v6 H k := by kernel_rfl

/-! (*ticketline.model.Model).Pairs -/

noncomputable def s_model_Model_Pairs (mg : GT) (mc : CT) (ms : ST) (P : Program) (C : CallF) (a0 : Value) (H : AHeap) (K0 : K) : Res :=
bareK (xbin P .eql T.p_model_Model (.tmp 3) (.const (.pointer none)) a0 (.pointer none)) H fun t4 h1 =>
mc t4 (fun k1 => k1 .ret [(2, (.slice none 0 0))] h1) (fun k1 =>
k1 .normal [(0, a0)] h1) (seqK (fun tT h2 =>
bareK (xnilCheck (get tT 0)) h2 fun t6 h3 =>
bareK (fad 0 t6) h3 fun t7 h4 =>
bareK (ld1 h4 t7) h4 fun t8 h5 =>
enterK C F.slices_Clone_Pair [t8] h5 fun t9 h6 =>
K0 .ret [(2, t9)] h6) K0)

theorem s_model_Model_Pairs_eq (M : CombL) (C : CallF) (LP : LoopH) (a0 : Value) (H : AHeap) : dBodyL M Try.prog hints C LP F.model_Model_Pairs [a0] H = s_model_Model_Pairs M.b.g M.c M.s Try.prog C a0 H (endK Try.prog [.tmp 2]) := by kernel_rfl

/-! (*ticketline.expire.Store).Alive$1 -/

noncomputable def s_expire_Store_Alive_1 (mg : GT) (mc : CT) (ms : ST) (P : Program) (C : CallF) (a0 : Value) (a1 : Value) (H : AHeap) (K0 : K) : Res :=
bothK (newv T.api_Pair a0 H) fun t2 h1 =>
bareK (ld1 h1 a1) h1 fun t4 h2 =>
bareK (fad 0 t2) h2 fun t5 h3 =>
bareK (ld1 h3 t5) h3 fun t6 h4 =>
enterK C F.expire_Store_ended [t4, t6] h4 fun t7 h5 =>
K0 .ret [(3, t7)] h5

theorem s_expire_Store_Alive_1_eq (M : CombL) (C : CallF) (LP : LoopH) (a0 : Value) (a1 : Value) (H : AHeap) : dBodyL M Try.prog hints C LP F.expire_Store_Alive_1 [a0, a1] H = s_expire_Store_Alive_1 M.b.g M.c M.s Try.prog C a0 a1 H (endK Try.prog [.tmp 3]) := by kernel_rfl

/-! (*ticketline.expire.Store).ended -/

noncomputable def s_expire_Store_ended (mg : GT) (mc : CT) (ms : ST) (P : Program) (C : CallF) (a0 : Value) (a1 : Value) (H : AHeap) (K0 : K) : Res :=
bareK (xnilCheck a0) H fun t6 h1 =>
bareK (fad 1 t6) h1 fun t7 h2 =>
bareK (ld1 h2 t7) h2 fun t8 h3 =>
bareK (xlookup P T.map_string_int t8 a1 false h3) h3 fun t10 h4 =>
bareK (xbin P .gtr T.int (.tmp 10) (.const (.int .i64 0)) t10 (.int .i64 0)) h4 fun t11 h5 =>
mg t11 true (fun o1 => o1 a0 h5) h5 fun t13 h6 =>
mg t11 true (fun o2 => bareK (xnilCheck t13) h6 o2) h6 fun t14 h7 =>
mg t11 true (fun o3 => bareK (fad 1 t14) h7 o3) h7 fun t15 h8 =>
mg t11 true (fun o4 => bareK (ld1 h8 t15) h8 o4) h8 fun t16 h9 =>
mg t11 true (fun o5 => o5 a1 h9) h9 fun t17 h10 =>
mg t11 true (fun o6 => bareK (xlookup P T.map_string_int t16 t17 false h10) h10 o6) h10 fun t18 h11 =>
mg t11 true (fun o7 => o7 a0 h11) h11 fun t19 h12 =>
mg t11 true (fun o8 => bareK (xnilCheck t19) h12 o8) h12 fun t20 h13 =>
mg t11 true (fun o9 => bareK (fad 2 t20) h13 o9) h13 fun t21 h14 =>
mg t11 true (fun o10 => bareK (ld1 h14 t21) h14 o10) h14 fun t22 h15 =>
mg t11 true (fun o11 => bareK (xbin P .leq T.int (.tmp 18) (.tmp 22) t18 t22) h15 o11) h15 fun t23 h16 =>
pickK t11 t23 (.bool false) fun t24 =>
checkK true <|
K0 .ret [(4, t24)] h16

theorem s_expire_Store_ended_eq (M : CombL) (C : CallF) (LP : LoopH) (a0 : Value) (a1 : Value) (H : AHeap) : dBodyL M Try.prog hints C LP F.expire_Store_ended [a0, a1] H = s_expire_Store_ended M.b.g M.c M.s Try.prog C a0 a1 H (endK Try.prog [.tmp 4]) := by kernel_rfl

/-! (*ticketline.model.Model).Get -/

noncomputable def s_model_Model_Get (mg : GT) (mc : CT) (ms : ST) (P : Program) (C : CallF) (a0 : Value) (a1 : Value) (H : AHeap) (K0 : K) : Res :=
enterK C F.model_Model_at [a0, a1, (.slice none 0 0)] H fun t12 h1 =>
bareK (xextract t12 0) h1 fun t13 h2 =>
bareK (xextract t12 1) h2 fun t14 h3 =>
bareK (xextract t12 2) h3 fun t15 h4 =>
ms (fun k1 =>
bareK (xbin P .neq T.api_Errno (.tmp 17) (.const (.int .i64 0)) t15 (.int .i64 0)) h4 fun t18 h5 =>
mc t18 (fun k2 => k2 .ret [(4, (.string (mk []))), (5, t15)] h5) (fun k2 =>
bareK (xun P .not t14) h5 fun t22 h6 =>
mc t22 (fun k3 => k3 .ret [(4, (.string (mk []))), (5, (.int .i64 9))] h6) (fun k3 =>
k3 .normal [(0, a0), (6, t13)] h6) (afterK [0, 6] k2)) (blkK [0, 6] 0 k1)) (seqK (fun tT h7 =>
bareK (xnilCheck (get tT 0)) h7 fun t24 h8 =>
bareK (fad 0 t24) h8 fun t25 h9 =>
bareK (ld1 h9 t25) h9 fun t26 h10 =>
bareK (ixS 2 t26 (get tT 6)) h10 fun t28 h11 =>
bareK (fad 1 t28) h11 fun t29 h12 =>
bareK (ld1 h12 t29) h12 fun t30 h13 =>
K0 .ret [(4, t30), (5, (.int .i64 0))] h13) K0)

theorem s_model_Model_Get_eq (M : CombL) (C : CallF) (LP : LoopH) (a0 : Value) (a1 : Value) (H : AHeap) : dBodyL M Try.prog hints C LP F.model_Model_Get [a0, a1] H = s_model_Model_Get M.b.g M.c M.s Try.prog C a0 a1 H (endK Try.prog [.tmp 4, .tmp 5]) := by kernel_rfl

/-! (*ticketline.ticketlinelaw45.Model).put -/

noncomputable def s_law_Model_put (mg : GT) (mc : CT) (ms : ST) (P : Program) (C : CallF) (L0 : Value → Value → Value → Value → AHeap → K → Res) (a0 : Value) (a1 : Value) (H : AHeap) (K0 : K) : Res :=
bothK (newv T.law_Entry a1 H) fun t3 h1 =>
bareK (fad 0 t3) h1 fun t9 h2 =>
bareK (ld1 h2 t9) h2 fun t10 h3 =>
enterK C F.law_Model_find [a0, t10] h3 fun t11 h4 =>
enterK C F.law_Model_without [a0, t11] h4 fun t12 h5 =>
ms (fun k1 =>
L0 a0 t3 t12 (.int .i64 0) h5 (blkK [0, 3, 4, 5] 0 k1)) (seqK (fun tT h6 =>
bareK (ldN 3 h6 (get tT 3)) h6 fun t29 h7 =>
bothK (bldL T.law_Entry [(.string (mk [])), (.string (mk [])), (.int .i64 0)] 1 [(0, t29)] h7) fun t30 h8 =>
bareK (slS T.law_Entry 3 (get tT 4) (some (get tT 5)) none none h8) h8 fun t33 h9 =>
bothK (app T.law_Entry 3 40 t30 (srcS 3 t33 h9) h9) fun t34 h10 =>
checkK true <|
bareK (slS T.law_Entry 3 (get tT 4) none (some (get tT 5)) none h10) h10 fun t38 h11 =>
bothK (app T.law_Entry 3 40 (.slice none 0 0) (srcS 3 t38 h11) h11) fun t39 h12 =>
bothK (app T.law_Entry 3 40 t39 (srcS 3 t34 h12) h12) fun t41 h13 =>
bareK (xnilCheck (get tT 0)) h13 fun t42 h14 =>
bareK (fad 0 t42) h14 fun t43 h15 =>
quietK (st1 h15 t43 t41) fun _ h16 =>
K0 .normal ((43, t43) :: (42, t42) :: (41, t41) :: (40, t34) :: (39, t39) :: (38, t38) :: (37, (get tT 5)) :: (36, (get tT 4)) :: (35, (get tT 0)) :: (6, t34) :: (34, t34) :: (33, t33) :: (32, (get tT 5)) :: (31, (get tT 4)) :: (30, t30) :: (29, t29) :: tT) h16) K0)

noncomputable def s_law_Model_put_b0 (mg : GT) (mc : CT) (ms : ST) (P : Program) (C : CallF) (L0 : Value → Value → Value → Value → AHeap → K → Res) (v0 : Value) (v3 : Value) (v4 : Value) (v5 : Value) (H : AHeap) (k : K) : Res :=
bareK (lenS v4) H fun t15 h6 =>
bareK (xbin P .lss T.int (.tmp 13) (.tmp 15) v5 t15) h6 fun t16 h7 =>
mg t16 true (fun o2 => o2 v4 h7) h7 fun t18 h8 =>
mg t16 true (fun o3 => o3 v5 h8) h8 fun t19 h9 =>
mg t16 true (fun o4 => bareK (ixS 3 t18 t19) h9 o4) h9 fun t20 h10 =>
mg t16 true (fun o5 => bareK (fad 0 t20) h10 o5) h10 fun t21 h11 =>
mg t16 true (fun o6 => bareK (ld1 h11 t21) h11 o6) h11 fun t22 h12 =>
mg t16 true (fun o7 => bareK (fad 0 v3) h12 o7) h12 fun t23 h13 =>
mg t16 true (fun o8 => bareK (ld1 h13 t23) h13 o8) h13 fun t24 h14 =>
mg t16 true (fun o9 => bareK (xbin P .lss T.string (.tmp 22) (.tmp 24) t22 t24) h14 o9) h14 fun t25 h15 =>
pickK t16 t25 (.bool false) fun t26 =>
checkK true <|
mc t26 (fun k10 => k10 .normal [(0, v0), (3, v3), (4, v4), (5, v5)] h15) (fun k10 =>
k10 (.exit 0) [(26, t26), (25, t25), (24, t24), (23, t23), (22, t22), (21, t21), (20, t20), (19, t19), (18, t18), (17, t16), (16, t16), (15, t15), (14, v4), (13, v5), (0, v0), (3, v3), (4, v4), (5, v5)] h15) (seqK (fun tT h16 =>
ms (fun k11 =>
bareK (xbin P .add T.int (.tmp 27) (.const (.int .i64 1)) (get tT 5) (.int .i64 1)) h16 fun t28 h17 =>
k11 .normal [(0, (get tT 0)), (3, (get tT 3)), (4, (get tT 4)), (5, t28)] h17) (afterK [0, 3, 4, 5] k)) (afterK [0, 3, 4, 5] k))

theorem s_law_Model_put_eq (M : CombL) (C : CallF) (LP : LoopH) (a0 : Value) (a1 : Value) (H : AHeap) : dBodyL M Try.prog hints C LP F.law_Model_put [a0, a1] H = s_law_Model_put M.b.g M.c M.s Try.prog C (fun v0 v3 v4 v5 H k => loopL M Try.prog hints C LP F.law_Model_put 0 [(0, v0), (3, v3), (4, v4), (5, v5)] H k) a0 a1 H (endK Try.prog []) := by kernel_rfl

theorem s_law_Model_put_b0_eq (M : CombL) (C : CallF) (LP : LoopH) (v0 : Value) (v3 : Value) (v4 : Value) (v5 : Value) (H : AHeap) (k : K) : bodyL M Try.prog hints C LP F.law_Model_put 0 [(0, v0), (3, v3), (4, v4), (5, v5)] H (afterK [0, 3, 4, 5] k) = s_law_Model_put_b0 M.b.g M.c M.s Try.prog C (fun v0 v3 v4 v5 H k => loopL M Try.prog hints C LP F.law_Model_put 0 [(0, v0), (3, v3), (4, v4), (5, v5)] H k) v0 v3 v4 v5 H k := by kernel_rfl

/-! (*ticketline.model.Model).Copy -/

noncomputable def s_model_Model_Copy (mg : GT) (mc : CT) (ms : ST) (P : Program) (C : CallF) (a0 : Value) (H : AHeap) (K0 : K) : Res :=
bareK (xbin P .eql T.p_model_Model (.tmp 3) (.const (.pointer none)) a0 (.pointer none)) H fun t4 h1 =>
mc t4 (fun k1 => k1 .ret [(2, (.pointer none))] h1) (fun k1 =>
k1 .normal [(0, a0)] h1) (seqK (fun tT h2 =>
bareK (xnilCheck (get tT 0)) h2 fun t6 h3 =>
bareK (fad 0 t6) h3 fun t7 h4 =>
bareK (ld1 h4 t7) h4 fun t8 h5 =>
enterK C F.slices_Clone_Pair [t8] h5 fun t9 h6 =>
bareK (bldS #[(.slice none 0 0)] [(0, 1)] [(0, t9)]) h6 fun t10 h7 =>
bothK (newv T.model_Model t10 h7) fun t11 h8 =>
K0 .ret [(2, t11)] h8) K0)

theorem s_model_Model_Copy_eq (M : CombL) (C : CallF) (LP : LoopH) (a0 : Value) (H : AHeap) : dBodyL M Try.prog hints C LP F.model_Model_Copy [a0] H = s_model_Model_Copy M.b.g M.c M.s Try.prog C a0 H (endK Try.prog [.tmp 2]) := by kernel_rfl

/-! (*ticketline.model.Model).at -/

noncomputable def s_model_Model_at (mg : GT) (mc : CT) (ms : ST) (P : Program) (C : CallF) (a0 : Value) (a1 : Value) (a2 : Value) (H : AHeap) (K0 : K) : Res :=
bareK (xbin P .eql T.p_model_Model (.tmp 13) (.const (.pointer none)) a0 (.pointer none)) H fun t14 h1 =>
mc t14 (fun k1 => k1 .ret [(6, (.int .i64 0)), (7, (.bool false)), (8, (.int .i64 1))] h1) (fun k1 =>
k1 .normal [(0, a0), (1, a1), (2, a2)] h1) (seqK (fun tT h2 =>
enterK C F.model_check [(get tT 1), (get tT 2)] h2 fun t17 h3 =>
bareK (xbin P .neq T.api_Errno (.tmp 18) (.const (.int .i64 0)) t17 (.int .i64 0)) h3 fun t19 h4 =>
mc t19 (fun k2 => k2 .ret [(6, (.int .i64 0)), (7, (.bool false)), (8, t17)] h4) (fun k2 =>
k2 .normal [(0, (get tT 0)), (1, (get tT 1))] h4) (seqK (fun tT_1 h5 =>
callK P C (.func (.func F.model_Model_place) #[(get tT_1 0)] #[]) [(get tT_1 1)] h5 fun t26 h6 =>
bareK (xextract t26 0) h6 fun t27 h7 =>
bareK (xextract t26 1) h7 fun t28 h8 =>
K0 .ret [(6, t27), (7, t28), (8, (.int .i64 0))] h8) K0)) K0)

theorem s_model_Model_at_eq (M : CombL) (C : CallF) (LP : LoopH) (a0 : Value) (a1 : Value) (a2 : Value) (H : AHeap) : dBodyL M Try.prog hints C LP F.model_Model_at [a0, a1, a2] H = s_model_Model_at M.b.g M.c M.s Try.prog C a0 a1 a2 H (endK Try.prog [.tmp 6, .tmp 7, .tmp 8]) := by kernel_rfl

/-! (*ticketline.model.Model).set -/

noncomputable def s_model_Model_set (mg : GT) (mc : CT) (ms : ST) (P : Program) (C : CallF) (a0 : Value) (a1 : Value) (a2 : Value) (a3 : Value) (H : AHeap) (K0 : K) : Res :=
bothK (newv T.api_Pair a3 H) fun t7 h1 =>
ms (fun k1 =>
mc a2 (fun k2 => bareK (xnilCheck a0) h1 fun t23 h2 =>
bareK (fad 0 t23) h2 fun t24 h3 =>
bareK (ld1 h3 t24) h3 fun t25 h4 =>
bareK (ldN 2 h4 t7) h4 fun t27 h5 =>
bareK (ixS 2 t25 a1) h5 fun t28 h6 =>
quietK (stN 2 h6 t28 t27) fun _ h7 =>
checkK true <|
k2 .normal [] h7) (fun k2 =>
bareK (xnilCheck a0) h1 fun t31 h8 =>
bareK (fad 0 t31) h8 fun t32 h9 =>
bareK (ld1 h9 t32) h9 fun t33 h10 =>
bareK (lenS t33) h10 fun t34 h11 =>
bareK (xbin P .eql T.int (.tmp 34) (.const (.int .i64 20000)) t34 (.int .i64 20000)) h11 fun t35 h12 =>
mc t35 (fun k3 => k3 .ret [(8, (.int .i64 7))] h12) (fun k3 =>
bareK (xnilCheck a0) h12 fun t11 h13 =>
bareK (fad 0 t11) h13 fun t12 h14 =>
bareK (ld1 h14 t12) h14 fun t13 h15 =>
bareK (ldN 2 h15 t7) h15 fun t15 h16 =>
bothK (bldL T.api_Pair [(.string (mk [])), (.string (mk []))] 1 [(0, t15)] h16) fun t16 h17 =>
enterK C F.slices_Insert_Pair [t13, a1, t16] h17 fun t17 h18 =>
bareK (xnilCheck a0) h18 fun t18 h19 =>
bareK (fad 0 t18) h19 fun t19 h20 =>
quietK (st1 h20 t19 t17) fun _ h21 =>
checkK (okV (some true) none h17 h18 h12 h12 && true) <|
k3 .normal [] h21) (afterK [] k2)) (blkK [] 0 k1)) (seqK (fun tT h22 =>
K0 .ret [(8, (.int .i64 0))] h22) K0)

theorem s_model_Model_set_eq (M : CombL) (C : CallF) (LP : LoopH) (a0 : Value) (a1 : Value) (a2 : Value) (a3 : Value) (H : AHeap) : dBodyL M Try.prog hints C LP F.model_Model_set [a0, a1, a2, a3] H = s_model_Model_set M.b.g M.c M.s Try.prog C a0 a1 a2 a3 H (endK Try.prog [.tmp 8]) := by kernel_rfl

/-! (*ticketline.model.Model).place -/

noncomputable def s_model_Model_place (mg : GT) (mc : CT) (ms : ST) (P : Program) (C : CallF) (a0 : Value) (a1 : Value) (H : AHeap) (K0 : K) : Res :=
bareK (xnilCheck a0) H fun t7 h1 =>
bareK (fad 0 t7) h1 fun t8 h2 =>
bareK (ld1 h2 t8) h2 fun t9 h3 =>
enterK C F.slices_BinarySearchFunc_string [t9, a1, (.func (.func F.model_Model_place_1) #[] #[])] h3 fun t11 h4 =>
bareK (xextract t11 0) h4 fun t12 h5 =>
bareK (xextract t11 1) h5 fun t13 h6 =>
K0 .ret [(4, t12), (5, t13)] h6

theorem s_model_Model_place_eq (M : CombL) (C : CallF) (LP : LoopH) (a0 : Value) (a1 : Value) (H : AHeap) : dBodyL M Try.prog hints C LP F.model_Model_place [a0, a1] H = s_model_Model_place M.b.g M.c M.s Try.prog C a0 a1 H (endK Try.prog [.tmp 4, .tmp 5]) := by kernel_rfl

/-! slices.Delete[[]ticketline.api.Pair,ticketline.api.Pair] -/

noncomputable def s_slices_Delete_Pair (mg : GT) (mc : CT) (ms : ST) (P : Program) (C : CallF) (a0 : Value) (a1 : Value) (a2 : Value) (H : AHeap) (K0 : K) : Res :=
bareK (lenS a0) H fun t12 h1 =>
bareK (slS T.api_Pair 2 a0 (some a1) (some a2) (some t12) h1) h1 fun t13 h2 =>
bareK (xbin P .eql T.int (.tmp 14) (.tmp 15) a1 a2) h2 fun t16 h3 =>
mc t16 (fun k1 => k1 .ret [(6, a0)] h3) (fun k1 =>
k1 .normal [(0, a0), (1, a1), (2, a2)] h3) (seqK (fun tT h4 =>
bareK (lenS (get tT 0)) h4 fun t19 h5 =>
bareK (slS T.api_Pair 2 (get tT 0) none (some (get tT 1)) none h5) h5 fun t22 h6 =>
bareK (slS T.api_Pair 2 (get tT 0) (some (get tT 2)) none none h6) h6 fun t25 h7 =>
bothK (app T.api_Pair 2 32 t22 (srcS 2 t25 h7) h7) fun t26 h8 =>
checkK true <|
bareK (lenS t26) h8 fun t29 h9 =>
bareK (slS T.api_Pair 2 t26 (some t29) (some t19) none h9) h9 fun t31 h10 =>
bothK (xclear P [T.sl_api_Pair] t31 h10) fun _ h11 =>
K0 .ret [(6, t26)] h11) K0)

theorem s_slices_Delete_Pair_eq (M : CombL) (C : CallF) (LP : LoopH) (a0 : Value) (a1 : Value) (a2 : Value) (H : AHeap) : dBodyL M Try.prog hints C LP F.slices_Delete_Pair [a0, a1, a2] H = s_slices_Delete_Pair M.b.g M.c M.s Try.prog C a0 a1 a2 H (endK Try.prog [.tmp 6]) := by kernel_rfl

/-! slices.IndexFunc[[]ticketline.api.Pair,ticketline.api.Pair] -/

noncomputable def s_slices_IndexFunc_Pair (mg : GT) (mc : CT) (ms : ST) (P : Program) (C : CallF) (L0 : Value → Value → Value → Value → AHeap → K → Res) (a0 : Value) (a1 : Value) (H : AHeap) (K0 : K) : Res :=
bareK (lenS a0) H fun t7 h1 =>
ms (fun k1 =>
L0 a0 a1 t7 (.int .i64 0) h1 (blkK [] 0 k1)) (seqK (fun tT h2 =>
K0 .ret [(4, (.int .i64 (-1)))] h2) K0)

noncomputable def s_slices_IndexFunc_Pair_b0 (mg : GT) (mc : CT) (ms : ST) (P : Program) (C : CallF) (L0 : Value → Value → Value → Value → AHeap → K → Res) (v0 : Value) (v1 : Value) (v7 : Value) (v8 : Value) (H : AHeap) (k : K) : Res :=
bareK (xbin P .lss T.int (.tmp 8) (.tmp 7) v8 v7) H fun t9 h2 =>
mc t9 (fun k2 => k2 .normal [(0, v0), (1, v1), (7, v7), (8, v8)] h2) (fun k2 =>
k2 (.exit 0) [(9, t9), (0, v0), (1, v1), (7, v7), (8, v8)] h2) (seqK (fun tT h3 =>
ms (fun k3 =>
bareK (ixS 2 (get tT 0) (get tT 8)) h3 fun t14 h4 =>
bareK (ldN 2 h4 t14) h4 fun t15 h5 =>
callK P C (get tT 1) [t15] h5 fun t16 h6 =>
mc t16 (fun k4 => k4 .ret [(4, (get tT 8))] h6) (fun k4 =>
k4 .normal [(0, (get tT 0)), (1, (get tT 1)), (7, (get tT 7)), (8, (get tT 8))] h6) (blkK [0, 1, 7, 8] 1 k3)) (seqK (fun tT_1 h7 =>
bareK (xbin P .add T.int (.tmp 8) (.const (.int .i64 1)) (get tT_1 8) (.int .i64 1)) h7 fun t18 h8 =>
k .normal [(0, (get tT_1 0)), (1, (get tT_1 1)), (7, (get tT_1 7)), (8, t18)] h8) (afterK [0, 1, 7, 8] k))) (afterK [0, 1, 7, 8] k))

theorem s_slices_IndexFunc_Pair_eq (M : CombL) (C : CallF) (LP : LoopH) (a0 : Value) (a1 : Value) (H : AHeap) : dBodyL M Try.prog hints C LP F.slices_IndexFunc_Pair [a0, a1] H = s_slices_IndexFunc_Pair M.b.g M.c M.s Try.prog C (fun v0 v1 v7 v8 H k => loopL M Try.prog hints C LP F.slices_IndexFunc_Pair 0 [(0, v0), (1, v1), (7, v7), (8, v8)] H k) a0 a1 H (endK Try.prog [.tmp 4]) := by kernel_rfl

theorem s_slices_IndexFunc_Pair_b0_eq (M : CombL) (C : CallF) (LP : LoopH) (v0 : Value) (v1 : Value) (v7 : Value) (v8 : Value) (H : AHeap) (k : K) : bodyL M Try.prog hints C LP F.slices_IndexFunc_Pair 0 [(0, v0), (1, v1), (7, v7), (8, v8)] H (afterK [0, 1, 7, 8] k) = s_slices_IndexFunc_Pair_b0 M.b.g M.c M.s Try.prog C (fun v0 v1 v7 v8 H k => loopL M Try.prog hints C LP F.slices_IndexFunc_Pair 0 [(0, v0), (1, v1), (7, v7), (8, v8)] H k) v0 v1 v7 v8 H k := by kernel_rfl

/-! slices.Clone[[]ticketline.api.Pair,ticketline.api.Pair] -/

noncomputable def s_slices_Clone_Pair (mg : GT) (mc : CT) (ms : ST) (P : Program) (C : CallF) (a0 : Value) (H : AHeap) (K0 : K) : Res :=
bareK (xbin P .eql T.sl_api_Pair (.tmp 3) (.const (.slice none 0 0)) a0 (.slice none 0 0)) H fun t4 h1 =>
mc t4 (fun k1 => k1 .ret [(2, (.slice none 0 0))] h1) (fun k1 =>
k1 .normal [(0, a0)] h1) (seqK (fun tT h2 =>
bothK (bldL T.api_Pair [(.string (mk [])), (.string (mk []))] 0 [] h2) fun t5 h3 =>
bothK (app T.api_Pair 2 32 t5 (srcS 2 (get tT 0) h3) h3) fun t7 h4 =>
K0 .ret [(2, t7)] h4) K0)

theorem s_slices_Clone_Pair_eq (M : CombL) (C : CallF) (LP : LoopH) (a0 : Value) (H : AHeap) : dBodyL M Try.prog hints C LP F.slices_Clone_Pair [a0] H = s_slices_Clone_Pair M.b.g M.c M.s Try.prog C a0 H (endK Try.prog [.tmp 2]) := by kernel_rfl

/-! ticketline.model.check -/

noncomputable def s_model_check (mg : GT) (mc : CT) (ms : ST) (P : Program) (C : CallF) (a0 : Value) (a1 : Value) (H : AHeap) (K0 : K) : Res :=
ms (fun k1 =>
bareK (xbin P .eql T.string (.tmp 6) (.const (.string (mk []))) a0 (.string (mk []))) H fun t7 h1 =>
mc t7 (fun k2 => k2 .ret [(4, (.int .i64 2))] h1) (fun k2 =>
bareK (lenT a0) h1 fun t10 h2 =>
bareK (xbin P .gtr T.int (.tmp 10) (.const (.int .i64 24)) t10 (.int .i64 24)) h2 fun t11 h3 =>
mg t11 false (fun o3 => o3 a1 h3) h3 fun t13 h4 =>
mg t11 false (fun o4 => enterK C F.slices_ContainsFunc_string [t13, (.func (.func F.model_check_1) #[] #[])] h4 o4) h4 fun t14 h5 =>
pickK t11 (.bool true) t14 fun t15 =>
mc t15 (fun k5 => k5 .ret [(4, (.int .i64 5))] h5) (fun k5 =>
k5 .normal [] h5) (afterK [] k2)) (blkK [] 0 k1)) (seqK (fun tT h6 =>
K0 .ret [(4, (.int .i64 0))] h6) K0)

theorem s_model_check_eq (M : CombL) (C : CallF) (LP : LoopH) (a0 : Value) (a1 : Value) (H : AHeap) : dBodyL M Try.prog hints C LP F.model_check [a0, a1] H = s_model_check M.b.g M.c M.s Try.prog C a0 a1 H (endK Try.prog [.tmp 4]) := by kernel_rfl

/-! slices.Insert[[]ticketline.api.Pair,ticketline.api.Pair] -/

noncomputable def s_slices_Insert_Pair (mg : GT) (mc : CT) (ms : ST) (P : Program) (C : CallF) (a0 : Value) (a1 : Value) (a2 : Value) (H : AHeap) (K0 : K) : Res :=
bareK (slS T.api_Pair 2 a0 (some a1) none none H) H fun t12 h1 =>
bareK (lenS a2) h1 fun t14 h2 =>
bareK (xbin P .eql T.int (.tmp 15) (.const (.int .i64 0)) t14 (.int .i64 0)) h2 fun t16 h3 =>
mc t16 (fun k1 => k1 .ret [(6, a0)] h3) (fun k1 =>
k1 .normal [(0, a0), (1, a1), (2, a2), (7, t14)] h3) (seqK (fun tT h4 =>
bareK (lenS (get tT 0)) h4 fun t19 h5 =>
bareK (xbin P .eql T.int (.tmp 20) (.tmp 21) (get tT 1) t19) h5 fun t22 h6 =>
mc t22 (fun k2 => bothK (app T.api_Pair 2 32 (get tT 0) (srcS 2 (get tT 2) h6) h6) fun t25 h7 =>
k2 .ret [(6, t25)] h7) (fun k2 =>
k2 .normal [(0, (get tT 0)), (1, (get tT 1)), (2, (get tT 2)), (7, (get tT 7)), (8, t19)] h6) (seqK (fun tT_1 h8 =>
bareK (xbin P .add T.int (.tmp 26) (.tmp 27) (get tT_1 8) (get tT_1 7)) h8 fun t28 h9 =>
nextK C h9 (xbuiltin P .cap [T.sl_api_Pair] [(get tT_1 0)] h9) fun t30 h10 =>
bareK (xbin P .gtr T.int (.tmp 28) (.tmp 30) t28 t30) h10 fun t31 h11 =>
mc t31 (fun k3 => bareK (slS T.api_Pair 2 (get tT_1 0) none (some (get tT_1 1)) none h11) h11 fun t34 h12 =>
bareK (xbin P .add T.int (.tmp 35) (.tmp 36) (get tT_1 8) (get tT_1 7)) h12 fun t37 h13 =>
bareK (xbin P .sub T.int (.tmp 37) (.tmp 38) t37 (get tT_1 1)) h13 fun t39 h14 =>
bothK (app T.api_Pair 2 32 t34 (srcZ [(.string (mk [])), (.string (mk []))] 32 t39) h14) fun t40 h15 =>
bareK (slS T.api_Pair 2 t40 (some (get tT_1 1)) none none h15) h15 fun t43 h16 =>
bothK (cpy 2 t43 (get tT_1 2) h16) fun t45 h17 =>
bareK (xbin P .add T.int (.tmp 47) (.tmp 48) (get tT_1 1) (get tT_1 7)) h17 fun t49 h18 =>
bareK (slS T.api_Pair 2 t40 (some t49) none none h18) h18 fun t50 h19 =>
bareK (slS T.api_Pair 2 (get tT_1 0) (some (get tT_1 1)) none none h19) h19 fun t53 h20 =>
bothK (cpy 2 t50 t53 h20) fun t54 h21 =>
checkK true <|
k3 .ret [(6, t40)] h21) (fun k3 =>
k3 .normal [(0, (get tT_1 0)), (1, (get tT_1 1)), (2, (get tT_1 2)), (7, (get tT_1 7)), (8, (get tT_1 8))] h11) (seqK (fun tT_2 h22 =>
bareK (xbin P .add T.int (.tmp 57) (.tmp 58) (get tT_2 8) (get tT_2 7)) h22 fun t59 h23 =>
bareK (slS T.api_Pair 2 (get tT_2 0) none (some t59) none h23) h23 fun t60 h24 =>
bareK (xbin P .add T.int (.tmp 63) (.tmp 64) (get tT_2 1) (get tT_2 7)) h24 fun t65 h25 =>
bareK (slS T.api_Pair 2 t60 (some t65) none none h25) h25 fun t66 h26 =>
bareK (xext P Try.f66 [(get tT_2 2), t66] h26) h26 fun t67 h27 =>
bareK (xun P .not t67) h27 fun t68 h28 =>
mc t68 (fun k4 => bareK (xbin P .add T.int (.tmp 70) (.tmp 71) (get tT_2 1) (get tT_2 7)) h28 fun t72 h29 =>
bareK (slS T.api_Pair 2 t60 (some t72) none none h29) h29 fun t73 h30 =>
bareK (slS T.api_Pair 2 t60 (some (get tT_2 1)) none none h30) h30 fun t76 h31 =>
bothK (cpy 2 t73 t76 h31) fun t77 h32 =>
checkK true <|
bareK (slS T.api_Pair 2 t60 (some (get tT_2 1)) none none h32) h32 fun t80 h33 =>
bothK (cpy 2 t80 (get tT_2 2) h33) fun t82 h34 =>
k4 .ret [(6, t60)] h34) (fun k4 =>
k4 .normal [(0, t60), (1, (get tT_2 1)), (2, (get tT_2 2)), (7, (get tT_2 7)), (8, (get tT_2 8))] h28) (seqK (fun tT_3 h35 =>
bareK (slS T.api_Pair 2 (get tT_3 0) (some (get tT_3 8)) none none h35) h35 fun t86 h36 =>
bothK (cpy 2 t86 (get tT_3 2) h36) fun t88 h37 =>
bareK (slS T.api_Pair 2 (get tT_3 0) (some (get tT_3 1)) none none h37) h37 fun t91 h38 =>
enterK C F.slices_rotateRight_Pair [t91, (get tT_3 7)] h38 fun t93 h39 =>
K0 .ret [(6, (get tT_3 0))] h39) K0)) K0)) K0)) K0)

theorem s_slices_Insert_Pair_eq (M : CombL) (C : CallF) (LP : LoopH) (a0 : Value) (a1 : Value) (a2 : Value) (H : AHeap) : dBodyL M Try.prog hints C LP F.slices_Insert_Pair [a0, a1, a2] H = s_slices_Insert_Pair M.b.g M.c M.s Try.prog C a0 a1 a2 H (endK Try.prog [.tmp 6]) := by kernel_rfl

/-! slices.BinarySearchFunc[[]ticketline.api.Pair,ticketline.api.Pair,string] -/

noncomputable def s_slices_BinarySearchFunc_string (mg : GT) (mc : CT) (ms : ST) (P : Program) (C : CallF) (L0 : Value → Value → Value → Value → Value → Value → AHeap → K → Res) (a0 : Value) (a1 : Value) (a2 : Value) (H : AHeap) (K0 : K) : Res :=
bareK (lenS a0) H fun t13 h1 =>
ms (fun k1 =>
L0 a0 a1 a2 t13 (.int .i64 0) t13 h1 (blkK [0, 1, 2, 8, 9] 0 k1)) (seqK (fun tT h2 =>
bareK (xbin P .lss T.int (.tmp 36) (.tmp 37) (get tT 9) (get tT 8)) h2 fun t38 h3 =>
mg t38 true (fun o2 => o2 (get tT 2) h3) h3 fun t40 h4 =>
mg t38 true (fun o3 => o3 (get tT 0) h4) h4 fun t41 h5 =>
mg t38 true (fun o4 => o4 (get tT 9) h5) h5 fun t42 h6 =>
mg t38 true (fun o5 => bareK (ixS 2 t41 t42) h6 o5) h6 fun t43 h7 =>
mg t38 true (fun o6 => bareK (ldN 2 h7 t43) h7 o6) h7 fun t44 h8 =>
mg t38 true (fun o7 => o7 (get tT 1) h8) h8 fun t45 h9 =>
mg t38 true (fun o8 => callK P C t40 [t44, t45] h9 o8) h9 fun t46 h10 =>
mg t38 true (fun o9 => bareK (xbin P .eql T.int (.tmp 46) (.const (.int .i64 0)) t46 (.int .i64 0)) h10 o9) h10 fun t47 h11 =>
pickK t38 t47 (.bool false) fun t48 =>
K0 .ret [(6, (get tT 9)), (7, t48)] h11) K0)

noncomputable def s_slices_BinarySearchFunc_string_b0 (mg : GT) (mc : CT) (ms : ST) (P : Program) (C : CallF) (L0 : Value → Value → Value → Value → Value → Value → AHeap → K → Res) (v0 : Value) (v1 : Value) (v2 : Value) (v8 : Value) (v9 : Value) (v10 : Value) (H : AHeap) (k : K) : Res :=
bareK (xbin P .lss T.int (.tmp 15) (.tmp 16) v9 v10) H fun t17 h2 =>
mc t17 (fun k2 => k2 .normal [(0, v0), (1, v1), (2, v2), (8, v8), (9, v9), (10, v10)] h2) (fun k2 =>
k2 (.exit 0) [(17, t17), (16, v10), (15, v9), (0, v0), (1, v1), (2, v2), (8, v8), (9, v9), (10, v10)] h2) (seqK (fun tT h3 =>
ms (fun k3 =>
bareK (xbin P .add T.int (.tmp 18) (.tmp 19) (get tT 9) (get tT 10)) h3 fun t20 h4 =>
bothK (xconv P T.int T.uint t20 h4) fun t21 h5 =>
bareK (xbin P .shr T.uint (.tmp 21) (.const (.int .u64 1)) t21 (.int .u64 1)) h5 fun t22 h6 =>
bothK (xconv P T.uint T.int t22 h6) fun t23 h7 =>
bareK (ixS 2 (get tT 0) t23) h7 fun t27 h8 =>
bareK (ldN 2 h8 t27) h8 fun t28 h9 =>
callK P C (get tT 2) [t28, (get tT 1)] h9 fun t30 h10 =>
bareK (xbin P .lss T.int (.tmp 30) (.const (.int .i64 0)) t30 (.int .i64 0)) h10 fun t31 h11 =>
mc t31 (fun k4 => bareK (xbin P .add T.int (.tmp 32) (.const (.int .i64 1)) t23 (.int .i64 1)) h11 fun t33 h12 =>
k4 .normal [(0, (get tT 0)), (1, (get tT 1)), (2, (get tT 2)), (8, (get tT 8)), (9, t33), (10, (get tT 10))] h12) (fun k4 =>
k4 .normal [(0, (get tT 0)), (1, (get tT 1)), (2, (get tT 2)), (8, (get tT 8)), (9, (get tT 9)), (10, t23)] h11) (blkK [0, 1, 2, 8, 9, 10] 1 k3)) (afterK [0, 1, 2, 8, 9, 10] k)) (afterK [0, 1, 2, 8, 9, 10] k))

theorem s_slices_BinarySearchFunc_string_eq (M : CombL) (C : CallF) (LP : LoopH) (a0 : Value) (a1 : Value) (a2 : Value) (H : AHeap) : dBodyL M Try.prog hints C LP F.slices_BinarySearchFunc_string [a0, a1, a2] H = s_slices_BinarySearchFunc_string M.b.g M.c M.s Try.prog C (fun v0 v1 v2 v8 v9 v10 H k => loopL M Try.prog hints C LP F.slices_BinarySearchFunc_string 0 [(0, v0), (1, v1), (2, v2), (8, v8), (9, v9), (10, v10)] H k) a0 a1 a2 H (endK Try.prog [.tmp 6, .tmp 7]) := by kernel_rfl

theorem s_slices_BinarySearchFunc_string_b0_eq (M : CombL) (C : CallF) (LP : LoopH) (v0 : Value) (v1 : Value) (v2 : Value) (v8 : Value) (v9 : Value) (v10 : Value) (H : AHeap) (k : K) : bodyL M Try.prog hints C LP F.slices_BinarySearchFunc_string 0 [(0, v0), (1, v1), (2, v2), (8, v8), (9, v9), (10, v10)] H (afterK [0, 1, 2, 8, 9, 10] k) = s_slices_BinarySearchFunc_string_b0 M.b.g M.c M.s Try.prog C (fun v0 v1 v2 v8 v9 v10 H k => loopL M Try.prog hints C LP F.slices_BinarySearchFunc_string 0 [(0, v0), (1, v1), (2, v2), (8, v8), (9, v9), (10, v10)] H k) v0 v1 v2 v8 v9 v10 H k := by kernel_rfl

/-! (*ticketline.model.Model).place$1 -/

noncomputable def s_model_Model_place_1 (mg : GT) (mc : CT) (ms : ST) (P : Program) (C : CallF) (a0 : Value) (a1 : Value) (H : AHeap) (K0 : K) : Res :=
bothK (newv T.api_Pair a0 H) fun t2 h1 =>
bareK (fad 0 t2) h1 fun t5 h2 =>
bareK (ld1 h2 t5) h2 fun t6 h3 =>
enterK C F.keys_Compare [t6, a1] h3 fun t8 h4 =>
K0 .ret [(4, t8)] h4

theorem s_model_Model_place_1_eq (M : CombL) (C : CallF) (LP : LoopH) (a0 : Value) (a1 : Value) (H : AHeap) : dBodyL M Try.prog hints C LP F.model_Model_place_1 [a0, a1] H = s_model_Model_place_1 M.b.g M.c M.s Try.prog C a0 a1 H (endK Try.prog [.tmp 4]) := by kernel_rfl

/-! ticketline.keys.Compare -/

noncomputable def s_keys_Compare (mg : GT) (mc : CT) (ms : ST) (P : Program) (C : CallF) (a0 : Value) (a1 : Value) (H : AHeap) (K0 : K) : Res :=
enterK C F.strings_Compare [a0, a1] H fun t7 h1 =>
K0 .ret [(4, t7)] h1

theorem s_keys_Compare_eq (M : CombL) (C : CallF) (LP : LoopH) (a0 : Value) (a1 : Value) (H : AHeap) : dBodyL M Try.prog hints C LP F.keys_Compare [a0, a1] H = s_keys_Compare M.b.g M.c M.s Try.prog C a0 a1 H (endK Try.prog [.tmp 4]) := by kernel_rfl

/-! slices.ContainsFunc[[]string,string] -/

noncomputable def s_slices_ContainsFunc_string (mg : GT) (mc : CT) (ms : ST) (P : Program) (C : CallF) (a0 : Value) (a1 : Value) (H : AHeap) (K0 : K) : Res :=
enterK C F.slices_IndexFunc_string [a0, a1] H fun t7 h1 =>
bareK (xbin P .geq T.int (.tmp 7) (.const (.int .i64 0)) t7 (.int .i64 0)) h1 fun t8 h2 =>
K0 .ret [(4, t8)] h2

theorem s_slices_ContainsFunc_string_eq (M : CombL) (C : CallF) (LP : LoopH) (a0 : Value) (a1 : Value) (H : AHeap) : dBodyL M Try.prog hints C LP F.slices_ContainsFunc_string [a0, a1] H = s_slices_ContainsFunc_string M.b.g M.c M.s Try.prog C a0 a1 H (endK Try.prog [.tmp 4]) := by kernel_rfl

/-! ticketline.model.check$1 -/

noncomputable def s_model_check_1 (mg : GT) (mc : CT) (ms : ST) (P : Program) (C : CallF) (a0 : Value) (H : AHeap) (K0 : K) : Res :=
bareK (lenT a0) H fun t4 h1 =>
bareK (xbin P .gtr T.int (.tmp 4) (.const (.int .i64 40)) t4 (.int .i64 40)) h1 fun t5 h2 =>
K0 .ret [(2, t5)] h2

theorem s_model_check_1_eq (M : CombL) (C : CallF) (LP : LoopH) (a0 : Value) (H : AHeap) : dBodyL M Try.prog hints C LP F.model_check_1 [a0] H = s_model_check_1 M.b.g M.c M.s Try.prog C a0 H (endK Try.prog [.tmp 2]) := by kernel_rfl

/-! strings.Compare -/

noncomputable def s_strings_Compare (mg : GT) (mc : CT) (ms : ST) (P : Program) (C : CallF) (a0 : Value) (a1 : Value) (H : AHeap) (K0 : K) : Res :=
enterK C F.internal_bytealg_CompareString [a0, a1] H fun t7 h1 =>
K0 .ret [(4, t7)] h1

theorem s_strings_Compare_eq (M : CombL) (C : CallF) (LP : LoopH) (a0 : Value) (a1 : Value) (H : AHeap) : dBodyL M Try.prog hints C LP F.strings_Compare [a0, a1] H = s_strings_Compare M.b.g M.c M.s Try.prog C a0 a1 H (endK Try.prog [.tmp 4]) := by kernel_rfl

/-! slices.IndexFunc[[]string,string] -/

noncomputable def s_slices_IndexFunc_string (mg : GT) (mc : CT) (ms : ST) (P : Program) (C : CallF) (L0 : Value → Value → Value → Value → AHeap → K → Res) (a0 : Value) (a1 : Value) (H : AHeap) (K0 : K) : Res :=
bareK (lenS a0) H fun t7 h1 =>
ms (fun k1 =>
L0 a0 a1 t7 (.int .i64 0) h1 (blkK [] 0 k1)) (seqK (fun tT h2 =>
K0 .ret [(4, (.int .i64 (-1)))] h2) K0)

noncomputable def s_slices_IndexFunc_string_b0 (mg : GT) (mc : CT) (ms : ST) (P : Program) (C : CallF) (L0 : Value → Value → Value → Value → AHeap → K → Res) (v0 : Value) (v1 : Value) (v7 : Value) (v8 : Value) (H : AHeap) (k : K) : Res :=
bareK (xbin P .lss T.int (.tmp 8) (.tmp 7) v8 v7) H fun t9 h2 =>
mc t9 (fun k2 => k2 .normal [(0, v0), (1, v1), (7, v7), (8, v8)] h2) (fun k2 =>
k2 (.exit 0) [(9, t9), (0, v0), (1, v1), (7, v7), (8, v8)] h2) (seqK (fun tT h3 =>
ms (fun k3 =>
bareK (ixS 1 (get tT 0) (get tT 8)) h3 fun t14 h4 =>
bareK (ld1 h4 t14) h4 fun t15 h5 =>
callK P C (get tT 1) [t15] h5 fun t16 h6 =>
mc t16 (fun k4 => k4 .ret [(4, (get tT 8))] h6) (fun k4 =>
k4 .normal [(0, (get tT 0)), (1, (get tT 1)), (7, (get tT 7)), (8, (get tT 8))] h6) (blkK [0, 1, 7, 8] 1 k3)) (seqK (fun tT_1 h7 =>
bareK (xbin P .add T.int (.tmp 8) (.const (.int .i64 1)) (get tT_1 8) (.int .i64 1)) h7 fun t18 h8 =>
k .normal [(0, (get tT_1 0)), (1, (get tT_1 1)), (7, (get tT_1 7)), (8, t18)] h8) (afterK [0, 1, 7, 8] k))) (afterK [0, 1, 7, 8] k))

theorem s_slices_IndexFunc_string_eq (M : CombL) (C : CallF) (LP : LoopH) (a0 : Value) (a1 : Value) (H : AHeap) : dBodyL M Try.prog hints C LP F.slices_IndexFunc_string [a0, a1] H = s_slices_IndexFunc_string M.b.g M.c M.s Try.prog C (fun v0 v1 v7 v8 H k => loopL M Try.prog hints C LP F.slices_IndexFunc_string 0 [(0, v0), (1, v1), (7, v7), (8, v8)] H k) a0 a1 H (endK Try.prog [.tmp 4]) := by kernel_rfl

theorem s_slices_IndexFunc_string_b0_eq (M : CombL) (C : CallF) (LP : LoopH) (v0 : Value) (v1 : Value) (v7 : Value) (v8 : Value) (H : AHeap) (k : K) : bodyL M Try.prog hints C LP F.slices_IndexFunc_string 0 [(0, v0), (1, v1), (7, v7), (8, v8)] H (afterK [0, 1, 7, 8] k) = s_slices_IndexFunc_string_b0 M.b.g M.c M.s Try.prog C (fun v0 v1 v7 v8 H k => loopL M Try.prog hints C LP F.slices_IndexFunc_string 0 [(0, v0), (1, v1), (7, v7), (8, v8)] H k) v0 v1 v7 v8 H k := by kernel_rfl

/-! internal.bytealg.CompareString -/

noncomputable def s_internal_bytealg_CompareString (mg : GT) (mc : CT) (ms : ST) (P : Program) (C : CallF) (a0 : Value) (a1 : Value) (H : AHeap) (K0 : K) : Res :=
bareK (xext P Try.f89 [a0, a1] H) H fun t7 h1 =>
K0 .ret [(4, t7)] h1

theorem s_internal_bytealg_CompareString_eq (M : CombL) (C : CallF) (LP : LoopH) (a0 : Value) (a1 : Value) (H : AHeap) : dBodyL M Try.prog hints C LP F.internal_bytealg_CompareString [a0, a1] H = s_internal_bytealg_CompareString M.b.g M.c M.s Try.prog C a0 a1 H (endK Try.prog [.tmp 4]) := by kernel_rfl



end Go.Proofs.Ythjjkinpbpealaa

/-
  The equations of the seat's functions over calls in the limit (a program of ours printed it).
  Conditions: none. By an AI agent.
-/
set_option linter.unusedVariables false
namespace Go.Proofs.Ythjjkinpbpealaa
open Go Eng

theorem u_int : Try.prog.underlying T.int = Try.prog.underlying 3 := rfl
theorem u_uint8 : Try.prog.underlying T.uint8 = Try.prog.underlying 5 := rfl
theorem u_string : Try.prog.underlying T.string = Try.prog.underlying 9 := rfl
theorem u_p_expire_Store : Try.prog.underlying T.p_expire_Store = Try.prog.underlying 23 := rfl
theorem u_sl_api_Pair : Try.prog.underlying T.sl_api_Pair = Try.prog.underlying 24 := rfl
theorem u_model_Model : Try.prog.underlying T.model_Model = Try.prog.underlying 26 := rfl
theorem u_map_string_int : Try.prog.underlying T.map_string_int = Try.prog.underlying 27 := rfl
theorem u_expire_Store : Try.prog.underlying T.expire_Store = Try.prog.underlying 29 := rfl
theorem u_api_Errno : Try.prog.underlying T.api_Errno = Try.prog.underlying 31 := rfl
theorem u_law_Act : Try.prog.underlying T.law_Act = Try.prog.underlying 44 := rfl
theorem u_api_Pair : Try.prog.underlying T.api_Pair = Try.prog.underlying 47 := rfl
theorem u_law_Entry : Try.prog.underlying T.law_Entry = Try.prog.underlying 76 := rfl
theorem u_p_model_Model : Try.prog.underlying T.p_model_Model = Try.prog.underlying 77 := rfl
theorem u_uint : Try.prog.underlying T.uint = Try.prog.underlying 95 := rfl
theorem u_slices_sortedHint : Try.prog.underlying T.slices_sortedHint = Try.prog.underlying 103 := rfl
theorem u_uint32 : Try.prog.underlying T.uint32 = Try.prog.underlying 110 := rfl
theorem u_uint64 : Try.prog.underlying T.uint64 = Try.prog.underlying 112 := rfl
theorem u_slices_xorshift : Try.prog.underlying T.slices_xorshift = Try.prog.underlying 114 := rfl
@[go_sem] theorem x_int_uint {n : Int} {H : AHeap} : xconv Try.prog T.int T.uint (.int .i64 n) H = some (.int .u64 (IntKind.wrap .u64 n), H) := xconv_int (P := Try.prog) (s := 3) (t := 95) Try.underlying3 Try.underlying95
@[go_sem] theorem x_int_slices_xorshift {n : Int} {H : AHeap} : xconv Try.prog T.int T.slices_xorshift (.int .i64 n) H = some (.int .u64 (IntKind.wrap .u64 n), H) := xconv_int (P := Try.prog) (s := 3) (t := 114) Try.underlying3 Try.underlying114
@[go_sem] theorem x_uint8_int {n : Int} {H : AHeap} : xconv Try.prog T.uint8 T.int (.int .u8 n) H = some (.int .i64 (IntKind.wrap .i64 n), H) := xconv_int (P := Try.prog) (s := 5) (t := 3) Try.underlying5 Try.underlying3
@[go_sem] theorem x_uint_int {n : Int} {H : AHeap} : xconv Try.prog T.uint T.int (.int .u64 n) H = some (.int .i64 (IntKind.wrap .i64 n), H) := xconv_int (P := Try.prog) (s := 95) (t := 3) Try.underlying95 Try.underlying3
@[go_sem] theorem x_uint_uint32 {n : Int} {H : AHeap} : xconv Try.prog T.uint T.uint32 (.int .u64 n) H = some (.int .u32 (IntKind.wrap .u32 n), H) := xconv_int (P := Try.prog) (s := 95) (t := 110) Try.underlying95 Try.underlying110
@[go_sem] theorem x_uint32_uint8 {n : Int} {H : AHeap} : xconv Try.prog T.uint32 T.uint8 (.int .u32 n) H = some (.int .u8 (IntKind.wrap .u8 n), H) := xconv_int (P := Try.prog) (s := 110) (t := 5) Try.underlying110 Try.underlying5
@[go_sem] theorem x_uint64_uint8 {n : Int} {H : AHeap} : xconv Try.prog T.uint64 T.uint8 (.int .u64 n) H = some (.int .u8 (IntKind.wrap .u8 n), H) := xconv_int (P := Try.prog) (s := 112) (t := 5) Try.underlying112 Try.underlying5
theorem c_expire_Store_Alive_1 {call : CallF} {x c : Array Value} {args : List Value} {H : AHeap} {k : Value → AHeap → Res} : callK Try.prog call (.func (.func F.expire_Store_Alive_1) x c) args H k = enterK call F.expire_Store_Alive_1 (x.toList ++ args ++ c.toList) H k := by kernel_rfl
theorem c_model_Model_place {call : CallF} {x c : Array Value} {args : List Value} {H : AHeap} {k : Value → AHeap → Res} : callK Try.prog call (.func (.func F.model_Model_place) x c) args H k = enterK call F.model_Model_place (x.toList ++ args ++ c.toList) H k := by kernel_rfl
theorem c_model_Model_place_1 {call : CallF} {x c : Array Value} {args : List Value} {H : AHeap} {k : Value → AHeap → Res} : callK Try.prog call (.func (.func F.model_Model_place_1) x c) args H k = enterK call F.model_Model_place_1 (x.toList ++ args ++ c.toList) H k := by kernel_rfl
theorem c_model_check_1 {call : CallF} {x c : Array Value} {args : List Value} {H : AHeap} {k : Value → AHeap → Res} : callK Try.prog call (.func (.func F.model_check_1) x c) args H k = enterK call F.model_check_1 (x.toList ++ args ++ c.toList) H k := by kernel_rfl

theorem d_expire_Store_Put (a0 : Value) (a1 : Value) (a2 : Value) (a3 : Value) (H : AHeap) {r : Value × AHeap} (h : s_expire_Store_Put guardK condL shareL Try.prog CC a0 a1 a2 a3 H (endK Try.prog [.tmp 8]) = some r) : CC F.expire_Store_Put [a0, a1, a2, a3] H = some (tidy H r) := D_body (by kernel_rfl) ((s_expire_Store_Put_eq stdL CC limLP a0 a1 a2 a3 H).trans (Eq.trans (show s_expire_Store_Put stdL.b.g stdL.c stdL.s Try.prog CC a0 a1 a2 a3 H (endK Try.prog [.tmp 8]) = s_expire_Store_Put guardK condL shareL Try.prog CC a0 a1 a2 a3 H (endK Try.prog [.tmp 8]) by kernel_rfl) h))

theorem d_expire_Store_Pass (a0 : Value) (a1 : Value) (H : AHeap) {r : Value × AHeap} (h : s_expire_Store_Pass guardK condL shareL Try.prog CC a0 a1 H (endK Try.prog [.tmp 4]) = some r) : CC F.expire_Store_Pass [a0, a1] H = some (tidy H r) := D_body (by kernel_rfl) ((s_expire_Store_Pass_eq stdL CC limLP a0 a1 H).trans (Eq.trans (show s_expire_Store_Pass stdL.b.g stdL.c stdL.s Try.prog CC a0 a1 H (endK Try.prog [.tmp 4]) = s_expire_Store_Pass guardK condL shareL Try.prog CC a0 a1 H (endK Try.prog [.tmp 4]) by kernel_rfl) h))

theorem d_expire_Store_Waiting (a0 : Value) (H : AHeap) {r : Value × AHeap} (h : s_expire_Store_Waiting guardK condL shareL Try.prog CC a0 H (endK Try.prog [.tmp 2]) = some r) : CC F.expire_Store_Waiting [a0] H = some (tidy H r) := D_body (by kernel_rfl) ((s_expire_Store_Waiting_eq stdL CC limLP a0 H).trans (Eq.trans (show s_expire_Store_Waiting stdL.b.g stdL.c stdL.s Try.prog CC a0 H (endK Try.prog [.tmp 2]) = s_expire_Store_Waiting guardK condL shareL Try.prog CC a0 H (endK Try.prog [.tmp 2]) by kernel_rfl) h))

theorem d_expire_Store_Len (a0 : Value) (H : AHeap) {r : Value × AHeap} (h : s_expire_Store_Len guardK condL shareL Try.prog CC a0 H (endK Try.prog [.tmp 2]) = some r) : CC F.expire_Store_Len [a0] H = some (tidy H r) := D_body (by kernel_rfl) ((s_expire_Store_Len_eq stdL CC limLP a0 H).trans (Eq.trans (show s_expire_Store_Len stdL.b.g stdL.c stdL.s Try.prog CC a0 H (endK Try.prog [.tmp 2]) = s_expire_Store_Len guardK condL shareL Try.prog CC a0 H (endK Try.prog [.tmp 2]) by kernel_rfl) h))

noncomputable def l_expire_Store_Sweep_0 (v0 : Value) (v6 : Value) (v23 : Value) (v24 : Value) (v25 : Value) (H : AHeap) (k : K) : Res := loopL stdL Try.prog hints CC limLP F.expire_Store_Sweep 0 [(0, v0), (6, v6), (23, v23), (24, v24), (25, v25)] H k
theorem r_expire_Store_Sweep_0 (v0 : Value) (v6 : Value) (v23 : Value) (v24 : Value) (v25 : Value) (H : AHeap) (k : K) : l_expire_Store_Sweep_0 v0 v6 v23 v24 v25 H k = s_expire_Store_Sweep_b0 guardK condL shareL Try.prog CC l_expire_Store_Sweep_0 v0 v6 v23 v24 v25 H (seqK (fun T H => l_expire_Store_Sweep_0 (get T 0) (get T 6) (get T 23) (get T 24) (get T 25) H k) k) := ((loopL_next (by kernel_rfl) rfl H k).trans (s_expire_Store_Sweep_b0_eq stdL CC limLP v0 v6 v23 v24 v25 H _)).trans (by kernel_rfl)
theorem d_expire_Store_Sweep (a0 : Value) (a1 : Value) (H : AHeap) {r : Value × AHeap} (h : s_expire_Store_Sweep guardK condL shareL Try.prog CC l_expire_Store_Sweep_0 a0 a1 H (endK Try.prog [.tmp 4, .tmp 5]) = some r) : CC F.expire_Store_Sweep [a0, a1] H = some (tidy H r) := D_body (by kernel_rfl) ((s_expire_Store_Sweep_eq stdL CC limLP a0 a1 H).trans (Eq.trans (show s_expire_Store_Sweep stdL.b.g stdL.c stdL.s Try.prog CC (fun v0 v6 v23 v24 v25 H k => loopL stdL Try.prog hints CC limLP F.expire_Store_Sweep 0 [(0, v0), (6, v6), (23, v23), (24, v24), (25, v25)] H k) a0 a1 H (endK Try.prog [.tmp 4, .tmp 5]) = s_expire_Store_Sweep guardK condL shareL Try.prog CC l_expire_Store_Sweep_0 a0 a1 H (endK Try.prog [.tmp 4, .tmp 5]) by kernel_rfl) h))

theorem d_expire_Store_Alive (a0 : Value) (H : AHeap) {r : Value × AHeap} (h : s_expire_Store_Alive guardK condL shareL Try.prog CC a0 H (endK Try.prog [.tmp 2]) = some r) : CC F.expire_Store_Alive [a0] H = some (tidy H r) := D_body (by kernel_rfl) ((s_expire_Store_Alive_eq stdL CC limLP a0 H).trans (Eq.trans (show s_expire_Store_Alive stdL.b.g stdL.c stdL.s Try.prog CC a0 H (endK Try.prog [.tmp 2]) = s_expire_Store_Alive guardK condL shareL Try.prog CC a0 H (endK Try.prog [.tmp 2]) by kernel_rfl) h))

noncomputable def l_law_small_0 (v0 : Value) (v1 : Value) (v5 : Value) (H : AHeap) (k : K) : Res := loopL stdL Try.prog hints CC limLP F.law_small 0 [(0, v0), (1, v1), (5, v5)] H k
theorem r_law_small_0 (v0 : Value) (v1 : Value) (v5 : Value) (H : AHeap) (k : K) : l_law_small_0 v0 v1 v5 H k = s_law_small_b0 guardK condL shareL Try.prog CC l_law_small_0 v0 v1 v5 H (seqK (fun T H => l_law_small_0 (get T 0) (get T 1) (get T 5) H k) k) := ((loopL_next (by kernel_rfl) rfl H k).trans (s_law_small_b0_eq stdL CC limLP v0 v1 v5 H _)).trans (by kernel_rfl)
theorem d_law_small (a0 : Value) (a1 : Value) (H : AHeap) {r : Value × AHeap} (h : s_law_small guardK condL shareL Try.prog CC l_law_small_0 a0 a1 H (endK Try.prog [.tmp 4]) = some r) : CC F.law_small [a0, a1] H = some (tidy H r) := D_body (by kernel_rfl) ((s_law_small_eq stdL CC limLP a0 a1 H).trans (Eq.trans (show s_law_small stdL.b.g stdL.c stdL.s Try.prog CC (fun v0 v1 v5 H k => loopL stdL Try.prog hints CC limLP F.law_small 0 [(0, v0), (1, v1), (5, v5)] H k) a0 a1 H (endK Try.prog [.tmp 4]) = s_law_small guardK condL shareL Try.prog CC l_law_small_0 a0 a1 H (endK Try.prog [.tmp 4]) by kernel_rfl) h))

theorem d_law_calls (a0 : Value) (a1 : Value) (H : AHeap) {r : Value × AHeap} (h : s_law_calls guardK condL shareL Try.prog CC a0 a1 H (endK Try.prog [.tmp 4]) = some r) : CC F.law_calls [a0, a1] H = some (tidy H r) := D_body (by kernel_rfl) ((s_law_calls_eq stdL CC limLP a0 a1 H).trans (Eq.trans (show s_law_calls stdL.b.g stdL.c stdL.s Try.prog CC a0 a1 H (endK Try.prog [.tmp 4]) = s_law_calls guardK condL shareL Try.prog CC a0 a1 H (endK Try.prog [.tmp 4]) by kernel_rfl) h))

theorem d_expire_Store_Now (a0 : Value) (H : AHeap) {r : Value × AHeap} (h : s_expire_Store_Now guardK condL shareL Try.prog CC a0 H (endK Try.prog [.tmp 2]) = some r) : CC F.expire_Store_Now [a0] H = some (tidy H r) := D_body (by kernel_rfl) ((s_expire_Store_Now_eq stdL CC limLP a0 H).trans (Eq.trans (show s_expire_Store_Now stdL.b.g stdL.c stdL.s Try.prog CC a0 H (endK Try.prog [.tmp 2]) = s_expire_Store_Now guardK condL shareL Try.prog CC a0 H (endK Try.prog [.tmp 2]) by kernel_rfl) h))

theorem d_expire_Store_Get (a0 : Value) (a1 : Value) (H : AHeap) {r : Value × AHeap} (h : s_expire_Store_Get guardK condL shareL Try.prog CC a0 a1 H (endK Try.prog [.tmp 4, .tmp 5, .tmp 6]) = some r) : CC F.expire_Store_Get [a0, a1] H = some (tidy H r) := D_body (by kernel_rfl) ((s_expire_Store_Get_eq stdL CC limLP a0 a1 H).trans (Eq.trans (show s_expire_Store_Get stdL.b.g stdL.c stdL.s Try.prog CC a0 a1 H (endK Try.prog [.tmp 4, .tmp 5, .tmp 6]) = s_expire_Store_Get guardK condL shareL Try.prog CC a0 a1 H (endK Try.prog [.tmp 4, .tmp 5, .tmp 6]) by kernel_rfl) h))

theorem d_law_Model_do (a0 : Value) (a1 : Value) (H : AHeap) {r : Value × AHeap} (h : s_law_Model_do guardK condL shareL Try.prog CC a0 a1 H (endK Try.prog [.tmp 4]) = some r) : CC F.law_Model_do [a0, a1] H = some (tidy H r) := D_body (by kernel_rfl) ((s_law_Model_do_eq stdL CC limLP a0 a1 H).trans (Eq.trans (show s_law_Model_do stdL.b.g stdL.c stdL.s Try.prog CC a0 a1 H (endK Try.prog [.tmp 4]) = s_law_Model_do guardK condL shareL Try.prog CC a0 a1 H (endK Try.prog [.tmp 4]) by kernel_rfl) h))

noncomputable def l_law_sweeps_0 (v2 : Value) (v9 : Value) (v11 : Value) (H : AHeap) (k : K) : Res := loopL stdL Try.prog hints CC limLP F.law_sweeps 0 [(2, v2), (9, v9), (11, v11)] H k
theorem r_law_sweeps_0 (v2 : Value) (v9 : Value) (v11 : Value) (H : AHeap) (k : K) : l_law_sweeps_0 v2 v9 v11 H k = s_law_sweeps_b0 guardK condL shareL Try.prog CC l_law_sweeps_0 v2 v9 v11 H (seqK (fun T H => l_law_sweeps_0 (get T 2) (get T 9) (get T 11) H k) k) := ((loopL_next (by kernel_rfl) rfl H k).trans (s_law_sweeps_b0_eq stdL CC limLP v2 v9 v11 H _)).trans (by kernel_rfl)
theorem d_law_sweeps (a0 : Value) (a1 : Value) (a2 : Value) (a3 : Value) (H : AHeap) {r : Value × AHeap} (h : s_law_sweeps guardK condL shareL Try.prog CC l_law_sweeps_0 a0 a1 a2 a3 H (endK Try.prog [.tmp 8]) = some r) : CC F.law_sweeps [a0, a1, a2, a3] H = some (tidy H r) := D_body (by kernel_rfl) ((s_law_sweeps_eq stdL CC limLP a0 a1 a2 a3 H).trans (Eq.trans (show s_law_sweeps stdL.b.g stdL.c stdL.s Try.prog CC (fun v2 v9 v11 H k => loopL stdL Try.prog hints CC limLP F.law_sweeps 0 [(2, v2), (9, v9), (11, v11)] H k) a0 a1 a2 a3 H (endK Try.prog [.tmp 8]) = s_law_sweeps guardK condL shareL Try.prog CC l_law_sweeps_0 a0 a1 a2 a3 H (endK Try.prog [.tmp 8]) by kernel_rfl) h))

noncomputable def l_law_Model_waiting_0 (v0 : Value) (v3 : Value) (v4 : Value) (H : AHeap) (k : K) : Res := loopL stdL Try.prog hints CC limLP F.law_Model_waiting 0 [(0, v0), (3, v3), (4, v4)] H k
noncomputable def l_law_Model_waiting_1 (v0 : Value) (v3 : Value) (v4 : Value) (v5 : Value) (v6 : Value) (H : AHeap) (k : K) : Res := loopL stdL Try.prog hints CC limLP F.law_Model_waiting 1 [(0, v0), (3, v3), (4, v4), (5, v5), (6, v6)] H k
noncomputable def l_law_Model_waiting_2 (v3 : Value) (v8 : Value) (v9 : Value) (H : AHeap) (k : K) : Res := loopL stdL Try.prog hints CC limLP F.law_Model_waiting 2 [(3, v3), (8, v8), (9, v9)] H k
theorem r_law_Model_waiting_0 (v0 : Value) (v3 : Value) (v4 : Value) (H : AHeap) (k : K) : l_law_Model_waiting_0 v0 v3 v4 H k = s_law_Model_waiting_b0 guardK condL shareL Try.prog CC l_law_Model_waiting_0 l_law_Model_waiting_1 l_law_Model_waiting_2 v0 v3 v4 H (seqK (fun T H => l_law_Model_waiting_0 (get T 0) (get T 3) (get T 4) H k) k) := ((loopL_next (by kernel_rfl) rfl H k).trans (s_law_Model_waiting_b0_eq stdL CC limLP v0 v3 v4 H _)).trans (by kernel_rfl)
theorem r_law_Model_waiting_1 (v0 : Value) (v3 : Value) (v4 : Value) (v5 : Value) (v6 : Value) (H : AHeap) (k : K) : l_law_Model_waiting_1 v0 v3 v4 v5 v6 H k = s_law_Model_waiting_b1 guardK condL shareL Try.prog CC l_law_Model_waiting_0 l_law_Model_waiting_1 l_law_Model_waiting_2 v0 v3 v4 v5 v6 H (seqK (fun T H => l_law_Model_waiting_1 (get T 0) (get T 3) (get T 4) (get T 5) (get T 6) H k) k) := ((loopL_next (by kernel_rfl) rfl H k).trans (s_law_Model_waiting_b1_eq stdL CC limLP v0 v3 v4 v5 v6 H _)).trans (by kernel_rfl)
theorem r_law_Model_waiting_2 (v3 : Value) (v8 : Value) (v9 : Value) (H : AHeap) (k : K) : l_law_Model_waiting_2 v3 v8 v9 H k = s_law_Model_waiting_b2 guardK condL shareL Try.prog CC l_law_Model_waiting_0 l_law_Model_waiting_1 l_law_Model_waiting_2 v3 v8 v9 H (seqK (fun T H => l_law_Model_waiting_2 (get T 3) (get T 8) (get T 9) H k) k) := ((loopL_next (by kernel_rfl) rfl H k).trans (s_law_Model_waiting_b2_eq stdL CC limLP v3 v8 v9 H _)).trans (by kernel_rfl)
theorem d_law_Model_waiting (a0 : Value) (H : AHeap) {r : Value × AHeap} (h : s_law_Model_waiting guardK condL shareL Try.prog CC l_law_Model_waiting_0 l_law_Model_waiting_1 l_law_Model_waiting_2 a0 H (endK Try.prog [.tmp 2]) = some r) : CC F.law_Model_waiting [a0] H = some (tidy H r) := D_body (by kernel_rfl) ((s_law_Model_waiting_eq stdL CC limLP a0 H).trans (Eq.trans (show s_law_Model_waiting stdL.b.g stdL.c stdL.s Try.prog CC (fun v0 v3 v4 H k => loopL stdL Try.prog hints CC limLP F.law_Model_waiting 0 [(0, v0), (3, v3), (4, v4)] H k) (fun v0 v3 v4 v5 v6 H k => loopL stdL Try.prog hints CC limLP F.law_Model_waiting 1 [(0, v0), (3, v3), (4, v4), (5, v5), (6, v6)] H k) (fun v3 v8 v9 H k => loopL stdL Try.prog hints CC limLP F.law_Model_waiting 2 [(3, v3), (8, v8), (9, v9)] H k) a0 H (endK Try.prog [.tmp 2]) = s_law_Model_waiting guardK condL shareL Try.prog CC l_law_Model_waiting_0 l_law_Model_waiting_1 l_law_Model_waiting_2 a0 H (endK Try.prog [.tmp 2]) by kernel_rfl) h))

theorem d_law_Model_without (a0 : Value) (a1 : Value) (H : AHeap) {r : Value × AHeap} (h : s_law_Model_without guardK condL shareL Try.prog CC a0 a1 H (endK Try.prog [.tmp 4]) = some r) : CC F.law_Model_without [a0, a1] H = some (tidy H r) := D_body (by kernel_rfl) ((s_law_Model_without_eq stdL CC limLP a0 a1 H).trans (Eq.trans (show s_law_Model_without stdL.b.g stdL.c stdL.s Try.prog CC a0 a1 H (endK Try.prog [.tmp 4]) = s_law_Model_without guardK condL shareL Try.prog CC a0 a1 H (endK Try.prog [.tmp 4]) by kernel_rfl) h))

noncomputable def l_law_Model_find_0 (v0 : Value) (v1 : Value) (v5 : Value) (H : AHeap) (k : K) : Res := loopL stdL Try.prog hints CC limLP F.law_Model_find 0 [(0, v0), (1, v1), (5, v5)] H k
theorem r_law_Model_find_0 (v0 : Value) (v1 : Value) (v5 : Value) (H : AHeap) (k : K) : l_law_Model_find_0 v0 v1 v5 H k = s_law_Model_find_b0 guardK condL shareL Try.prog CC l_law_Model_find_0 v0 v1 v5 H (seqK (fun T H => l_law_Model_find_0 (get T 0) (get T 1) (get T 5) H k) k) := ((loopL_next (by kernel_rfl) rfl H k).trans (s_law_Model_find_b0_eq stdL CC limLP v0 v1 v5 H _)).trans (by kernel_rfl)
theorem d_law_Model_find (a0 : Value) (a1 : Value) (H : AHeap) {r : Value × AHeap} (h : s_law_Model_find guardK condL shareL Try.prog CC l_law_Model_find_0 a0 a1 H (endK Try.prog [.tmp 4]) = some r) : CC F.law_Model_find [a0, a1] H = some (tidy H r) := D_body (by kernel_rfl) ((s_law_Model_find_eq stdL CC limLP a0 a1 H).trans (Eq.trans (show s_law_Model_find stdL.b.g stdL.c stdL.s Try.prog CC (fun v0 v1 v5 H k => loopL stdL Try.prog hints CC limLP F.law_Model_find 0 [(0, v0), (1, v1), (5, v5)] H k) a0 a1 H (endK Try.prog [.tmp 4]) = s_law_Model_find guardK condL shareL Try.prog CC l_law_Model_find_0 a0 a1 H (endK Try.prog [.tmp 4]) by kernel_rfl) h))

theorem d_law_bad (a0 : Value) (a1 : Value) (H : AHeap) {r : Value × AHeap} (h : s_law_bad guardK condL shareL Try.prog CC a0 a1 H (endK Try.prog [.tmp 4]) = some r) : CC F.law_bad [a0, a1] H = some (tidy H r) := D_body (by kernel_rfl) ((s_law_bad_eq stdL CC limLP a0 a1 H).trans (Eq.trans (show s_law_bad stdL.b.g stdL.c stdL.s Try.prog CC a0 a1 H (endK Try.prog [.tmp 4]) = s_law_bad guardK condL shareL Try.prog CC a0 a1 H (endK Try.prog [.tmp 4]) by kernel_rfl) h))

theorem d_law_Model_alive (a0 : Value) (a1 : Value) (H : AHeap) {r : Value × AHeap} (h : s_law_Model_alive guardK condL shareL Try.prog CC a0 a1 H (endK Try.prog [.tmp 4]) = some r) : CC F.law_Model_alive [a0, a1] H = some (tidy H r) := D_body (by kernel_rfl) ((s_law_Model_alive_eq stdL CC limLP a0 a1 H).trans (Eq.trans (show s_law_Model_alive stdL.b.g stdL.c stdL.s Try.prog CC a0 a1 H (endK Try.prog [.tmp 4]) = s_law_Model_alive guardK condL shareL Try.prog CC a0 a1 H (endK Try.prog [.tmp 4]) by kernel_rfl) h))

theorem d_law_gets (a0 : Value) (a1 : Value) (a2 : Value) (a3 : Value) (a4 : Value) (H : AHeap) {r : Value × AHeap} (h : s_law_gets guardK condL shareL Try.prog CC a0 a1 a2 a3 a4 H (endK Try.prog [.tmp 10]) = some r) : CC F.law_gets [a0, a1, a2, a3, a4] H = some (tidy H r) := D_body (by kernel_rfl) ((s_law_gets_eq stdL CC limLP a0 a1 a2 a3 a4 H).trans (Eq.trans (show s_law_gets stdL.b.g stdL.c stdL.s Try.prog CC a0 a1 a2 a3 a4 H (endK Try.prog [.tmp 10]) = s_law_gets guardK condL shareL Try.prog CC a0 a1 a2 a3 a4 H (endK Try.prog [.tmp 10]) by kernel_rfl) h))

noncomputable def l_law_alike_0 (v0 : Value) (v1 : Value) (v5 : Value) (v6 : Value) (v7 : Value) (H : AHeap) (k : K) : Res := loopL stdL Try.prog hints CC limLP F.law_alike 0 [(0, v0), (1, v1), (5, v5), (6, v6), (7, v7)] H k
noncomputable def l_law_alike_1 (v0 : Value) (v5 : Value) (v6 : Value) (v9 : Value) (H : AHeap) (k : K) : Res := loopL stdL Try.prog hints CC limLP F.law_alike 1 [(0, v0), (5, v5), (6, v6), (9, v9)] H k
noncomputable def l_law_alike_2 (v0 : Value) (v5 : Value) (v6 : Value) (v9 : Value) (v10 : Value) (v11 : Value) (H : AHeap) (k : K) : Res := loopL stdL Try.prog hints CC limLP F.law_alike 2 [(0, v0), (5, v5), (6, v6), (9, v9), (10, v10), (11, v11)] H k
theorem r_law_alike_0 (v0 : Value) (v1 : Value) (v5 : Value) (v6 : Value) (v7 : Value) (H : AHeap) (k : K) : l_law_alike_0 v0 v1 v5 v6 v7 H k = s_law_alike_b0 guardK condL shareL Try.prog CC l_law_alike_0 l_law_alike_1 l_law_alike_2 v0 v1 v5 v6 v7 H (seqK (fun T H => l_law_alike_0 (get T 0) (get T 1) (get T 5) (get T 6) (get T 7) H k) k) := ((loopL_next (by kernel_rfl) rfl H k).trans (s_law_alike_b0_eq stdL CC limLP v0 v1 v5 v6 v7 H _)).trans (by kernel_rfl)
theorem r_law_alike_1 (v0 : Value) (v5 : Value) (v6 : Value) (v9 : Value) (H : AHeap) (k : K) : l_law_alike_1 v0 v5 v6 v9 H k = s_law_alike_b1 guardK condL shareL Try.prog CC l_law_alike_0 l_law_alike_1 l_law_alike_2 v0 v5 v6 v9 H (seqK (fun T H => l_law_alike_1 (get T 0) (get T 5) (get T 6) (get T 9) H k) k) := ((loopL_next (by kernel_rfl) rfl H k).trans (s_law_alike_b1_eq stdL CC limLP v0 v5 v6 v9 H _)).trans (by kernel_rfl)
theorem r_law_alike_2 (v0 : Value) (v5 : Value) (v6 : Value) (v9 : Value) (v10 : Value) (v11 : Value) (H : AHeap) (k : K) : l_law_alike_2 v0 v5 v6 v9 v10 v11 H k = s_law_alike_b2 guardK condL shareL Try.prog CC l_law_alike_0 l_law_alike_1 l_law_alike_2 v0 v5 v6 v9 v10 v11 H (seqK (fun T H => l_law_alike_2 (get T 0) (get T 5) (get T 6) (get T 9) (get T 10) (get T 11) H k) k) := ((loopL_next (by kernel_rfl) rfl H k).trans (s_law_alike_b2_eq stdL CC limLP v0 v5 v6 v9 v10 v11 H _)).trans (by kernel_rfl)
theorem d_law_alike (a0 : Value) (a1 : Value) (H : AHeap) {r : Value × AHeap} (h : s_law_alike guardK condL shareL Try.prog CC l_law_alike_0 l_law_alike_1 l_law_alike_2 a0 a1 H (endK Try.prog [.tmp 4]) = some r) : CC F.law_alike [a0, a1] H = some (tidy H r) := D_body (by kernel_rfl) ((s_law_alike_eq stdL CC limLP a0 a1 H).trans (Eq.trans (show s_law_alike stdL.b.g stdL.c stdL.s Try.prog CC (fun v0 v1 v5 v6 v7 H k => loopL stdL Try.prog hints CC limLP F.law_alike 0 [(0, v0), (1, v1), (5, v5), (6, v6), (7, v7)] H k) (fun v0 v5 v6 v9 H k => loopL stdL Try.prog hints CC limLP F.law_alike 1 [(0, v0), (5, v5), (6, v6), (9, v9)] H k) (fun v0 v5 v6 v9 v10 v11 H k => loopL stdL Try.prog hints CC limLP F.law_alike 2 [(0, v0), (5, v5), (6, v6), (9, v9), (10, v10), (11, v11)] H k) a0 a1 H (endK Try.prog [.tmp 4]) = s_law_alike guardK condL shareL Try.prog CC l_law_alike_0 l_law_alike_1 l_law_alike_2 a0 a1 H (endK Try.prog [.tmp 4]) by kernel_rfl) h))

theorem d_expire_Store_Extend (a0 : Value) (a1 : Value) (a2 : Value) (H : AHeap) {r : Value × AHeap} (h : s_expire_Store_Extend guardK condL shareL Try.prog CC a0 a1 a2 H (endK Try.prog [.tmp 6]) = some r) : CC F.expire_Store_Extend [a0, a1, a2] H = some (tidy H r) := D_body (by kernel_rfl) ((s_expire_Store_Extend_eq stdL CC limLP a0 a1 a2 H).trans (Eq.trans (show s_expire_Store_Extend stdL.b.g stdL.c stdL.s Try.prog CC a0 a1 a2 H (endK Try.prog [.tmp 6]) = s_expire_Store_Extend guardK condL shareL Try.prog CC a0 a1 a2 H (endK Try.prog [.tmp 6]) by kernel_rfl) h))

theorem d_expire_Store_Delete (a0 : Value) (a1 : Value) (H : AHeap) {r : Value × AHeap} (h : s_expire_Store_Delete guardK condL shareL Try.prog CC a0 a1 H (endK Try.prog [.tmp 4]) = some r) : CC F.expire_Store_Delete [a0, a1] H = some (tidy H r) := D_body (by kernel_rfl) ((s_expire_Store_Delete_eq stdL CC limLP a0 a1 H).trans (Eq.trans (show s_expire_Store_Delete stdL.b.g stdL.c stdL.s Try.prog CC a0 a1 H (endK Try.prog [.tmp 4]) = s_expire_Store_Delete guardK condL shareL Try.prog CC a0 a1 H (endK Try.prog [.tmp 4]) by kernel_rfl) h))

theorem d_expire_check (a0 : Value) (a1 : Value) (H : AHeap) {r : Value × AHeap} (h : s_expire_check guardK condL shareL Try.prog CC a0 a1 H (endK Try.prog [.tmp 4]) = some r) : CC F.expire_check [a0, a1] H = some (tidy H r) := D_body (by kernel_rfl) ((s_expire_check_eq stdL CC limLP a0 a1 H).trans (Eq.trans (show s_expire_check stdL.b.g stdL.c stdL.s Try.prog CC a0 a1 H (endK Try.prog [.tmp 4]) = s_expire_check guardK condL shareL Try.prog CC a0 a1 H (endK Try.prog [.tmp 4]) by kernel_rfl) h))

theorem d_model_Model_Put (a0 : Value) (a1 : Value) (a2 : Value) (H : AHeap) {r : Value × AHeap} (h : s_model_Model_Put guardK condL shareL Try.prog CC a0 a1 a2 H (endK Try.prog [.tmp 6]) = some r) : CC F.model_Model_Put [a0, a1, a2] H = some (tidy H r) := D_body (by kernel_rfl) ((s_model_Model_Put_eq stdL CC limLP a0 a1 a2 H).trans (Eq.trans (show s_model_Model_Put stdL.b.g stdL.c stdL.s Try.prog CC a0 a1 a2 H (endK Try.prog [.tmp 6]) = s_model_Model_Put guardK condL shareL Try.prog CC a0 a1 a2 H (endK Try.prog [.tmp 6]) by kernel_rfl) h))

theorem d_expire_Store_set (a0 : Value) (a1 : Value) (a2 : Value) (H : AHeap) {r : Value × AHeap} (h : s_expire_Store_set guardK condL shareL Try.prog CC a0 a1 a2 H (endK Try.prog []) = some r) : CC F.expire_Store_set [a0, a1, a2] H = some (tidy H r) := D_body (by kernel_rfl) ((s_expire_Store_set_eq stdL CC limLP a0 a1 a2 H).trans (Eq.trans (show s_expire_Store_set stdL.b.g stdL.c stdL.s Try.prog CC a0 a1 a2 H (endK Try.prog []) = s_expire_Store_set guardK condL shareL Try.prog CC a0 a1 a2 H (endK Try.prog []) by kernel_rfl) h))

theorem d_model_Model_Len (a0 : Value) (H : AHeap) {r : Value × AHeap} (h : s_model_Model_Len guardK condL shareL Try.prog CC a0 H (endK Try.prog [.tmp 2]) = some r) : CC F.model_Model_Len [a0] H = some (tidy H r) := D_body (by kernel_rfl) ((s_model_Model_Len_eq stdL CC limLP a0 H).trans (Eq.trans (show s_model_Model_Len stdL.b.g stdL.c stdL.s Try.prog CC a0 H (endK Try.prog [.tmp 2]) = s_model_Model_Len guardK condL shareL Try.prog CC a0 H (endK Try.prog [.tmp 2]) by kernel_rfl) h))

theorem d_model_Model_Delete (a0 : Value) (a1 : Value) (H : AHeap) {r : Value × AHeap} (h : s_model_Model_Delete guardK condL shareL Try.prog CC a0 a1 H (endK Try.prog [.tmp 4, .tmp 5]) = some r) : CC F.model_Model_Delete [a0, a1] H = some (tidy H r) := D_body (by kernel_rfl) ((s_model_Model_Delete_eq stdL CC limLP a0 a1 H).trans (Eq.trans (show s_model_Model_Delete stdL.b.g stdL.c stdL.s Try.prog CC a0 a1 H (endK Try.prog [.tmp 4, .tmp 5]) = s_model_Model_Delete guardK condL shareL Try.prog CC a0 a1 H (endK Try.prog [.tmp 4, .tmp 5]) by kernel_rfl) h))

noncomputable def l_slices_DeleteFunc_Pair_0 (v0 : Value) (v1 : Value) (v5 : Value) (v6 : Value) (H : AHeap) (k : K) : Res := loopL stdL Try.prog hints CC limLP F.slices_DeleteFunc_Pair 0 [(0, v0), (1, v1), (5, v5), (6, v6)] H k
theorem r_slices_DeleteFunc_Pair_0 (v0 : Value) (v1 : Value) (v5 : Value) (v6 : Value) (H : AHeap) (k : K) : l_slices_DeleteFunc_Pair_0 v0 v1 v5 v6 H k = s_slices_DeleteFunc_Pair_b0 guardK condL shareL Try.prog CC l_slices_DeleteFunc_Pair_0 v0 v1 v5 v6 H (seqK (fun T H => l_slices_DeleteFunc_Pair_0 (get T 0) (get T 1) (get T 5) (get T 6) H k) k) := ((loopL_next (by kernel_rfl) rfl H k).trans (s_slices_DeleteFunc_Pair_b0_eq stdL CC limLP v0 v1 v5 v6 H _)).trans (by kernel_rfl)
theorem d_slices_DeleteFunc_Pair (a0 : Value) (a1 : Value) (H : AHeap) {r : Value × AHeap} (h : s_slices_DeleteFunc_Pair guardK condL shareL Try.prog CC l_slices_DeleteFunc_Pair_0 a0 a1 H (endK Try.prog [.tmp 4]) = some r) : CC F.slices_DeleteFunc_Pair [a0, a1] H = some (tidy H r) := D_body (by kernel_rfl) ((s_slices_DeleteFunc_Pair_eq stdL CC limLP a0 a1 H).trans (Eq.trans (show s_slices_DeleteFunc_Pair stdL.b.g stdL.c stdL.s Try.prog CC (fun v0 v1 v5 v6 H k => loopL stdL Try.prog hints CC limLP F.slices_DeleteFunc_Pair 0 [(0, v0), (1, v1), (5, v5), (6, v6)] H k) a0 a1 H (endK Try.prog [.tmp 4]) = s_slices_DeleteFunc_Pair guardK condL shareL Try.prog CC l_slices_DeleteFunc_Pair_0 a0 a1 H (endK Try.prog [.tmp 4]) by kernel_rfl) h))

theorem d_model_Model_Pairs (a0 : Value) (H : AHeap) {r : Value × AHeap} (h : s_model_Model_Pairs guardK condL shareL Try.prog CC a0 H (endK Try.prog [.tmp 2]) = some r) : CC F.model_Model_Pairs [a0] H = some (tidy H r) := D_body (by kernel_rfl) ((s_model_Model_Pairs_eq stdL CC limLP a0 H).trans (Eq.trans (show s_model_Model_Pairs stdL.b.g stdL.c stdL.s Try.prog CC a0 H (endK Try.prog [.tmp 2]) = s_model_Model_Pairs guardK condL shareL Try.prog CC a0 H (endK Try.prog [.tmp 2]) by kernel_rfl) h))

theorem d_expire_Store_Alive_1 (a0 : Value) (a1 : Value) (H : AHeap) {r : Value × AHeap} (h : s_expire_Store_Alive_1 guardK condL shareL Try.prog CC a0 a1 H (endK Try.prog [.tmp 3]) = some r) : CC F.expire_Store_Alive_1 [a0, a1] H = some (tidy H r) := D_body (by kernel_rfl) ((s_expire_Store_Alive_1_eq stdL CC limLP a0 a1 H).trans (Eq.trans (show s_expire_Store_Alive_1 stdL.b.g stdL.c stdL.s Try.prog CC a0 a1 H (endK Try.prog [.tmp 3]) = s_expire_Store_Alive_1 guardK condL shareL Try.prog CC a0 a1 H (endK Try.prog [.tmp 3]) by kernel_rfl) h))

theorem d_expire_Store_ended (a0 : Value) (a1 : Value) (H : AHeap) {r : Value × AHeap} (h : s_expire_Store_ended guardK condL shareL Try.prog CC a0 a1 H (endK Try.prog [.tmp 4]) = some r) : CC F.expire_Store_ended [a0, a1] H = some (tidy H r) := D_body (by kernel_rfl) ((s_expire_Store_ended_eq stdL CC limLP a0 a1 H).trans (Eq.trans (show s_expire_Store_ended stdL.b.g stdL.c stdL.s Try.prog CC a0 a1 H (endK Try.prog [.tmp 4]) = s_expire_Store_ended guardK condL shareL Try.prog CC a0 a1 H (endK Try.prog [.tmp 4]) by kernel_rfl) h))

theorem d_model_Model_Get (a0 : Value) (a1 : Value) (H : AHeap) {r : Value × AHeap} (h : s_model_Model_Get guardK condL shareL Try.prog CC a0 a1 H (endK Try.prog [.tmp 4, .tmp 5]) = some r) : CC F.model_Model_Get [a0, a1] H = some (tidy H r) := D_body (by kernel_rfl) ((s_model_Model_Get_eq stdL CC limLP a0 a1 H).trans (Eq.trans (show s_model_Model_Get stdL.b.g stdL.c stdL.s Try.prog CC a0 a1 H (endK Try.prog [.tmp 4, .tmp 5]) = s_model_Model_Get guardK condL shareL Try.prog CC a0 a1 H (endK Try.prog [.tmp 4, .tmp 5]) by kernel_rfl) h))

noncomputable def l_law_Model_put_0 (v0 : Value) (v3 : Value) (v4 : Value) (v5 : Value) (H : AHeap) (k : K) : Res := loopL stdL Try.prog hints CC limLP F.law_Model_put 0 [(0, v0), (3, v3), (4, v4), (5, v5)] H k
theorem r_law_Model_put_0 (v0 : Value) (v3 : Value) (v4 : Value) (v5 : Value) (H : AHeap) (k : K) : l_law_Model_put_0 v0 v3 v4 v5 H k = s_law_Model_put_b0 guardK condL shareL Try.prog CC l_law_Model_put_0 v0 v3 v4 v5 H (seqK (fun T H => l_law_Model_put_0 (get T 0) (get T 3) (get T 4) (get T 5) H k) k) := ((loopL_next (by kernel_rfl) rfl H k).trans (s_law_Model_put_b0_eq stdL CC limLP v0 v3 v4 v5 H _)).trans (by kernel_rfl)
theorem d_law_Model_put (a0 : Value) (a1 : Value) (H : AHeap) {r : Value × AHeap} (h : s_law_Model_put guardK condL shareL Try.prog CC l_law_Model_put_0 a0 a1 H (endK Try.prog []) = some r) : CC F.law_Model_put [a0, a1] H = some (tidy H r) := D_body (by kernel_rfl) ((s_law_Model_put_eq stdL CC limLP a0 a1 H).trans (Eq.trans (show s_law_Model_put stdL.b.g stdL.c stdL.s Try.prog CC (fun v0 v3 v4 v5 H k => loopL stdL Try.prog hints CC limLP F.law_Model_put 0 [(0, v0), (3, v3), (4, v4), (5, v5)] H k) a0 a1 H (endK Try.prog []) = s_law_Model_put guardK condL shareL Try.prog CC l_law_Model_put_0 a0 a1 H (endK Try.prog []) by kernel_rfl) h))

theorem d_model_Model_Copy (a0 : Value) (H : AHeap) {r : Value × AHeap} (h : s_model_Model_Copy guardK condL shareL Try.prog CC a0 H (endK Try.prog [.tmp 2]) = some r) : CC F.model_Model_Copy [a0] H = some (tidy H r) := D_body (by kernel_rfl) ((s_model_Model_Copy_eq stdL CC limLP a0 H).trans (Eq.trans (show s_model_Model_Copy stdL.b.g stdL.c stdL.s Try.prog CC a0 H (endK Try.prog [.tmp 2]) = s_model_Model_Copy guardK condL shareL Try.prog CC a0 H (endK Try.prog [.tmp 2]) by kernel_rfl) h))

theorem d_model_Model_at (a0 : Value) (a1 : Value) (a2 : Value) (H : AHeap) {r : Value × AHeap} (h : s_model_Model_at guardK condL shareL Try.prog CC a0 a1 a2 H (endK Try.prog [.tmp 6, .tmp 7, .tmp 8]) = some r) : CC F.model_Model_at [a0, a1, a2] H = some (tidy H r) := D_body (by kernel_rfl) ((s_model_Model_at_eq stdL CC limLP a0 a1 a2 H).trans (Eq.trans (show s_model_Model_at stdL.b.g stdL.c stdL.s Try.prog CC a0 a1 a2 H (endK Try.prog [.tmp 6, .tmp 7, .tmp 8]) = s_model_Model_at guardK condL shareL Try.prog CC a0 a1 a2 H (endK Try.prog [.tmp 6, .tmp 7, .tmp 8]) by kernel_rfl) h))

theorem d_model_Model_set (a0 : Value) (a1 : Value) (a2 : Value) (a3 : Value) (H : AHeap) {r : Value × AHeap} (h : s_model_Model_set guardK condL shareL Try.prog CC a0 a1 a2 a3 H (endK Try.prog [.tmp 8]) = some r) : CC F.model_Model_set [a0, a1, a2, a3] H = some (tidy H r) := D_body (by kernel_rfl) ((s_model_Model_set_eq stdL CC limLP a0 a1 a2 a3 H).trans (Eq.trans (show s_model_Model_set stdL.b.g stdL.c stdL.s Try.prog CC a0 a1 a2 a3 H (endK Try.prog [.tmp 8]) = s_model_Model_set guardK condL shareL Try.prog CC a0 a1 a2 a3 H (endK Try.prog [.tmp 8]) by kernel_rfl) h))

theorem d_model_Model_place (a0 : Value) (a1 : Value) (H : AHeap) {r : Value × AHeap} (h : s_model_Model_place guardK condL shareL Try.prog CC a0 a1 H (endK Try.prog [.tmp 4, .tmp 5]) = some r) : CC F.model_Model_place [a0, a1] H = some (tidy H r) := D_body (by kernel_rfl) ((s_model_Model_place_eq stdL CC limLP a0 a1 H).trans (Eq.trans (show s_model_Model_place stdL.b.g stdL.c stdL.s Try.prog CC a0 a1 H (endK Try.prog [.tmp 4, .tmp 5]) = s_model_Model_place guardK condL shareL Try.prog CC a0 a1 H (endK Try.prog [.tmp 4, .tmp 5]) by kernel_rfl) h))

theorem d_slices_Delete_Pair (a0 : Value) (a1 : Value) (a2 : Value) (H : AHeap) {r : Value × AHeap} (h : s_slices_Delete_Pair guardK condL shareL Try.prog CC a0 a1 a2 H (endK Try.prog [.tmp 6]) = some r) : CC F.slices_Delete_Pair [a0, a1, a2] H = some (tidy H r) := D_body (by kernel_rfl) ((s_slices_Delete_Pair_eq stdL CC limLP a0 a1 a2 H).trans (Eq.trans (show s_slices_Delete_Pair stdL.b.g stdL.c stdL.s Try.prog CC a0 a1 a2 H (endK Try.prog [.tmp 6]) = s_slices_Delete_Pair guardK condL shareL Try.prog CC a0 a1 a2 H (endK Try.prog [.tmp 6]) by kernel_rfl) h))

noncomputable def l_slices_IndexFunc_Pair_0 (v0 : Value) (v1 : Value) (v7 : Value) (v8 : Value) (H : AHeap) (k : K) : Res := loopL stdL Try.prog hints CC limLP F.slices_IndexFunc_Pair 0 [(0, v0), (1, v1), (7, v7), (8, v8)] H k
theorem r_slices_IndexFunc_Pair_0 (v0 : Value) (v1 : Value) (v7 : Value) (v8 : Value) (H : AHeap) (k : K) : l_slices_IndexFunc_Pair_0 v0 v1 v7 v8 H k = s_slices_IndexFunc_Pair_b0 guardK condL shareL Try.prog CC l_slices_IndexFunc_Pair_0 v0 v1 v7 v8 H (seqK (fun T H => l_slices_IndexFunc_Pair_0 (get T 0) (get T 1) (get T 7) (get T 8) H k) k) := ((loopL_next (by kernel_rfl) rfl H k).trans (s_slices_IndexFunc_Pair_b0_eq stdL CC limLP v0 v1 v7 v8 H _)).trans (by kernel_rfl)
theorem d_slices_IndexFunc_Pair (a0 : Value) (a1 : Value) (H : AHeap) {r : Value × AHeap} (h : s_slices_IndexFunc_Pair guardK condL shareL Try.prog CC l_slices_IndexFunc_Pair_0 a0 a1 H (endK Try.prog [.tmp 4]) = some r) : CC F.slices_IndexFunc_Pair [a0, a1] H = some (tidy H r) := D_body (by kernel_rfl) ((s_slices_IndexFunc_Pair_eq stdL CC limLP a0 a1 H).trans (Eq.trans (show s_slices_IndexFunc_Pair stdL.b.g stdL.c stdL.s Try.prog CC (fun v0 v1 v7 v8 H k => loopL stdL Try.prog hints CC limLP F.slices_IndexFunc_Pair 0 [(0, v0), (1, v1), (7, v7), (8, v8)] H k) a0 a1 H (endK Try.prog [.tmp 4]) = s_slices_IndexFunc_Pair guardK condL shareL Try.prog CC l_slices_IndexFunc_Pair_0 a0 a1 H (endK Try.prog [.tmp 4]) by kernel_rfl) h))

theorem d_slices_Clone_Pair (a0 : Value) (H : AHeap) {r : Value × AHeap} (h : s_slices_Clone_Pair guardK condL shareL Try.prog CC a0 H (endK Try.prog [.tmp 2]) = some r) : CC F.slices_Clone_Pair [a0] H = some (tidy H r) := D_body (by kernel_rfl) ((s_slices_Clone_Pair_eq stdL CC limLP a0 H).trans (Eq.trans (show s_slices_Clone_Pair stdL.b.g stdL.c stdL.s Try.prog CC a0 H (endK Try.prog [.tmp 2]) = s_slices_Clone_Pair guardK condL shareL Try.prog CC a0 H (endK Try.prog [.tmp 2]) by kernel_rfl) h))

theorem d_model_check (a0 : Value) (a1 : Value) (H : AHeap) {r : Value × AHeap} (h : s_model_check guardK condL shareL Try.prog CC a0 a1 H (endK Try.prog [.tmp 4]) = some r) : CC F.model_check [a0, a1] H = some (tidy H r) := D_body (by kernel_rfl) ((s_model_check_eq stdL CC limLP a0 a1 H).trans (Eq.trans (show s_model_check stdL.b.g stdL.c stdL.s Try.prog CC a0 a1 H (endK Try.prog [.tmp 4]) = s_model_check guardK condL shareL Try.prog CC a0 a1 H (endK Try.prog [.tmp 4]) by kernel_rfl) h))

noncomputable def l_slices_BinarySearchFunc_string_0 (v0 : Value) (v1 : Value) (v2 : Value) (v8 : Value) (v9 : Value) (v10 : Value) (H : AHeap) (k : K) : Res := loopL stdL Try.prog hints CC limLP F.slices_BinarySearchFunc_string 0 [(0, v0), (1, v1), (2, v2), (8, v8), (9, v9), (10, v10)] H k
theorem r_slices_BinarySearchFunc_string_0 (v0 : Value) (v1 : Value) (v2 : Value) (v8 : Value) (v9 : Value) (v10 : Value) (H : AHeap) (k : K) : l_slices_BinarySearchFunc_string_0 v0 v1 v2 v8 v9 v10 H k = s_slices_BinarySearchFunc_string_b0 guardK condL shareL Try.prog CC l_slices_BinarySearchFunc_string_0 v0 v1 v2 v8 v9 v10 H (seqK (fun T H => l_slices_BinarySearchFunc_string_0 (get T 0) (get T 1) (get T 2) (get T 8) (get T 9) (get T 10) H k) k) := ((loopL_next (by kernel_rfl) rfl H k).trans (s_slices_BinarySearchFunc_string_b0_eq stdL CC limLP v0 v1 v2 v8 v9 v10 H _)).trans (by kernel_rfl)
theorem d_slices_BinarySearchFunc_string (a0 : Value) (a1 : Value) (a2 : Value) (H : AHeap) {r : Value × AHeap} (h : s_slices_BinarySearchFunc_string guardK condL shareL Try.prog CC l_slices_BinarySearchFunc_string_0 a0 a1 a2 H (endK Try.prog [.tmp 6, .tmp 7]) = some r) : CC F.slices_BinarySearchFunc_string [a0, a1, a2] H = some (tidy H r) := D_body (by kernel_rfl) ((s_slices_BinarySearchFunc_string_eq stdL CC limLP a0 a1 a2 H).trans (Eq.trans (show s_slices_BinarySearchFunc_string stdL.b.g stdL.c stdL.s Try.prog CC (fun v0 v1 v2 v8 v9 v10 H k => loopL stdL Try.prog hints CC limLP F.slices_BinarySearchFunc_string 0 [(0, v0), (1, v1), (2, v2), (8, v8), (9, v9), (10, v10)] H k) a0 a1 a2 H (endK Try.prog [.tmp 6, .tmp 7]) = s_slices_BinarySearchFunc_string guardK condL shareL Try.prog CC l_slices_BinarySearchFunc_string_0 a0 a1 a2 H (endK Try.prog [.tmp 6, .tmp 7]) by kernel_rfl) h))

theorem d_model_Model_place_1 (a0 : Value) (a1 : Value) (H : AHeap) {r : Value × AHeap} (h : s_model_Model_place_1 guardK condL shareL Try.prog CC a0 a1 H (endK Try.prog [.tmp 4]) = some r) : CC F.model_Model_place_1 [a0, a1] H = some (tidy H r) := D_body (by kernel_rfl) ((s_model_Model_place_1_eq stdL CC limLP a0 a1 H).trans (Eq.trans (show s_model_Model_place_1 stdL.b.g stdL.c stdL.s Try.prog CC a0 a1 H (endK Try.prog [.tmp 4]) = s_model_Model_place_1 guardK condL shareL Try.prog CC a0 a1 H (endK Try.prog [.tmp 4]) by kernel_rfl) h))

theorem d_keys_Compare (a0 : Value) (a1 : Value) (H : AHeap) {r : Value × AHeap} (h : s_keys_Compare guardK condL shareL Try.prog CC a0 a1 H (endK Try.prog [.tmp 4]) = some r) : CC F.keys_Compare [a0, a1] H = some (tidy H r) := D_body (by kernel_rfl) ((s_keys_Compare_eq stdL CC limLP a0 a1 H).trans (Eq.trans (show s_keys_Compare stdL.b.g stdL.c stdL.s Try.prog CC a0 a1 H (endK Try.prog [.tmp 4]) = s_keys_Compare guardK condL shareL Try.prog CC a0 a1 H (endK Try.prog [.tmp 4]) by kernel_rfl) h))

theorem d_slices_ContainsFunc_string (a0 : Value) (a1 : Value) (H : AHeap) {r : Value × AHeap} (h : s_slices_ContainsFunc_string guardK condL shareL Try.prog CC a0 a1 H (endK Try.prog [.tmp 4]) = some r) : CC F.slices_ContainsFunc_string [a0, a1] H = some (tidy H r) := D_body (by kernel_rfl) ((s_slices_ContainsFunc_string_eq stdL CC limLP a0 a1 H).trans (Eq.trans (show s_slices_ContainsFunc_string stdL.b.g stdL.c stdL.s Try.prog CC a0 a1 H (endK Try.prog [.tmp 4]) = s_slices_ContainsFunc_string guardK condL shareL Try.prog CC a0 a1 H (endK Try.prog [.tmp 4]) by kernel_rfl) h))

theorem d_model_check_1 (a0 : Value) (H : AHeap) {r : Value × AHeap} (h : s_model_check_1 guardK condL shareL Try.prog CC a0 H (endK Try.prog [.tmp 2]) = some r) : CC F.model_check_1 [a0] H = some (tidy H r) := D_body (by kernel_rfl) ((s_model_check_1_eq stdL CC limLP a0 H).trans (Eq.trans (show s_model_check_1 stdL.b.g stdL.c stdL.s Try.prog CC a0 H (endK Try.prog [.tmp 2]) = s_model_check_1 guardK condL shareL Try.prog CC a0 H (endK Try.prog [.tmp 2]) by kernel_rfl) h))

theorem d_strings_Compare (a0 : Value) (a1 : Value) (H : AHeap) {r : Value × AHeap} (h : s_strings_Compare guardK condL shareL Try.prog CC a0 a1 H (endK Try.prog [.tmp 4]) = some r) : CC F.strings_Compare [a0, a1] H = some (tidy H r) := D_body (by kernel_rfl) ((s_strings_Compare_eq stdL CC limLP a0 a1 H).trans (Eq.trans (show s_strings_Compare stdL.b.g stdL.c stdL.s Try.prog CC a0 a1 H (endK Try.prog [.tmp 4]) = s_strings_Compare guardK condL shareL Try.prog CC a0 a1 H (endK Try.prog [.tmp 4]) by kernel_rfl) h))

noncomputable def l_slices_IndexFunc_string_0 (v0 : Value) (v1 : Value) (v7 : Value) (v8 : Value) (H : AHeap) (k : K) : Res := loopL stdL Try.prog hints CC limLP F.slices_IndexFunc_string 0 [(0, v0), (1, v1), (7, v7), (8, v8)] H k
theorem r_slices_IndexFunc_string_0 (v0 : Value) (v1 : Value) (v7 : Value) (v8 : Value) (H : AHeap) (k : K) : l_slices_IndexFunc_string_0 v0 v1 v7 v8 H k = s_slices_IndexFunc_string_b0 guardK condL shareL Try.prog CC l_slices_IndexFunc_string_0 v0 v1 v7 v8 H (seqK (fun T H => l_slices_IndexFunc_string_0 (get T 0) (get T 1) (get T 7) (get T 8) H k) k) := ((loopL_next (by kernel_rfl) rfl H k).trans (s_slices_IndexFunc_string_b0_eq stdL CC limLP v0 v1 v7 v8 H _)).trans (by kernel_rfl)
theorem d_slices_IndexFunc_string (a0 : Value) (a1 : Value) (H : AHeap) {r : Value × AHeap} (h : s_slices_IndexFunc_string guardK condL shareL Try.prog CC l_slices_IndexFunc_string_0 a0 a1 H (endK Try.prog [.tmp 4]) = some r) : CC F.slices_IndexFunc_string [a0, a1] H = some (tidy H r) := D_body (by kernel_rfl) ((s_slices_IndexFunc_string_eq stdL CC limLP a0 a1 H).trans (Eq.trans (show s_slices_IndexFunc_string stdL.b.g stdL.c stdL.s Try.prog CC (fun v0 v1 v7 v8 H k => loopL stdL Try.prog hints CC limLP F.slices_IndexFunc_string 0 [(0, v0), (1, v1), (7, v7), (8, v8)] H k) a0 a1 H (endK Try.prog [.tmp 4]) = s_slices_IndexFunc_string guardK condL shareL Try.prog CC l_slices_IndexFunc_string_0 a0 a1 H (endK Try.prog [.tmp 4]) by kernel_rfl) h))

theorem d_internal_bytealg_CompareString (a0 : Value) (a1 : Value) (H : AHeap) {r : Value × AHeap} (h : s_internal_bytealg_CompareString guardK condL shareL Try.prog CC a0 a1 H (endK Try.prog [.tmp 4]) = some r) : CC F.internal_bytealg_CompareString [a0, a1] H = some (tidy H r) := D_body (by kernel_rfl) ((s_internal_bytealg_CompareString_eq stdL CC limLP a0 a1 H).trans (Eq.trans (show s_internal_bytealg_CompareString stdL.b.g stdL.c stdL.s Try.prog CC a0 a1 H (endK Try.prog [.tmp 4]) = s_internal_bytealg_CompareString guardK condL shareL Try.prog CC a0 a1 H (endK Try.prog [.tmp 4]) by kernel_rfl) h))

end Go.Proofs.Ythjjkinpbpealaa
