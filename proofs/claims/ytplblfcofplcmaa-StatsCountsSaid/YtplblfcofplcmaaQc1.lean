/-
  7 texts in one (merge.py): Eng29 Eng34 Cl Pn Hints Known Names.
  Conditions: none. By an AI agent.
-/
import Derived.Test.YtplblfcofplcmaaQb1
import Derived.Test.YtplblfcofplcmaaQa3
import Derived.Shelf.Strings.Replace
import Derived.Shelf.SlMaps.Clone
import Derived.Test.YtplblfcofplcmaaChecked
import Derived.KernelRfl

/-
  The engine, part 29: strings.Index and strings.ReplaceAll taken as a whole, by the kit's contracts (a library variable, internal/bytealg.MaxLen, is asked for; 'globs').
  Conditions: none. By an AI agent.
-/
namespace Go.Proofs.Ytplblfcofplcmaa.Eng
open Go

def indexP : List Value → AHeap → Res := fun xs H => match xs with
  | [.string s, .string t] => if s.size < 4294967281 then some (.int .i64 (Lib.index s.data.toList t.data.toList), H) else none
  | _ => none

def replP : List Value → AHeap → Res := fun xs H => match xs with
  | [.string s, .string o, .string t] => if s.size < 4294967281 ∧ 1 ≤ o.size ∧ t.size ≤ 100 then some (.string ⟨(Lib.replaceAll s.data.toList o.data.toList t.data.toList).toArray⟩, H) else none
  | _ => none

theorem rvs_str {ι : Emb} {s : ByteArray} {xs : List Value} {args' : List Value} (h : RVs ι (.string s :: xs) args') : ∃ r, args' = .string s :: r ∧ RVs ι xs r := by
  cases h with
  | cons a b => cases a; exact ⟨_, rfl, b⟩

theorem rvs_nil {ι : Emb} {args' : List Value} (h : RVs ι [] args') : args' = [] := by cases h; rfl

theorem index_prim {P : Program} {f : FuncId} (g : Nat) (hgl : g ∈ globs)
    (hc : ∀ (s sub : ByteArray) (m : Int) (w : World), s.size < 4294967281 → w.cell? ⟨g, 0, none⟩ = some (.int .i64 m) →
      Calls P f #[.string s, .string sub] w fun e w' => e = .returned (.int .i64 (Lib.index s.data.toList sub.data.toList)) ∧ w' = w) :
    (CallAd fun _ args H => indexP args H) ∧ CallOK P fun h args H => if h = f then indexP args H else none := by
  constructor
  · intro _ args H v H' h hl _
    replace h : indexP args H = some (v, H') := h
    unfold indexP at h
    split at h
    · split at h
      · cases h; exact OkV.still hl (.int _ _)
      · cases h
    · cases h
  · intro k args H v H' h2 hl had B ι w args' r ha
    by_cases hg : k = f
    · subst hg
      simp only [if_true] at h2
      unfold indexP at h2
      split at h2
      · split at h2
        · rename_i s t hs
          cases h2
          obtain ⟨a', ea, hA⟩ := rvs_str ha; subst ea
          obtain ⟨a2, ea, hb⟩ := rvs_str hA; subst ea
          cases rvs_nil hb
          obtain ⟨_, m, hm⟩ := r.glob g hgl
          refine Calls.mono (hc s t m w hs hm) ?_
          rintro e w' ⟨rfl, rfl⟩
          exact ⟨_, ι, rfl, .int _ _, r, Stp.refl _ _ _ r.dom⟩
        · cases h2
      · cases h2
    · simp [hg] at h2

theorem repl_prim {P : Program} {f : FuncId} (g : Nat) (hgl : g ∈ globs)
    (hc : ∀ (s old new : ByteArray) (m : Int) (w : World), s.size < 4294967281 → w.cell? ⟨g, 0, none⟩ = some (.int .i64 m) → 1 ≤ old.size → s.size + Lib.countB s old * new.size ≤ 140737488355328 →
      Calls P f #[.string s, .string old, .string new] w fun e w' => e = .returned (.string ⟨(Lib.replaceAll s.data.toList old.data.toList new.data.toList).toArray⟩) ∧ RowKit.Below w.heap.size w w') :
    (CallAd fun _ args H => replP args H) ∧ CallOK P fun h args H => if h = f then replP args H else none := by
  constructor
  · intro _ args H v H' h hl _
    replace h : replP args H = some (v, H') := h
    unfold replP at h
    split at h
    · split at h
      · cases h; exact OkV.still hl (.str _)
      · cases h
    · cases h
  · intro k args H v H' h2 hl had B ι w args' r ha
    by_cases hg : k = f
    · subst hg
      simp only [if_true] at h2
      unfold replP at h2
      split at h2
      · split at h2
        · rename_i s o t hs
          cases h2
          obtain ⟨a', ea, hA⟩ := rvs_str ha; subst ea
          obtain ⟨a2, ea, hb⟩ := rvs_str hA; subst ea
          obtain ⟨a3, ea, hc3⟩ := rvs_str hb; subst ea
          cases rvs_nil hc3
          obtain ⟨_, m, hm⟩ := r.glob g hgl
          have hcnt : s.size + Lib.countB s o * t.size ≤ 140737488355328 := by
            have h1 : Lib.countB s o ≤ s.size + 1 := by
              have := Lib.count_le s.data.toList o.data.toList
              simpa [Lib.countB] using this
            have h2 : Lib.countB s o * t.size ≤ (s.size + 1) * 100 := Nat.mul_le_mul h1 hs.2.2
            omega
          refine Calls.mono (hc s o t m w hs.1 hm hs.2.1 hcnt) ?_
          rintro e w' ⟨rfl, hb⟩
          obtain ⟨h3, h4⟩ := below_rel r hb
          exact ⟨_, ι, rfl, .str _, h3, h4⟩
        · cases h2
      · cases h2
    · simp [hg] at h2

end Go.Proofs.Ytplblfcofplcmaa.Eng

/-
  The engine, part 34: maps.Clone taken as a whole, by the kit's contract.
  Conditions: none. By an AI agent.
-/
namespace Go.Proofs.Ytplblfcofplcmaa.Eng
open Go

def cloneP : List Value → AHeap → Res := fun xs H => match xs with
  | [.map none] => some (.map none, H)
  | [.map (some b)] => (match H.f b with
    | .map es => some (.map (some H.n), H.push (.map es))
    | _ => none)
  | _ => none

theorem clone_prim {P : Program} {f : FuncId}
    (hc0 : ∀ w : World, Calls P f #[.map none] w fun e w' => e = .returned (.map none) ∧ w' = w)
    (hc : ∀ (b : Nat) (es : Array MapEntry) (clock : Nat) (w : World), w.heap[b]? = some (.map es clock) → Calls P f #[.map (some b)] w fun e w' => e = .returned (.map (some w.heap.size)) ∧ w' = w.alloc (.map es clock)) :
    (CallAd fun _ args H => cloneP args H) ∧ CallOK P fun h args H => if h = f then cloneP args H else none := by
  constructor
  · intro _ args H v H' h hl _
    replace h : cloneP args H = some (v, H') := h
    unfold cloneP at h
    split at h
    · cases h; exact OkV.still hl .nilm
    · rename_i b
      split at h
      · rename_i es hf
        cases h
        exact ⟨hl.push (fun _ _ _ hk => by cases hk) (fun es' hk p hp => by cases hk; exact (hl.maps _ es hf p hp).mono (Nat.le_succ _)), .map (by simp), VO.push _ _⟩
      · cases h
    · cases h
  · intro k args H v H' h2 hl had B ι w args' r ha
    by_cases hg : k = f
    · subst hg
      simp only [if_true] at h2
      unfold cloneP at h2
      split at h2
      · cases h2
        cases ha with
        | cons a b =>
          cases a
          cases rvs_nil b
          refine Calls.mono (hc0 w) ?_
          rintro e w' ⟨rfl, rfl⟩
          exact ⟨_, ι, rfl, .nilm, r, Stp.refl _ _ _ r.dom⟩
      · rename_i b0
        split at h2
        · rename_i es hf
          cases h2
          cases ha with
          | cons a b =>
            cases rvs_nil b
            cases a with
            | map hL =>
              rename_i L
              have hb := r.blk _ _ hL
              rw [hf] at hb
              obtain ⟨hB, ents, clock, hw, hm⟩ := hb
              refine Calls.mono (hc L.cb ents clock w hw) ?_
              rintro e w' ⟨rfl, rfl⟩
              have hk : RB P B ι (w.alloc (.map ents clock)) ⟨w.heap.size, 0, 0, 0⟩ (.map es) := ⟨r.base, ents, clock, push_heap _ _, hm⟩
              obtain ⟨r', s'⟩ := r.push (.map ents clock) (.map es) ⟨w.heap.size, 0, 0, 0⟩ rfl hk
              exact ⟨_, _, rfl, .map (b := H.n) (L := ⟨w.heap.size, 0, 0, 0⟩) (by simp [up]), r', s'⟩
        · cases h2
      · cases h2
    · simp [hg] at h2

end Go.Proofs.Ytplblfcofplcmaa.Eng

/-
  Chapter 26: maps.Clone and the names of a counter as prims.
  Conditions: none. By an AI agent.
-/
namespace Go.Proofs.Ytplblfcofplcmaa
open Go Eng Go.Shelf

def cloneRen : Go.Shelf.Ren := ⟨fun | 5 => 44 | 7 => 57 | n => n, fun | 23 => 32 | 25 => 9 | n => n, fun | n => n⟩
theorem cloneLays : Go.Proofs.SlLaysW.n5 Try.prog cloneRen := {
  mixed := by kernel_rfl
  f5 := ⟨"maps.Clone[map[string]int,string,int]", by kernel_rfl, Try.func44.trans (congrArg some (by kernel_rfl))⟩
  f7 := Try.func57.trans (congrArg some (by kernel_rfl))
  t4 := Try.underlying4
  a4 := Try.isAgg4
  z4 := Try.sizeOf4
  v4 := Try.zeroValue4
  t20 := Try.underlying20
  a20 := Try.isAgg20
  z20 := Try.sizeOf20
  v20 := Try.zeroValue20
  t23 := Try.underlying32
  a23 := Try.isAgg32
  z23 := Try.sizeOf32
  v23 := Try.zeroValue32 }

theorem clonePrim : (CallAd fun _ args H => cloneP args H) ∧ CallOK Try.prog fun h args H => if h = 44 then cloneP args H else none :=
  clone_prim (fun w => AnyW.maps_Clone_nil cloneLays w) fun b es clock w h => AnyW.maps_Clone cloneLays b es clock w h

/-! ### IndexByte -/
def ibP : List Value → AHeap → Res := fun xs H => match xs with
  | [.string s, .int .u8 c] => some (.int .i64 (Lib.indexByte s.data.toList c.toNat.toUInt8), H)
  | _ => none
theorem ib_prim : (CallAd fun _ args H => ibP args H) ∧ CallOK Try.prog fun h args H => if h = 82 then ibP args H else none := by
  constructor
  · intro _ args H v H' h hl _
    replace h : ibP args H = some (v, H') := h
    unfold ibP at h
    split at h
    · cases h; exact OkV.still hl (.int _ _)
    · cases h
  · intro k args H v H' h2 hl had B ι w args' r ha
    by_cases hg : k = 82
    · subst hg
      simp only [if_true] at h2
      unfold ibP at h2
      split at h2
      · rename_i s c
        cases h2
        cases ha with
        | cons a b =>
          cases a
          cases b with
          | cons a2 b2 =>
            cases a2
            cases b2
            refine Calls.mono (Try.stringslite_IndexByte s c w) ?_
            rintro e w' ⟨rfl, rfl⟩
            exact ⟨_, ι, rfl, .int _ _, r, Stp.refl _ _ _ r.dom⟩
      · cases h2
    · simp [hg] at h2

/-! ### names -/
def keyStr : Value → Option (List UInt8)
  | .string s => if s.size ≤ 1000 then some s.data.toList else none
  | _ => none
def insS (x : List UInt8) : List (List UInt8) → List (List UInt8)
  | [] => [x]
  | y :: l => if Op.bytesLess y x then y :: insS x l else x :: y :: l
def sortS : List (List UInt8) → List (List UInt8)
  | [] => []
  | x :: l => insS x (sortS l)
def strs : List (Value × Value) → Option (List (List UInt8))
  | [] => some []
  | p :: l => (keyStr p.1).bind fun s => (strs l).map (s :: ·)
def namesP : List Value → AHeap → Res := fun args H => match args with
  | [.pointer none] => some (.slice none 0 0, H)
  | [.pointer (some ⟨b, o, none⟩)] => (match H.f b with
    | .cells xs _ _ => (match xs[o]? with
      | some (.map none) => some (.slice none 0 0, H)
      | some (.map (some mb)) => (match H.f mb with
        | .map es => (match strs es with
          | some ks => if es.length ≤ 1000000 then (if ks.isEmpty then some (.slice none 0 0, H) else some (.slice (some ⟨H.n, 0, none⟩) ks.length (2 * ks.length + 1), H.push (.cells ((sortS ks).map fun s => .string ⟨s.toArray⟩) 9 true))) else none
          | none => none)
        | _ => none)
      | _ => none)
    | _ => none)
  | _ => none

theorem less_lt : ∀ a b : List UInt8, Op.bytesLess a b = decide (a < b)
  | [], [] => by simp [Op.bytesLess]
  | _ :: _, [] => by simp [Op.bytesLess]
  | [], _ :: _ => by simp [Op.bytesLess]
  | a :: x, b :: y => by
    show (decide (a < b) || (a == b && Op.bytesLess x y)) = _
    rw [less_lt x y]
    apply Bool.eq_iff_iff.2
    simp [List.cons_lt_cons_iff]
theorem insS_perm (x : List UInt8) : ∀ l, (insS x l).Perm (x :: l)
  | [] => .refl _
  | y :: l => by
    unfold insS
    split
    · exact ((insS_perm x l).cons y).trans (.swap x y l)
    · exact .refl _
theorem sortS_perm : ∀ l, (sortS l).Perm l
  | [] => .refl _
  | x :: l => (insS_perm x _).trans ((sortS_perm l).cons x)
theorem insS_sorted (x : List UInt8) : ∀ l, l.Pairwise (fun a b => Go.leB a b = true) → (insS x l).Pairwise (fun a b => Go.leB a b = true)
  | [], _ => by simp [insS]
  | y :: l, h => by
    have hy := List.pairwise_cons.1 h
    unfold insS
    rw [less_lt]
    split
    · rename_i hlt
      have hlt : y < x := by simpa using hlt
      refine List.pairwise_cons.2 ⟨fun z hz => ?_, insS_sorted x l hy.2⟩
      rcases List.mem_cons.1 ((insS_perm x l).mem_iff.1 hz) with rfl | hz
      · simpa using List.le_of_lt hlt
      · exact hy.1 z hz
    · rename_i hlt
      have hlt : ¬ y < x := by simpa using hlt
      have hxy : x ≤ y := List.not_lt.1 hlt
      refine List.pairwise_cons.2 ⟨fun z hz => ?_, h⟩
      rcases List.mem_cons.1 hz with rfl | hz
      · simpa using hxy
      · have := hy.1 z hz
        simp only [decide_eq_true_eq] at this ⊢
        exact List.le_trans hxy this
theorem sortS_sorted : ∀ l, (sortS l).Pairwise (fun a b => Go.leB a b = true)
  | [] => .nil
  | x :: l => insS_sorted x _ (sortS_sorted l)
theorem sortS_merge {ss ks : List (List UInt8)} (h : ss.Perm ks) : ss.mergeSort Go.leB = sortS ks := by
  rw [Go.mergeSort_of_perm (h.trans (sortS_perm ks).symm)]
  exact List.mergeSort_of_pairwise (sortS_sorted ks)

theorem strs_some : ∀ {es : List (Value × Value)} {ks : List (List UInt8)}, strs es = some ks → es.map (·.1) = ks.map (fun s => Value.string ⟨s.toArray⟩) ∧ ∀ s ∈ ks, s.length ≤ 1000
  | [], ks, h => by cases h; exact ⟨rfl, by simp⟩
  | p :: l, ks, h => by
    unfold strs at h
    obtain ⟨s, h1, h2⟩ := Option.bind_eq_some_iff.1 h
    obtain ⟨m, h3, rfl⟩ := Option.map_eq_some_iff.1 h2
    obtain ⟨a1, a2⟩ := strs_some h3
    obtain ⟨pk, pv⟩ := p
    unfold keyStr at h1
    cases pk with
    | string b =>
      simp only at h1
      split at h1
      · rename_i hb
        cases h1
        refine ⟨by rw [List.map_cons, List.map_cons, a1], fun z hz => ?_⟩
        rcases List.mem_cons.1 hz with rfl | hz
        · simpa using hb
        · exact a2 z hz
      · cases h1
    | _ => cases h1

theorem nm_ok {H : AHeap} (hl : Eng.Cl H) {n c : Nat} {ks : List (List UInt8)} : OkV H (H.push (.cells (ks.map fun s => .string ⟨s.toArray⟩) 9 true)) (.slice (some ⟨H.n, 0, none⟩) n c) := by
  refine ⟨hl.push (fun xs e rw hk v hv => ?_) (fun es hk => by cases hk), .sl (by simp), VO.push _ _⟩
  cases hk
  obtain ⟨s, _, rfl⟩ := List.mem_map.1 hv
  exact .str _

theorem Eng.Rel.pushB {P : Program} {B : Nat} {ι : Emb} {H : AHeap} {w w' : World} (r : Rel P B ι H w) (hbl : RowKit.Below w.heap.size w w') (k : Blk) (L : Loc) (h1 : w.heap.size ≤ L.cb) (h2 : L.cb < w'.heap.size) (hk : RB P B ι w' L k) :
    Rel P B (up ι H.n L) (H.push k) w' ∧ Stp ι H w (up ι H.n L) (H.push k) w' := by
  refine ⟨r.lay k L h2 hbl.size hk (fun b M h _ => by have := (r.lt b M h).2; omega) (by have := r.base; omega) (fun c hc _ => hbl.block c hc), ?_⟩
  constructor
  · intro b hb; simp [up, show b ≠ H.n by omega]
  · simp
  · exact hbl.size
  · exact hbl.os
  · exact hbl.tape
  · exact hbl.output
  · intro c hc _; exact hbl.block c hc
  · intro b M hb h
    by_cases hbn : b = H.n
    · simp [up, hbn] at h
      subst h
      exact .inl h1
    · simp [up, hbn] at h
      have := (r.lt b M h).1
      omega
  · intro b _ hb _ ho
    rwa [AHeap.push_old _ _ (by omega)] at ho
  · exact VO.push _ _

theorem names_prim : (CallAd fun _ args H => namesP args H) ∧ CallOK Try.prog fun h args H => if h = 17 then namesP args H else none := by
  constructor
  · intro _ args H v H' h hl _
    replace h : namesP args H = some (v, H') := h
    unfold namesP at h
    split at h
    · cases h; exact OkV.still hl .nils
    · split at h
      · split at h
        · cases h; exact OkV.still hl .nils
        · split at h
          · split at h
            · split at h
              · split at h
                · cases h; exact OkV.still hl .nils
                · cases h
                  exact nm_ok hl
              · cases h
            · cases h
          · cases h
        · cases h
      · cases h
    · cases h
  · intro k args H v H' h2 hl had B ι w args' r ha
    by_cases hg : k = 17
    · subst hg
      simp only [if_true] at h2
      unfold namesP at h2
      split at h2
      · cases h2
        cases ha with
        | cons a b =>
          cases a
          cases b
          refine Calls.mono (names_nilptr w) ?_
          rintro e w' ⟨rfl, rfl⟩
          exact ⟨_, ι, rfl, .nils, r, Stp.refl _ _ _ r.dom⟩
      · rename_i b0 o
        split at h2
        · rename_i xs e rw hf
          cases ha with
          | cons a b =>
            cases b
            cases a with
            | ptr hL =>
              rename_i L
              have hb := r.blk _ _ hL
              rw [hf] at hb
              obtain ⟨cs, e', fr, hw, hsz, hle, hcs, _⟩ := hb
              split at h2
              · rename_i hx
                cases h2
                obtain ⟨v', hv', hrv⟩ := hcs _ _ hx
                cases hrv
                have hcell : w.cell? ⟨L.cb, L.base + o, none⟩ = some (.map none) := by simp [World.cell?, hw, hv']
                refine Calls.mono (names_nilmap _ _ w hcell) ?_
                rintro e w' ⟨rfl, hbl⟩
                obtain ⟨r', s'⟩ := below_rel r hbl
                exact ⟨_, ι, rfl, .nils, r', s'⟩
              · rename_i mb hx
                obtain ⟨v', hv', hrv⟩ := hcs _ _ hx
                cases hrv with
                | map hM =>
                  rename_i M
                  have hcell : w.cell? ⟨L.cb, L.base + o, none⟩ = some (.map (some M.cb)) := by simp [World.cell?, hw, hv']
                  split at h2
                  · rename_i es hfm
                    have hm := r.blk _ _ hM
                    rw [hfm] at hm
                    obtain ⟨hB, ents, clock, hwm, hmr⟩ := hm
                    split at h2
                    · rename_i ks hks
                      split at h2
                      · rename_i hlen
                        obtain ⟨hk1, hk2⟩ := strs_some hks
                        -- the map as the kit reads it
                        have hkey : ∀ x ∈ ents.toList, ∃ s ∈ ks, x.key = .string ⟨s.toArray⟩ := fun x hx => by
                          obtain ⟨p, hp, he⟩ := hmr.bwd x hx
                          have : p.1 ∈ es.map (·.1) := List.mem_map_of_mem hp
                          rw [hk1] at this
                          obtain ⟨s, hs, e⟩ := List.mem_map.1 this
                          exact ⟨s, hs, by rw [← he, ← e]⟩
                        have hrd : ∀ x ∈ ents.toList, ∀ s, x.key = .string ⟨s.toArray⟩ → s.length ≤ 1000 → WideElems.rd Try.prog 9 RU x = some (.string s, .lit (.bool true)) := fun x hx s hs hl => by
                          have : keyOf Try.prog 9 x.key = some (.string s) := by
                            rw [hs]
                            have := Go.WideMaps.keyOf_string_mk (P := Try.prog) (k := 9) Try.underlying9 (s := ⟨s.toArray⟩) (by show s.length ≤ maxLen; unfold maxLen; omega)
                            simpa using this
                          simp [WideElems.rd, this, RU]
                        have hfit : WideElems.Fit Try.prog 9 RU ents clock := ⟨by have := hmr.len; unfold maxLen; omega, ⟨hmr.clk, hmr.born, hmr.ckeys⟩, fun x hx => by obtain ⟨s, hs, e⟩ := hkey x hx; exact ⟨_, hrd x hx s e (hk2 s hs)⟩⟩
                        obtain ⟨D0, hD0⟩ : ∃ D0 : DataW Unit, D0 = .map ((ents.toList.map (WideElems.rg Try.prog 9 RU)).foldr DataW.insert []) := ⟨_, rfl⟩
                        have hown : w.ownsMap Try.prog 9 RU M.cb ents.size D0 := ⟨ents, clock, hwm, hfit, Nat.le_refl _, hD0⟩
                        have hperm : (Go.strKeys D0).Perm ks := by
                          rw [hD0]
                          show ((((ents.toList.map (WideElems.rg Try.prog 9 RU)).foldr DataW.insert [])).map fun p => Go.strOf p.1).Perm ks
                          refine ((Go.WideShapes.sorted_perm _).map _).trans ?_
                          rw [List.map_map]
                          have hst : ∀ x ∈ ents.toList, ∀ s, x.key = .string ⟨s.toArray⟩ → s ∈ ks → ((fun p : Lit × DataW Unit => Go.strOf p.1) ∘ WideElems.rg Try.prog 9 RU) x = s := fun x hx s e hs => by
                            have := hrd x hx s e (hk2 s hs)
                            simp [WideElems.rg, this, Go.strOf]
                          have hinj : ∀ s s' : List UInt8, Value.string ⟨s.toArray⟩ = Value.string ⟨s'.toArray⟩ → s = s' := fun s s' e => by simpa using e
                          have nd1 : (ents.toList.map ((fun p : Lit × DataW Unit => Go.strOf p.1) ∘ WideElems.rg Try.prog 9 RU)).Nodup := by
                            rw [List.Nodup, List.pairwise_map]
                            have hck := hmr.ckeys
                            rw [List.Nodup, List.pairwise_map] at hck
                            refine hck.imp_of_mem fun {x y} hx hy hne => ?_
                            obtain ⟨s, hs, e⟩ := hkey x hx
                            obtain ⟨s', hs', e'⟩ := hkey y hy
                            rw [hst x hx s e hs, hst y hy s' e' hs']
                            intro he
                            rw [e, e', he] at hne
                            exact hne rfl
                          have nd2 : ks.Nodup := by
                            have := hmr.keys
                            rw [hk1, List.Nodup, List.pairwise_map] at this
                            exact this.imp fun h e => h (by rw [e])
                          refine (List.perm_ext_iff_of_nodup nd1 nd2).2 fun s => ?_
                          constructor
                          · intro h
                            obtain ⟨x, hx, rfl⟩ := List.mem_map.1 h
                            obtain ⟨s', hs', e⟩ := hkey x hx
                            rw [hst x hx s' e hs']
                            exact hs'
                          · intro hs
                            have : Value.string ⟨s.toArray⟩ ∈ es.map (·.1) := by rw [hk1]; exact List.mem_map_of_mem (f := fun s => Value.string ⟨s.toArray⟩) hs
                            obtain ⟨p, hp, e⟩ := List.mem_map.1 this
                            obtain ⟨x, hx, ex, _⟩ := hmr.fwd p hp
                            exact List.mem_map.2 ⟨x, hx, hst x hx s (by rw [ex, e]) hs⟩
                        have hsize : Go.Maps.size D0 ≤ 1000000 := by
                          rw [hD0]
                          show (((ents.toList.map (WideElems.rg Try.prog 9 RU)).foldr DataW.insert [])).length ≤ _
                          rw [(Go.WideShapes.sorted_perm _).length_eq]
                          have := hmr.len
                          simp; omega
                        refine Calls.mono (names_any _ _ M.cb ents.size D0 w hcell hown hsize) ?_
                        rintro e w' ⟨v2, ss, rfl, hp2, hrow, hnil, hbl⟩
                        have hp3 := hp2.trans hperm
                        have hms : ss.mergeSort (fun x y => decide (x ≤ y)) = sortS ks := sortS_merge hp3
                        rw [hms] at hrow
                        obtain ⟨r', s'⟩ := below_rel r hbl
                        split at h2
                        · rename_i hke
                          cases h2
                          have hk0 : ks = [] := by cases ks with | nil => rfl | cons a b => cases hke
                          have hs0 : ss = [] := by rw [hk0] at hp3; exact List.Perm.eq_nil hp3
                          have hv0 := hnil.2 hs0
                          subst hv0
                          exact ⟨_, ι, rfl, .nils, r', s'⟩
                        · rename_i hke
                          cases h2
                          have hs0 : ss ≠ [] := fun h => hke (by rw [h] at hp3; rw [List.Perm.eq_nil hp3.symm]; rfl)
                          rcases hrow.2 with ⟨hv0, _⟩ | ⟨g, cap, cur, rfl, hbase, hgb, h1, h2', h3, h4⟩
                          · exact absurd (hnil.1 hv0) hs0
                          have hlen2 : ss.length = ks.length := hp3.length_eq
                          have hsl : (sortS ks).length = ks.length := (sortS_perm ks).length_eq
                          have hcell9 : Try.prog.cellsOf 9 = 1 := by kernel_rfl
                          have hgl : g < w'.heap.size := (Array.getElem?_eq_some_iff.1 hgb).1
                          have hRB : RB Try.prog B ι w' ⟨g, 0, 1, cap⟩ (.cells ((sortS ks).map fun s => .string ⟨s.toArray⟩) 9 true) := by
                            refine ⟨cur, 9, (0, 0), hgb, by show cur.size = cap; omega, by show 0 + _ ≤ _; simp; omega, fun i v hv => ?_, fun _ => ⟨Nat.le_trans r.base hbase, rfl, hcell9.symm, fun j _ => by simp⟩⟩
                            have hi : i < (sortS ks).length := by have := (List.getElem?_eq_some_iff.1 hv).1; simpa using this
                            have h4' := congrArg (fun l => l[i]?) h4
                            simp only [List.getElem?_take_of_lt (show i < ss.length * 1 by omega)] at h4'
                            have e1 : (Go.Proofs.encStr (sortS ks)[i]) = v := by
                              rw [List.getElem?_map, List.getElem?_eq_getElem hi] at hv
                              exact Option.some.inj hv
                            refine ⟨v, ?_, ?_⟩
                            · show cur[0 + i]? = some v
                              rw [Nat.zero_add, ← Array.getElem?_toList, h4', List.getElem?_map, List.getElem?_eq_getElem hi]
                              exact congrArg some e1
                            · rw [← e1]; exact .str _
                          obtain ⟨r2, s2⟩ := r.pushB hbl (.cells ((sortS ks).map fun s => .string ⟨s.toArray⟩) 9 true) ⟨g, 0, 1, cap⟩ hbase hgl hRB
                          refine ⟨_, _, rfl, ?_, r2, s2⟩
                          rw [hlen2]
                          exact .sli (L := ⟨g, 0, 1, cap⟩) (by simp [up]) (by omega) (by omega) (by simp)
                      · cases h2
                    · cases h2
                  · cases h2
              · cases h2
        · cases h2
      · cases h2
    · simp [hg] at h2

end Go.Proofs.Ytplblfcofplcmaa

/-
  Chapter 26: named as a prim.
  Conditions: none. By an AI agent.
-/
namespace Go.Proofs.Ytplblfcofplcmaa
open Go Eng

def namedP : List Value → AHeap → Res := fun xs H => match xs with
  | [.string s] => some (.bool (namedA s), H)
  | _ => none
theorem named_prim : (CallAd fun _ args H => namedP args H) ∧ CallOK Try.prog fun h args H => if h = 40 then namedP args H else none := by
  constructor
  · intro _ args H v H' h hl _
    replace h : namedP args H = some (v, H') := h
    unfold namedP at h
    split at h
    · cases h; exact OkV.still hl (.bool _)
    · cases h
  · intro k args H v H' h2 hl had B ι w args' r ha
    by_cases hg : k = 40
    · subst hg
      simp only [if_true] at h2
      unfold namedP at h2
      split at h2
      · rename_i s
        cases h2
        cases ha with
        | cons a b =>
          cases a
          cases b
          refine Calls.mono (named_any s w) ?_
          rintro e w' ⟨rfl, hbl⟩
          obtain ⟨r', s'⟩ := below_rel r hbl
          exact ⟨_, ι, rfl, .bool _, r', s'⟩
      · cases h2
    · simp [hg] at h2

end Go.Proofs.Ytplblfcofplcmaa

/-
  The hints: which temporaries are asked for behind each if, block, loop head, return of each function (a program of ours printed it).
  Conditions: none. By an AI agent.
-/
namespace Go.Proofs.Ytplblfcofplcmaa
open Go Eng

def hintList : List (List (List Nat)) := [
  [],
  [],
  [],
  [[1],[1],[4],[1],[4],[1],[4],[4]],
  [[0,1],[4],[0,1,5],[0,1,5,6],[0,1,5,6],[0,1,5,6],[0,1,5,6,7],[0,1,5,6],[4],[1,5],[4],[4]],
  [[0,1,2,3],[8],[9,10,11,12],[0,1,2,3,9,10,11,12,13],[0,1,2,3,9,10,11,12,13],[0,1,2,3,9,10,11,12,13],[0,1,2,3,9,10,11,12,13,14,15],[8],[0,1,2,3,9,10,11,12,13,14,15],[0,1,2,3,9,10,11,12,13,14,15,16,17],[0,1,2,3,9,10,11,12,13,14,15,16,17],[0,1,2,3,9,10,11,12,13,14,15,16,17],[0,1,2,3,9,10,11,12,13,14,15,16,17],[8],[0,1,2,3,9,10,11,12,13,14,15,18],[0,1,2,3,9,10,11,12,13],[8],[9],[8],[9,19],[9,19,128,129],[9,19,128,129],[9,19,128,129],[9,19],[8],[9],[8],[9,24],[8],[24,28],[9,24,28,29],[9,24,28,29],[9,24,28,29],[9,24,29,30],[8],[8]],
  [[0],[2],[],[0,3,4,5],[0,3,4,5],[0,3,4,5],[0,3,4,5],[2],[0,3,4,5,6],[2],[0,3,4,5,6,7],[2],[0,3,4,5,6],[0,3,4,5,6,7,8],[0,3,4,5,6,7,8],[0,3,4,5,6,7,8],[0,3,4,5,6,7,8],[2],[0,3,4,5],[2],[2]],
  [[0],[2],[],[0,3,4,5,6,7],[0,3,4,5,6,7],[0,3,4,5,6,7],[0,3,4,5,6,7],[2],[0,3,4,5,6,7],[0,3,4,5,6,7],[0,3,4,5,6,7],[2],[0,3,4,5,6,7],[0,3,4,5,6,7],[2],[0,3,4,5,6,7],[2],[0,3,4,5,6,7],[0,3,4,5,6,7],[2],[0,3,4,5,6,7],[2],[0,3,4,5,6,7],[0,3,4,5,6,7],[2],[2]],
  [[0,1,2],[6],[0,2,8],[6],[6]],
  [[6]],
  [[],[0,3],[0,3],[0,3],[0,3],[2],[2]],
  [[8]],
  [[],[0],[1],[0],[],[0],[2],[0],[0]],
  [[0],[2,3],[4],[0,4,5],[0,4,5],[0,4,5],[2,3]],
  [[0,1,2],[6],[0,1,2],[0,1,2],[6],[0,1,2],[6],[0,1,2],[6],[0,1,2],[6]],
  [[2]],
  [[0],[2],[2]],
  [[0],[2],[3],[3,11],[3,11],[3,11],[2]],
  [[0,1],[4],[4]],
  [[0,1,2],[6],[0,1,2,7],[0,1,2,7],[6],[0,1,2,7],[6],[0,1,2,7],[6],[6]],
  [[0,1],[4],[4]],
  [[4]],
  [[0,2],[2],[2]],
  [[0],[2],[2]],
  [[10]],
  [[0],[2,3],[2,3]],
  [[0],[2,3],[2,3]],
  [[0],[2,3],[2,3]],
  [[0,1],[4,5],[0,1],[4,5],[0,1],[4,5],[0],[0,1,7,29,30],[0,1,7,29,30],[0,1,7,29,30],[0,1,7,29,30],[4,5],[4,5]],
  [[0],[2],[2]],
  [[0,1,2],[6],[0,1,2],[6],[0,1,2],[6],[0,1,2,7,8],[0,1,2,7,8],[0,1,2,7,8],[0,1,2,7,8],[0,1,2,7,8],[6],[0,1,2,7,8],[6],[6]],
  [[3],[0,3,4],[0,3,4],[0,3,4],[2]],
  [[0,1,2],[6],[0,1,2],[6],[0,1,2],[6],[6]],
  [[0,1],[4],[4]],
  [[0],[2],[2]],
  [[0,1],[4],[0,1],[4],[0,1],[4],[0],[0,1,63,64,65],[0,1,63,64,65],[0,1,63,64,65],[0,1,63,64,65],[4],[4]],
  [[0],[2],[2]],
  [[8]],
  [[0],[2,3],[2,3]],
  [[0],[0],[2,3,4],[0],[2,3,4],[2,3,4]],
  [[2]],
  [],
  [[0,3],[0,3],[4],[0,3],[4],[0,3],[],[0,77,78],[0,77,78],[0,77,78],[4]],
  [[],[],[2],[],[2],[2]],
  [[0],[2],[2]],
  [[0],[0,3],[0,3],[0,3],[0,3],[2],[2]],
  [[3],[0,3,4],[0,3,4],[0,3,4],[2]],
  [[3],[0,3,4],[0,3,4],[0,3,4],[2]],
  [[2,3],[0,2,3,4],[0,2,3,4],[0,2,3,4],[2]],
  [[4,5],[0,4,5,6],[0,4,5,6],[0,4,5,6],[2,3]],
  [[],[0,1,5,7,8,9],[0,1,5,7,8,9],[0,1,5,7,8,9],[0,1,5,7,8,9],[4],[4]],
  [[0],[2],[2]],
  [[2]],
  [[4]],
  [[4]],
  [[],[0,1,2,3,8,9],[0,1,2,3,8,9],[0,1,2,3,8,9,10],[],[0,1,2,3,8,9,10],[],[0,1,2,3,8,9,10],[0,1,2,3,8,9,10,11,12],[0,1,2,3,8,9,10,11],[0,1,2,3,8,9,10,11],[],[0,1,2,3,10,11],[0,1,2,3,8,9]],
  [[2]],
  [],
  [[0,2],[0,2],[2]],
  [[0,2],[0,2],[0,2],[2]],
  [[4],[4],[4],[4],[],[175],[175,176],[175],[175],[4],[4],[4],[4]],
  [[4]],
  [[],[0,1,2,6],[0,1,2,6],[0,1,2,6],[0,1,2,6],[0,1,2,6,7],[0,1,2,6,7],[0,1,2,6,7]],
  [[0,6,7,8],[0,6,7,8,9],[0,6,7,8,9],[0,6,7,8,9],[],[0,6,7,10],[0,6,7,10],[0,6,7,10]],
  [[],[],[0,1,6,7,8,9],[0,1,6,7,8,9],[0,1,6,7,8,9],[0,1,6,7,8,9,10]],
  [[9,11],[0,9,10,11,12],[6,7],[6,7],[6,7],[6,7],[6,7],[6,7]],
  [[],[0,6,7],[0,6,7],[0,6,7]],
  [[],[0,1,2,7,8],[0,1,2,7,8],[0,1,2,7,8],[0,1,2,7,8],[0,1,2,7,8],[0,1,2,7,8],[0,1,2,7,8],[0,1,2,7,8],[6],[0,1,2,7,8],[6],[0,1,2,7,8],[0,1,2,7,8],[0,1,2,7,8,9],[0,1,2,7,8,9],[0,1,2,7,8,9],[0,1,2,7,8,9],[0,1,2,7,8],[0,1,2,7,8],[0,1,2,7,8,10],[0,1,2,7,8,10],[0,1,2,7,8,10],[0,1,2,7,8,10],[6]],
  [[4]],
  [[9],[0,1,9,10],[0,1,9,10],[0,1,9,10],[0,1,9,10],[0,1,9,10],[0,1,9,10],[0,1,9,10],[0,1,9,10],[0,1,9,10],[0,1,9,10],[0,1,9,10],[8]],
  [[0,1,10,11],[0,1,10,11],[0,1,10,11],[0,1,10,11],[0,1,10,11],[0,1,10,11],[0,1,10,11],[0,1,10,11],[0,1,10,11],[8,9],[0,1,11],[0,1,10,11],[0,1,10,11],[0,1,10,11],[0,1,10,11],[0,1,10,11],[0,1,10,11],[0,1,10,11],[0,1,10,11],[0,1,10,11],[0,1,10,11],[0,1,10,11],[8,9]],
  [[4]],
  [[],[],[2],[],[2],[2]],
  [[2]],
  [],
  [[],[1,2,10],[1,2,10,11],[1,2,10],[1,2,10],[6],[6]],
  [[],[0,2,3,8],[0,2,3,8],[0,2,3,8,9],[0,2,3,8,9],[0,2,3,8,9],[]],
  [[2]],
  [[2]],
  [[6]],
  [[10]],
  [[2]],
  [[4]],
  [[1,2],[8,9],[8,9]],
  [],
  [],
  [],
  [],
  [],
  [],
  [],
  [],
  [],
  [],
  [],
  [],
  [],
  [],
  [],
  [],
  []
]

def hints : Hints := fun f => (hintList[f]?).getD []

end Go.Proofs.Ytplblfcofplcmaa

/-
  Chapter 26: slices.Insert as a Prim; known() returns true.
  Conditions: none. By an AI agent.
-/
namespace Go.Proofs.Ytplblfcofplcmaa
open Go Eng

theorem mixed : Try.prog.follows .mixedOrders = true := by kernel_rfl

def prims0 : Prims := fun f => if f = 40 then some namedP else if f = 82 then some ibP else if f = 17 then some namesP else if f = 44 then some cloneP else none

theorem prims0_ok : PrimsOK Try.prog prims0 := by
  intro f p h
  unfold prims0 at h
  split at h
  · rename_i hf
    have e := Option.some.inj h
    subst hf
    rw [← e]
    exact named_prim
  · skip
    split at h
    · rename_i hf
      have e := Option.some.inj h
      subst hf
      rw [← e]
      exact ib_prim
    · skip
      split at h
      · rename_i hf
        have e := Option.some.inj h
        subst hf
        rw [← e]
        exact names_prim
      · skip
        split at h
        · rename_i hf
          have e := Option.some.inj h
          subst hf
          rw [← e]
          exact clonePrim
        · skip
          cases h

theorem known_run : dCall Try.prog prims0 hints 60 12 [] H0 = some (.bool true, H0) := by kernel_rfl

noncomputable def prims1 : Prims := fun f => if f = 12 then some trueP else prims0 f

theorem prims1_ok : PrimsOK Try.prog prims1 := by
  intro f p h
  unfold prims1 at h
  split at h
  · rename_i hf
    have e := Option.some.inj h
    subst hf
    rw [← e]
    exact true_prim prims0_ok mixed ⟨60, _, known_run⟩
  · exact prims0_ok f p h

/-- What a call gives. -/
noncomputable def CC : CallF := D Try.prog prims1 hints

end Go.Proofs.Ytplblfcofplcmaa

/-
  Names of the seat's functions and types (a program of ours printed it).
  Conditions: none. By an AI agent.
-/
namespace Go.Proofs.Ytplblfcofplcmaa
open Go
def F.main_main : FuncId := 0
def F.gosem_cut : FuncId := 1
def F.gosem_cut_init : FuncId := 2
def F.law_StatsBuckets : FuncId := 3
def F.law_StatsFulls : FuncId := 4
def F.law_StatsHolds : FuncId := 5
def F.law_StatsCounts : FuncId := 6
def F.law_StatsPlays : FuncId := 7
def F.law_StatsNil : FuncId := 8
def F.law_bucket : FuncId := 9
def F.ref26_Bucket : FuncId := 10
def F.law_bounds : FuncId := 11
def F.law_known : FuncId := 12
def F.ref26_Bounds : FuncId := 13
def F.stats_Counter_Add : FuncId := 14
def F.law_label : FuncId := 15
def F.stats_Counter_Total : FuncId := 16
def F.stats_Counter_Names : FuncId := 17
def F.stats_Counter_Get : FuncId := 18
def F.stats_Histogram_Add : FuncId := 19
def F.stats_Histogram_Merge : FuncId := 20
def F.law_same : FuncId := 21
def F.stats_Histogram_Buckets : FuncId := 22
def F.stats_Histogram_Count : FuncId := 23
def F.law_ends : FuncId := 24
def F.stats_Histogram_Min : FuncId := 25
def F.stats_Histogram_Max : FuncId := 26
def F.stats_Histogram_Mean : FuncId := 27
def F.stats_Histogram_Quantile : FuncId := 28
def F.stats_Counter_Copy : FuncId := 29
def F.ref26_Counter_Add : FuncId := 30
def F.ref26_Counter_Total : FuncId := 31
def F.ref26_Histogram_Add : FuncId := 32
def F.ref26_Histogram_Merge : FuncId := 33
def F.stats_Histogram_Copy : FuncId := 34
def F.law_alike : FuncId := 35
def F.stats_Histogram_Sum : FuncId := 36
def F.law_quantile : FuncId := 37
def F.stats_Bucket : FuncId := 38
def F.stats_Bounds : FuncId := 39
def F.stats_named : FuncId := 40
def F.slices_Sort_string : FuncId := 41
def F.stats_Histogram_join : FuncId := 42
def F.stats_Histogram_check : FuncId := 43
def F.maps_Clone_int : FuncId := 44
def F.ref26_name : FuncId := 45
def F.ref26_Histogram_Count : FuncId := 46
def F.ref26_Histogram_Sum : FuncId := 47
def F.ref26_Histogram_Buckets : FuncId := 48
def F.ref26_Histogram_Ends : FuncId := 49
def F.ref26_Histogram_Quantile : FuncId := 50
def F.math_bits_Len : FuncId := 51
def F.stats_named_1 : FuncId := 52
def F.strings_ContainsRune : FuncId := 53
def F.strings_ContainsFunc : FuncId := 54
def F.slices_pdqsortOrdered_string : FuncId := 55
def F.stats_Histogram_empty : FuncId := 56
def F.maps_clone : FuncId := 57
def F.math_bits_Len32 : FuncId := 58
def F.math_bits_Len64 : FuncId := 59
def F.strings_IndexRune : FuncId := 60
def F.strings_IndexFunc : FuncId := 61
def F.slices_insertionSortOrdered_string : FuncId := 62
def F.slices_heapSortOrdered_string : FuncId := 63
def F.slices_breakPatternsOrdered_string : FuncId := 64
def F.slices_choosePivotOrdered_string : FuncId := 65
def F.slices_reverseRangeOrdered_string : FuncId := 66
def F.slices_partialInsertionSortOrdered_string : FuncId := 67
def F.cmp_Less_string : FuncId := 68
def F.slices_partitionEqualOrdered_string : FuncId := 69
def F.slices_partitionOrdered_string : FuncId := 70
def F.strings_IndexByte : FuncId := 71
def F.unicode_utf8_ValidRune : FuncId := 72
def F.internal_bytealg_Cutover : FuncId := 73
def F.internal_bytealg_IndexString : FuncId := 74
def F.strings_indexFunc : FuncId := 75
def F.slices_siftDownOrdered_string : FuncId := 76
def F.slices_nextPowerOfTwo : FuncId := 77
def F.slices_xorshift_Next : FuncId := 78
def F.slices_medianAdjacentOrdered_string : FuncId := 79
def F.slices_medianOrdered_string : FuncId := 80
def F.cmp_isNaN_string : FuncId := 81
def F.internal_stringslite_IndexByte : FuncId := 82
def F.slices_order2Ordered_string : FuncId := 83
def F.internal_bytealg_IndexByteString : FuncId := 84
def F.runtime_boundsError_Error : FuncId := 85
def F.runtime_boundsError_RuntimeError : FuncId := 86
def F.runtime_errorString_Error : FuncId := 87
def F.runtime_errorString_RuntimeError : FuncId := 88
def F.runtime_plainError_Error : FuncId := 89
def F.runtime_plainError_RuntimeError : FuncId := 90
def F.runtime_errorAddressString_Error : FuncId := 91
def F.runtime_errorAddressString_RuntimeError : FuncId := 92
def F.runtime_TypeAssertionError_Error : FuncId := 93
def F.runtime_TypeAssertionError_RuntimeError : FuncId := 94
def F.runtime_PanicNilError_Error : FuncId := 95
def F.runtime_PanicNilError_RuntimeError : FuncId := 96
def F.internal_abi_Type_Align : FuncId := 97
def F.internal_runtime_maps_unhashableTypeError_Error : FuncId := 98
def F.internal_runtime_maps_unhashableTypeError_RuntimeError : FuncId := 99
def F.internal_abi_Kind_String : FuncId := 100
def T.tuple : TypeId := 0
def T.func : TypeId := 1
def T.int64 : TypeId := 2
def T.int : TypeId := 3
def T.bool : TypeId := 4
def T.uint8 : TypeId := 5
def T.internal_abi_BoundsErrorCode : TypeId := 6
def T.struct_x_int64_y_int_signed_bool_code_abi_BoundsErrorCode : TypeId := 7
def T.runtime_boundsError : TypeId := 8
def T.string : TypeId := 9
def T.runtime_errorString : TypeId := 10
def T.runtime_plainError : TypeId := 11
def T.uintptr : TypeId := 12
def T.struct_msg_string_addr_uintptr : TypeId := 13
def T.runtime_errorAddressString : TypeId := 14
def T.p_runtime_TypeAssertionError : TypeId := 15
def T.p_runtime_PanicNilError : TypeId := 16
def T.p_abi_Type : TypeId := 17
def T.struct_typ_abi_Type : TypeId := 18
def T.internal_runtime_maps_unhashableTypeError : TypeId := 19
def T.interface : TypeId := 20
def T.int32 : TypeId := 21
def T.func_1 : TypeId := 22
def T.api_Errno : TypeId := 23
def T.func_2 : TypeId := 24
def T.func_3 : TypeId := 25
def T.func_4 : TypeId := 26
def T.tuple_1 : TypeId := 27
def T.func_5 : TypeId := 28
def T.func_6 : TypeId := 29
def T.uint16 : TypeId := 30
def T.p_stats_Counter : TypeId := 31
def T.map_string_int : TypeId := 32
def T.struct_counts_map_string_int_total_int : TypeId := 33
def T.stats_Counter : TypeId := 34
def T.func_7 : TypeId := 35
def T.func_8 : TypeId := 36
def T.func_9 : TypeId := 37
def T.sl_string : TypeId := 38
def T.func_10 : TypeId := 39
def T.func_11 : TypeId := 40
def T.func_12 : TypeId := 41
def T.sl_uint64 : TypeId := 42
def T.sl_uint8 : TypeId := 43
def T.p_stats_Histogram : TypeId := 44
def T.n42_int : TypeId := 45
def T.struct_buckets_42_int_count_int_sum_int_low_int_high_int : TypeId := 46
def T.stats_Histogram : TypeId := 47
def T.uint64 : TypeId := 48
def T.func_13 : TypeId := 49
def T.func_14 : TypeId := 50
def T.func_15 : TypeId := 51
def T.func_16 : TypeId := 52
def T.func_17 : TypeId := 53
def T.tuple_2 : TypeId := 54
def T.func_18 : TypeId := 55
def T.func_19 : TypeId := 56
def T.func_20 : TypeId := 57
def T.sl_ticketlinelaw_Count : TypeId := 58
def T.p_ticketlineref26_Counter : TypeId := 59
def T.sl_ticketlineref26_Named : TypeId := 60
def T.struct_L_ticketlineref26_Named : TypeId := 61
def T.ref26_Counter : TypeId := 62
def T.struct_Name_string_N_int : TypeId := 63
def T.law_Count : TypeId := 64
def T.func_21 : TypeId := 65
def T.ref26_Named : TypeId := 66
def T.func_22 : TypeId := 67
def T.sl_ticketlinelaw_Act : TypeId := 68
def T.p_ticketlineref26_Histogram : TypeId := 69
def T.sl_ticketlineref26_Counted : TypeId := 70
def T.struct_L_ticketlineref26_Counted : TypeId := 71
def T.ref26_Histogram : TypeId := 72
def T.struct_What_int_N_int_Times_int : TypeId := 73
def T.law_Act : TypeId := 74
def T.func_23 : TypeId := 75
def T.func_24 : TypeId := 76
def T.func_25 : TypeId := 77
def T.func_26 : TypeId := 78
def T.func_27 : TypeId := 79
def T.func_28 : TypeId := 80
def T.tuple_3 : TypeId := 81
def T.func_29 : TypeId := 82
def T.tuple_4 : TypeId := 83
def T.func_30 : TypeId := 84
def T.func_31 : TypeId := 85
def T.func_32 : TypeId := 86
def T.func_33 : TypeId := 87
def T.func_34 : TypeId := 88
def T.struct_N_int_Times_int : TypeId := 89
def T.ref26_Counted : TypeId := 90
def T.func_35 : TypeId := 91
def T.sl_int : TypeId := 92
def T.func_36 : TypeId := 93
def T.uint : TypeId := 94
def T.func_37 : TypeId := 95
def T.func_38 : TypeId := 96
def T.func_39 : TypeId := 97
def T.func_40 : TypeId := 98
def T.func_41 : TypeId := 99
def T.func_42 : TypeId := 100
def T.uint32 : TypeId := 101
def T.func_43 : TypeId := 102
def T.func_44 : TypeId := 103
def T.func_45 : TypeId := 104
def T.func_46 : TypeId := 105
def T.slices_sortedHint : TypeId := 106
def T.tuple_5 : TypeId := 107
def T.func_47 : TypeId := 108
def T.func_48 : TypeId := 109
def T.func_49 : TypeId := 110
def T.func_50 : TypeId := 111
def T.func_51 : TypeId := 112
def T.func_52 : TypeId := 113
def T.func_53 : TypeId := 114
def T.func_54 : TypeId := 115
def T.slices_xorshift : TypeId := 116
def T.func_55 : TypeId := 117
def T.func_56 : TypeId := 118
def T.func_57 : TypeId := 119
def T.p_int : TypeId := 120
def T.func_58 : TypeId := 121
def T.p_slices_xorshift : TypeId := 122
def T.func_59 : TypeId := 123
def T.func_60 : TypeId := 124
def T.struct_interface_abi_Type_concrete_abi_Type_asserted_abi_Typ : TypeId := 125
def T.runtime_TypeAssertionError : TypeId := 126
def T.n0_runtime_PanicNilError : TypeId := 127
def T.struct_0_runtime_PanicNilError : TypeId := 128
def T.runtime_PanicNilError : TypeId := 129
def T.internal_abi_TFlag : TypeId := 130
def T.internal_abi_Kind : TypeId := 131
def T.func_61 : TypeId := 132
def T.p_uint8 : TypeId := 133
def T.internal_abi_NameOff : TypeId := 134
def T.internal_abi_TypeOff : TypeId := 135
def T.struct_Size_uintptr_PtrBytes_uintptr_Hash_uint32_TFlag_abi_T : TypeId := 136
def T.internal_abi_Type : TypeId := 137
def T.unsafe_Pointer : TypeId := 138
end Go.Proofs.Ytplblfcofplcmaa
