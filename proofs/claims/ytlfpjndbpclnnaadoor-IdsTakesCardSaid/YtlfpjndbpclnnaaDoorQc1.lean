/-
  4 texts in one (merge.py): Wp Hints Known Names.
  Conditions: none. By an AI agent.
-/
import Derived.Test.YtlfpjndbpclnnaaDoorQb1
import Derived.Test.YtlfpjndbpclnnaaDoorQa3
import Derived.Test.YtlfpjndbpclnnaaDoorChecked
import Derived.KernelRfl

/-
  Chapter 47: maps.Keys, slices.Sorted, maps.Clone, strconv.Itoa and strconv.Atoi as prims.
  Conditions: none. By an AI agent.
-/
namespace Go.Proofs.YtlfpjndbpclnnaaDoor
open Go Eng

theorem rvs_cons {ι : Emb} {v : Value} {xs args' : List Value} (h : RVs ι (v :: xs) args') : ∃ v' r, args' = v' :: r ∧ RV ι v v' ∧ RVs ι xs r := by
  cases h with
  | cons a b => exact ⟨_, _, rfl, a, b⟩
theorem rvs_str {ι : Emb} {s : ByteArray} {xs : List Value} {args' : List Value} (h : RVs ι (.string s :: xs) args') : ∃ r, args' = .string s :: r ∧ RVs ι xs r := by
  cases h with
  | cons a b => cases a; exact ⟨_, rfl, b⟩
theorem rvs_int {ι : Emb} {q : IntKind} {n : Int} {xs : List Value} {args' : List Value} (h : RVs ι (.int q n :: xs) args') : ∃ r, args' = .int q n :: r ∧ RVs ι xs r := by
  cases h with
  | cons a b => cases a; exact ⟨_, rfl, b⟩

theorem clonePrim : (CallAd fun _ args H => cloneP args H) ∧ CallOK Tryd.prog fun h args H => if h = 39 then cloneP args H else none :=
  clone_prim (fun w => Go.Proofs.AnyW.maps_Clone_nil cloneLays w) fun b es clock w h => Go.Proofs.AnyW.maps_Clone cloneLays b es clock w h

/-! ### strconv -/
def decF : Nat → Nat → List UInt8
  | 0, _ => []
  | f + 1, u => if u < 10 then [UInt8.ofNat (48 + u)] else decF f (u / 10) ++ [UInt8.ofNat (48 + u % 10)]
theorem decF_eq : ∀ (f u : Nat), u < 10 ^ (f + 1) → decF (f + 1) u = Lib.decDigits u
  | 0, u, h => by
    have h : u < 10 := by simpa using h
    rw [Lib.decDigits, dif_pos h]; simp [decF, h]
  | f + 1, u, h => by
    rw [Lib.decDigits]
    by_cases hu : u < 10
    · rw [dif_pos hu]; simp [decF, hu]
    · rw [dif_neg hu, decF, if_neg hu, decF_eq f (u / 10) (by rw [Nat.pow_succ] at h; omega)]
def itoaS (n : Int) : List UInt8 := if n < 0 then 45 :: decF 20 n.natAbs else decF 20 n.toNat
theorem itoaS_eq {n : Int} (h1 : -9223372036854775808 ≤ n) (h2 : n ≤ 9223372036854775807) : itoaS n = Lib.itoa n := by
  unfold itoaS Lib.itoa
  have h : (10 : Nat) ^ 20 = 100000000000000000000 := by decide
  split
  · rw [decF_eq 19 _ (by rw [h]; omega)]
  · rw [decF_eq 19 _ (by rw [h]; omega)]
def itoaV : List Value → AHeap → Res := fun xs H => match xs with
  | [.int .i64 n] => if -9223372036854775808 ≤ n ∧ n ≤ 9223372036854775807 then some (.string ⟨(itoaS n).toArray⟩, H) else none
  | _ => none
def atoiV : List Value → AHeap → Res := fun xs H => match xs with
  | [.string s] => if s.size ≤ 1000000 then (match Lib.atoiAll s.data.toList with
    | .ok v => some (.tuple #[.int .i64 v, .nilIface], H)
    | .syntax => some (.tuple #[.int .i64 0, .iface 114 (.chan none)], H)
    | .range => some (.tuple #[.int .i64 (Lib.atoiSat s.data.toList), .iface 114 (.chan none)], H)) else none
  | _ => none

theorem itoa_prim : (CallAd fun _ args H => itoaV args H) ∧ CallOK Tryd.prog fun g args H => if g = 36 then itoaV args H else none := by
  constructor
  · intro _ args H v H' h hl _
    replace h : itoaV args H = some (v, H') := h
    unfold itoaV at h
    split at h
    · split at h
      · cases h; exact OkV.still hl (.str _)
      · cases h
    · cases h
  · intro k args H v H' h2 hl had B ι w args' r ha
    by_cases hg : k = 36
    · subst hg
      simp only [if_true] at h2
      unfold itoaV at h2
      split at h2
      · split at h2
        · rename_i n hn
          cases h2
          obtain ⟨a', ea, hA⟩ := rvs_int ha; subst ea
          cases rvs_nil hA
          have htab : Lib.TabIs Tryd.prog w "internal/strconv.uint64pow10" .u64 Lib.pow10Tab := by
            obtain ⟨e, fr, hh⟩ := r.glob.tab (g := 2) (k := .u64) (zs := [1, 10, 100, 1000, 10000, 100000, 1000000, 10000000, 100000000, 1000000000, 10000000000, 100000000000, 1000000000000, 10000000000000, 100000000000000, 1000000000000000, 10000000000000000, 100000000000000000, 1000000000000000000, 10000000000000000000]) (by simp [globs])
            have hgn : Tryd.prog.globalNamed "internal/strconv.uint64pow10" = some 2 := by kernel_rfl
            unfold Lib.TabIs World.var?
            simp only [hgn, Option.bind_some, hh]
            rfl
          rw [itoaS_eq hn.1 hn.2]
          refine Calls.mono (Tryd.strconv_Itoa n hn.1 hn.2 w htab) ?_
          rintro e w' ⟨rfl, k, os, rfl⟩
          have hb : RowKit.Below w.heap.size w (Sort.grow (w.drewN k) os) := ⟨rfl, rfl, rfl, by simp, fun j hj => Sort.heap_grow_old (w.drewN k) os hj⟩
          obtain ⟨h3, h4⟩ := below_rel r hb
          exact ⟨_, ι, rfl, .str _, h3, h4⟩
        · cases h2
      · cases h2
    · simp [hg] at h2

theorem tup2 {ι : Emb} {a b a' b' : Value} (h1 : RV ι a a') (h2 : RV ι b b') : RV ι (.tuple #[a, b]) (.tuple #[a', b']) := by
  refine .tup rfl fun i v v' hv hv' => ?_
  match i, hv, hv' with
  | 0, hv, hv' => simp at hv hv'; subst hv hv'; exact h1
  | 1, hv, hv' => simp at hv hv'; subst hv hv'; exact h2
  | i + 2, hv, hv' => simp at hv
theorem atoi_prim : (CallAd fun _ args H => atoiV args H) ∧ CallOK Tryd.prog fun g args H => if g = 38 then atoiV args H else none := by
  constructor
  · intro _ args H v H' h hl _
    replace h : atoiV args H = some (v, H') := h
    unfold atoiV at h
    have ht : ∀ (n : Int) (e : Value), AD H.n e → OkV H H (.tuple #[.int .i64 n, e]) := fun n e he => OkV.still hl (.tup fun u hu => by
      simp at hu
      rcases hu with rfl | rfl
      · exact .int _ _
      · exact he)
    split at h
    · split at h
      · split at h
        · cases h; exact ht _ _ .nili
        · cases h; exact ht _ _ (.iface .unk)
        · cases h; exact ht _ _ (.iface .unk)
      · cases h
    · cases h
  · intro k args H v H' h2 hl had B ι w args' r ha
    by_cases hg : k = 38
    · subst hg
      simp only [if_true] at h2
      unfold atoiV at h2
      split at h2
      · split at h2
        · rename_i s hs
          obtain ⟨a', ea, hA⟩ := rvs_str ha; subst ea
          cases rvs_nil hA
          split at h2
          · rename_i n hn
            cases h2
            refine Calls.mono (Tryd.strconv_Atoi_ok s (by omega) n hn w) ?_
            rintro e w' ⟨rfl, hb⟩
            have hb : RowKit.Below w.heap.size w w' := by
              rcases hb with rfl | ⟨t, rfl⟩
              · exact RowKit.Below.refl _ _
              · exact Lib.bytesWorld_below w 5 t
            obtain ⟨h3, h4⟩ := below_rel r hb
            exact ⟨_, ι, rfl, tup2 (.int _ _) .nili, h3, h4⟩
          · rename_i hn
            cases h2
            obtain ⟨ev, hv, hev⟩ := r.glob.iface (g := 0) (by simp [globs])
            refine Calls.mono (Tryd.strconv_Atoi_syntax s (by omega) hn ev w hv hev) ?_
            rintro e w' ⟨N, rfl, _, _, hb⟩
            obtain ⟨h3, h4⟩ := below_rel r hb
            exact ⟨_, ι, rfl, tup2 (.int _ _) (.iface (.unk _)), h3, h4⟩
          · rename_i hn
            cases h2
            obtain ⟨ev, hv, hev⟩ := r.glob.iface (g := 1) (by simp [globs])
            refine Calls.mono (Tryd.strconv_Atoi_range s (by omega) hn ev w hv hev) ?_
            rintro e w' ⟨N, rfl, _, _, hb⟩
            obtain ⟨h3, h4⟩ := below_rel r hb
            exact ⟨_, ι, rfl, tup2 (.int _ _) (.iface (.unk _)), h3, h4⟩
        · cases h2
      · cases h2
    · simp [hg] at h2

/-! ### maps.Keys, slices.Sorted -/
def keysV : List Value → AHeap → Res := fun args H => match args with
  | [.map (some b)] => some (.func (.func 46) #[] #[.pointer (some ⟨H.n, 0, none⟩)], H.push (.cells [.map (some b)] 59 false))
  | _ => none
theorem keys_prim : (CallAd fun _ args H => keysV args H) ∧ CallOK Tryd.prog fun h args H => if h = 35 then keysV args H else none := by
  constructor
  · intro _ args H v H' h hl had
    replace h : keysV args H = some (v, H') := h
    unfold keysV at h
    split at h
    · rename_i b
      cases h
      have hb : b < H.n := by
        cases had _ (List.mem_singleton.2 rfl) with
        | map h => exact h
      refine ⟨hl.push (fun xs e rw hk v hv => ?_) (fun es hk => by cases hk), .func (fun _ h => by cases h) (fun v h => ?_), VO.push _ _⟩
      · cases hk
        simp at hv; subst hv
        exact .map (Nat.lt_succ_of_lt hb)
      · cases List.mem_singleton.1 h
        exact .ptr (Nat.lt_succ_self _)
    · cases h
  · intro k args H v H' h2 hl had B ι w args' r ha
    by_cases hg : k = 35
    · subst hg
      simp only [if_true] at h2
      unfold keysV at h2
      split at h2
      · rename_i b
        cases h2
        obtain ⟨v', r', ea, hv, hr⟩ := rvs_cons ha; subst ea
        cases rvs_nil hr
        cases hv with
        | map hM =>
          rename_i M
          refine Calls.mono (keys_at (some M.cb) w) ?_
          rintro e w' ⟨rfl, rfl⟩
          obtain ⟨h3, h4⟩ := r.push (.cells #[.map (some M.cb)] 59) (.cells [.map (some b)] 59 false) ⟨w.heap.size, 0, 1, 1⟩ rfl (by
            refine ⟨_, 59, (0, 0), push_heap w _, rfl, by simp, fun i v hv => ⟨.map (some M.cb), ?_, ?_⟩, fun h => by cases h⟩
            · match i, hv with
              | 0, _ => rfl
              | i + 1, hv => simp at hv
            · match i, hv with
              | 0, hv => simp at hv; subst hv; exact .map hM
              | i + 1, hv => simp at hv)
          refine ⟨_, _, rfl, .func rfl (fun i v v' hv _ => by simp at hv) rfl (fun i v v' hv hv' => ?_), h3, h4⟩
          match i, hv, hv' with
          | 0, hv, hv' =>
            simp at hv hv'; subst hv hv'
            exact .ptr (b := H.n) (o := 0) (L := ⟨w.heap.size, 0, 1, 1⟩) (by simp [up])
          | i + 1, hv, _ => simp at hv
      · cases h2
    · simp [hg] at h2

def keyStr : Value → Option (List UInt8)
  | .string s => if s.size ≤ 1000 then some s.data.toList else none
  | _ => none
def insS (x : List UInt8) : List (List UInt8) → List (List UInt8)
  | [] => [x]
  | y :: l => if Op.bytesLess y x then y :: insS x l else x :: y :: l
def sortS : List (List UInt8) → List (List UInt8)
  | [] => []
  | x :: l => insS x (sortS l)
def strs : List (Value × Value) → Option (List (List UInt8))
  | [] => some []
  | p :: l => (keyStr p.1).bind fun s => (strs l).map (s :: ·)
def sortedV : List Value → AHeap → Res := fun args H => match args with
  | [.func (.func 46) ⟨[]⟩ ⟨[.pointer (some ⟨b, o, none⟩)]⟩] => (match H.f b with
    | .cells xs _ _ => (match xs[o]? with
      | some (.map (some mb)) => (match H.f mb with
        | .map es => (match strs es with
          | some ks => if es.length ≤ 1000000 then (if ks.isEmpty then some (.slice none 0 0, H) else some (.slice (some ⟨H.n, 0, none⟩) ks.length (2 * ks.length + 1), H.push (.cells ((sortS ks).map fun s => .string ⟨s.toArray⟩) 9 true))) else none
          | none => none)
        | _ => none)
      | _ => none)
    | _ => none)
  | _ => none

theorem less_lt : ∀ a b : List UInt8, Op.bytesLess a b = decide (a < b)
  | [], [] => by simp [Op.bytesLess]
  | _ :: _, [] => by simp [Op.bytesLess]
  | [], _ :: _ => by simp [Op.bytesLess]
  | a :: x, b :: y => by
    show (decide (a < b) || (a == b && Op.bytesLess x y)) = _
    rw [less_lt x y]
    apply Bool.eq_iff_iff.2
    simp [List.cons_lt_cons_iff]
theorem insS_perm (x : List UInt8) : ∀ l, (insS x l).Perm (x :: l)
  | [] => .refl _
  | y :: l => by
    unfold insS
    split
    · exact ((insS_perm x l).cons y).trans (.swap x y l)
    · exact .refl _
theorem sortS_perm : ∀ l, (sortS l).Perm l
  | [] => .refl _
  | x :: l => (insS_perm x _).trans ((sortS_perm l).cons x)
theorem insS_sorted (x : List UInt8) : ∀ l, l.Pairwise (fun a b => Go.leB a b = true) → (insS x l).Pairwise (fun a b => Go.leB a b = true)
  | [], _ => by simp [insS]
  | y :: l, h => by
    have hy := List.pairwise_cons.1 h
    unfold insS
    rw [less_lt]
    split
    · rename_i hlt
      have hlt : y < x := by simpa using hlt
      refine List.pairwise_cons.2 ⟨fun z hz => ?_, insS_sorted x l hy.2⟩
      rcases List.mem_cons.1 ((insS_perm x l).mem_iff.1 hz) with rfl | hz
      · simpa using List.le_of_lt hlt
      · exact hy.1 z hz
    · rename_i hlt
      have hlt : ¬ y < x := by simpa using hlt
      have hxy : x ≤ y := List.not_lt.1 hlt
      refine List.pairwise_cons.2 ⟨fun z hz => ?_, h⟩
      rcases List.mem_cons.1 hz with rfl | hz
      · simpa using hxy
      · have := hy.1 z hz
        simp only [decide_eq_true_eq] at this ⊢
        exact List.le_trans hxy this
theorem sortS_sorted : ∀ l, (sortS l).Pairwise (fun a b => Go.leB a b = true)
  | [] => .nil
  | x :: l => insS_sorted x _ (sortS_sorted l)
theorem sortS_merge {ss ks : List (List UInt8)} (h : ss.Perm ks) : ss.mergeSort Go.leB = sortS ks := by
  rw [Go.mergeSort_of_perm (h.trans (sortS_perm ks).symm)]
  exact List.mergeSort_of_pairwise (sortS_sorted ks)

theorem strs_some : ∀ {es : List (Value × Value)} {ks : List (List UInt8)}, strs es = some ks → es.map (·.1) = ks.map (fun s => Value.string ⟨s.toArray⟩) ∧ ∀ s ∈ ks, s.length ≤ 1000
  | [], ks, h => by cases h; exact ⟨rfl, by simp⟩
  | p :: l, ks, h => by
    unfold strs at h
    obtain ⟨s, h1, h2⟩ := Option.bind_eq_some_iff.1 h
    obtain ⟨m, h3, rfl⟩ := Option.map_eq_some_iff.1 h2
    obtain ⟨a1, a2⟩ := strs_some h3
    obtain ⟨pk, pv⟩ := p
    unfold keyStr at h1
    cases pk with
    | string b =>
      simp only at h1
      split at h1
      · rename_i hb
        cases h1
        refine ⟨by rw [List.map_cons, List.map_cons, a1], fun z hz => ?_⟩
        rcases List.mem_cons.1 hz with rfl | hz
        · simpa using hb
        · exact a2 z hz
      · cases h1
    | _ => cases h1

theorem nm_ok {H : AHeap} (hl : Eng.Cl H) {n c : Nat} {ks : List (List UInt8)} : OkV H (H.push (.cells (ks.map fun s => .string ⟨s.toArray⟩) 9 true)) (.slice (some ⟨H.n, 0, none⟩) n c) := by
  refine ⟨hl.push (fun xs e rw hk v hv => ?_) (fun es hk => by cases hk), .sl (by simp), VO.push _ _⟩
  cases hk
  obtain ⟨s, _, rfl⟩ := List.mem_map.1 hv
  exact .str _

theorem Eng.Rel.pushB {P : Program} {B : Nat} {ι : Emb} {H : AHeap} {w w' : World} (r : Rel P B ι H w) (hbl : RowKit.Below w.heap.size w w') (k : Blk) (L : Loc) (h1 : w.heap.size ≤ L.cb) (h2 : L.cb < w'.heap.size) (hk : RB P B ι w' L k) :
    Rel P B (up ι H.n L) (H.push k) w' ∧ Stp ι H w (up ι H.n L) (H.push k) w' := by
  refine ⟨r.lay k L h2 hbl.size hk (fun b M h _ => by have := (r.lt b M h).2; omega) (by have := r.base; omega) (fun c hc _ => hbl.block c hc), ?_⟩
  constructor
  · intro b hb; simp [up, show b ≠ H.n by omega]
  · simp
  · exact hbl.size
  · exact hbl.os
  · exact hbl.tape
  · exact hbl.output
  · intro c hc _; exact hbl.block c hc
  · intro b M hb h
    by_cases hbn : b = H.n
    · simp [up, hbn] at h
      subst h
      exact .inl h1
    · simp [up, hbn] at h
      have := (r.lt b M h).1
      omega
  · intro b _ hb _ ho
    rwa [AHeap.push_old _ _ (by omega)] at ho
  · exact VO.push _ _

theorem sorted_prim : (CallAd fun _ args H => sortedV args H) ∧ CallOK Tryd.prog fun h args H => if h = 34 then sortedV args H else none := by
  constructor
  · intro _ args H v H' h hl _
    replace h : sortedV args H = some (v, H') := h
    unfold sortedV at h
    split at h
    · split at h
      · split at h
        · split at h
          · split at h
            · split at h
              · split at h
                · cases h; exact OkV.still hl .nils
                · cases h
                  exact nm_ok hl
              · cases h
            · cases h
          · cases h
        · cases h
      · cases h
    · cases h
  · intro k args H v H' h2 hl had B ι w args' r ha
    by_cases hg : k = 34
    · subst hg
      simp only [if_true] at h2
      unfold sortedV at h2
      split at h2
      · rename_i b0 o
        split at h2
        · rename_i xs e rw hf
          obtain ⟨fv, r', ea, hv, hr⟩ := rvs_cons ha; subst ea
          cases rvs_nil hr
          cases hv with
          | func q1 q2 q3 q4 =>
            rename_i x' c'
            obtain ⟨x'⟩ := x'
            obtain ⟨c'⟩ := c'
            have hx0 : x' = [] := List.length_eq_zero_iff.1 (by simpa using q1.symm)
            obtain ⟨pv, rfl⟩ : ∃ pv, c' = [pv] := List.length_eq_one_iff.1 (by simpa using q3.symm)
            subst hx0
            have hp := q4 0 _ pv rfl rfl
            cases hp with
            | ptr hL =>
              rename_i L
              have hb := r.blk _ _ hL
              rw [hf] at hb
              obtain ⟨cs, e', fr, hw, hsz, hle, hcs, _⟩ := hb
              split at h2
              · rename_i mb hx
                obtain ⟨v', hv', hrv⟩ := hcs _ _ hx
                cases hrv with
                | map hM =>
                  rename_i M
                  have hcell : w.cell? ⟨L.cb, L.base + o, none⟩ = some (.map (some M.cb)) := by simp [World.cell?, hw, hv']
                  have hlt : L.cb < w.heap.size := (r.lt _ _ hL).2
                  split at h2
                  · rename_i es hfm
                    have hm := r.blk _ _ hM
                    rw [hfm] at hm
                    obtain ⟨hB, ents, clock, hwm, hmr⟩ := hm
                    split at h2
                    · rename_i ks hks
                      split at h2
                      · rename_i hlen
                        obtain ⟨hk1, hk2⟩ := strs_some hks
                        -- the map as the kit reads it
                        have hkey : ∀ x ∈ ents.toList, ∃ s ∈ ks, x.key = .string ⟨s.toArray⟩ := fun x hx => by
                          obtain ⟨p, hp, he⟩ := hmr.bwd x hx
                          have : p.1 ∈ es.map (·.1) := List.mem_map_of_mem hp
                          rw [hk1] at this
                          obtain ⟨s, hs, e⟩ := List.mem_map.1 this
                          exact ⟨s, hs, by rw [← he, ← e]⟩
                        have hrd : ∀ x ∈ ents.toList, ∀ s, x.key = .string ⟨s.toArray⟩ → s.length ≤ 1000 → WideElems.rd Tryd.prog 9 RU x = some (.string s, .lit (.bool true)) := fun x hx s hs hl => by
                          have : keyOf Tryd.prog 9 x.key = some (.string s) := by
                            rw [hs]
                            have := Go.WideMaps.keyOf_string_mk (P := Tryd.prog) (k := 9) Tryd.underlying9 (s := ⟨s.toArray⟩) (by show s.length ≤ maxLen; unfold maxLen; omega)
                            simpa using this
                          simp [WideElems.rd, this, RU]
                        have hfit : WideElems.Fit Tryd.prog 9 RU ents clock := ⟨by have := hmr.len; unfold maxLen; omega, ⟨hmr.clk, hmr.born, hmr.ckeys⟩, fun x hx => by obtain ⟨s, hs, e⟩ := hkey x hx; exact ⟨_, hrd x hx s e (hk2 s hs)⟩⟩
                        obtain ⟨D0, hD0⟩ : ∃ D0 : DataW Unit, D0 = .map ((ents.toList.map (WideElems.rg Tryd.prog 9 RU)).foldr DataW.insert []) := ⟨_, rfl⟩
                        have hown : w.ownsMap Tryd.prog 9 RU M.cb ents.size D0 := ⟨ents, clock, hwm, hfit, Nat.le_refl _, hD0⟩
                        have hperm : (Go.strKeys D0).Perm ks := by
                          rw [hD0]
                          show ((((ents.toList.map (WideElems.rg Tryd.prog 9 RU)).foldr DataW.insert [])).map fun p => Go.strOf p.1).Perm ks
                          refine ((Go.WideShapes.sorted_perm _).map _).trans ?_
                          rw [List.map_map]
                          have hst : ∀ x ∈ ents.toList, ∀ s, x.key = .string ⟨s.toArray⟩ → s ∈ ks → ((fun p : Lit × DataW Unit => Go.strOf p.1) ∘ WideElems.rg Tryd.prog 9 RU) x = s := fun x hx s e hs => by
                            have := hrd x hx s e (hk2 s hs)
                            simp [WideElems.rg, this, Go.strOf]
                          have hinj : ∀ s s' : List UInt8, Value.string ⟨s.toArray⟩ = Value.string ⟨s'.toArray⟩ → s = s' := fun s s' e => by simpa using e
                          have nd1 : (ents.toList.map ((fun p : Lit × DataW Unit => Go.strOf p.1) ∘ WideElems.rg Tryd.prog 9 RU)).Nodup := by
                            rw [List.Nodup, List.pairwise_map]
                            have hck := hmr.ckeys
                            rw [List.Nodup, List.pairwise_map] at hck
                            refine hck.imp_of_mem fun {x y} hx hy hne => ?_
                            obtain ⟨s, hs, e⟩ := hkey x hx
                            obtain ⟨s', hs', e'⟩ := hkey y hy
                            rw [hst x hx s e hs, hst y hy s' e' hs']
                            intro he
                            rw [e, e', he] at hne
                            exact hne rfl
                          have nd2 : ks.Nodup := by
                            have := hmr.keys
                            rw [hk1, List.Nodup, List.pairwise_map] at this
                            exact this.imp fun h e => h (by rw [e])
                          refine (List.perm_ext_iff_of_nodup nd1 nd2).2 fun s => ?_
                          constructor
                          · intro h
                            obtain ⟨x, hx, rfl⟩ := List.mem_map.1 h
                            obtain ⟨s', hs', e⟩ := hkey x hx
                            rw [hst x hx s' e hs']
                            exact hs'
                          · intro hs
                            have : Value.string ⟨s.toArray⟩ ∈ es.map (·.1) := by rw [hk1]; exact List.mem_map_of_mem (f := fun s => Value.string ⟨s.toArray⟩) hs
                            obtain ⟨p, hp, e⟩ := List.mem_map.1 this
                            obtain ⟨x, hx, ex, _⟩ := hmr.fwd p hp
                            exact List.mem_map.2 ⟨x, hx, hst x hx s (by rw [ex, e]) hs⟩
                        have hsize : Go.Maps.size D0 ≤ 1000000 := by
                          rw [hD0]
                          show (((ents.toList.map (WideElems.rg Tryd.prog 9 RU)).foldr DataW.insert [])).length ≤ _
                          rw [(Go.WideShapes.sorted_perm _).length_eq]
                          have := hmr.len
                          simp; omega
                        refine Calls.mono (sorted_any _ _ M.cb ents.size D0 w hcell hlt hown hsize) ?_
                        rintro e w' ⟨v2, ss, rfl, hp2, hrow, hnil, hbl⟩
                        have hp3 := hp2.trans hperm
                        have hms : ss.mergeSort (fun x y => decide (x ≤ y)) = sortS ks := sortS_merge hp3
                        rw [hms] at hrow
                        obtain ⟨r', s'⟩ := below_rel r hbl
                        split at h2
                        · rename_i hke
                          cases h2
                          have hk0 : ks = [] := by cases ks with | nil => rfl | cons a b => cases hke
                          have hs0 : ss = [] := by rw [hk0] at hp3; exact List.Perm.eq_nil hp3
                          have hv0 := hnil.2 hs0
                          subst hv0
                          exact ⟨_, ι, rfl, .nils, r', s'⟩
                        · rename_i hke
                          cases h2
                          have hs0 : ss ≠ [] := fun h => hke (by rw [h] at hp3; rw [List.Perm.eq_nil hp3.symm]; rfl)
                          rcases hrow.2 with ⟨hv0, _⟩ | ⟨g, cap, cur, rfl, hbase, hgb, h1, h2', h3, h4⟩
                          · exact absurd (hnil.1 hv0) hs0
                          have hlen2 : ss.length = ks.length := hp3.length_eq
                          have hsl : (sortS ks).length = ks.length := (sortS_perm ks).length_eq
                          have hcell9 : Tryd.prog.cellsOf 9 = 1 := by kernel_rfl
                          have hgl : g < w'.heap.size := (Array.getElem?_eq_some_iff.1 hgb).1
                          have hRB : RB Tryd.prog B ι w' ⟨g, 0, 1, cap⟩ (.cells ((sortS ks).map fun s => .string ⟨s.toArray⟩) 9 true) := by
                            refine ⟨cur, 9, (0, 0), hgb, by show cur.size = cap; omega, by show 0 + _ ≤ _; simp; omega, fun i v hv => ?_, fun _ => ⟨Nat.le_trans r.base hbase, rfl, hcell9.symm, fun j _ => by simp⟩⟩
                            have hi : i < (sortS ks).length := by have := (List.getElem?_eq_some_iff.1 hv).1; simpa using this
                            have h4' := congrArg (fun l => l[i]?) h4
                            simp only [List.getElem?_take_of_lt (show i < ss.length * 1 by omega)] at h4'
                            have e1 : (Go.Proofs.encStr (sortS ks)[i]) = v := by
                              rw [List.getElem?_map, List.getElem?_eq_getElem hi] at hv
                              exact Option.some.inj hv
                            refine ⟨v, ?_, ?_⟩
                            · show cur[0 + i]? = some v
                              rw [Nat.zero_add, ← Array.getElem?_toList, h4', List.getElem?_map, List.getElem?_eq_getElem hi]
                              exact congrArg some e1
                            · rw [← e1]; exact .str _
                          obtain ⟨r2, s2⟩ := r.pushB hbl (.cells ((sortS ks).map fun s => .string ⟨s.toArray⟩) 9 true) ⟨g, 0, 1, cap⟩ hbase hgl hRB
                          refine ⟨_, _, rfl, ?_, r2, s2⟩
                          rw [hlen2]
                          exact .sli (L := ⟨g, 0, 1, cap⟩) (by simp [up]) (by omega) (by omega) (by simp)
                      · cases h2
                    · cases h2
                  · cases h2
              · cases h2
        · cases h2
      · cases h2
    · simp [hg] at h2

end Go.Proofs.YtlfpjndbpclnnaaDoor

/-
  The hints: which temporaries are asked for behind each if, block, loop head, return of each function (a program of ours printed it).
  Conditions: none. By an AI agent.
-/
namespace Go.Proofs.YtlfpjndbpclnnaaDoor
open Go Eng

def hintList : List (List (List Nat)) := [
  [],
  [],
  [],
  [[0,1,2],[6],[1,2,7,8],[0,1,2,7,8,9],[0,1,2,7,8,9],[0,1,2,7,8,9],[0,1,2,7,8,9],[6],[1,2,7,8],[6],[6]],
  [[1,2,3],[6],[1,2,7,8],[1,2,3,7,8,9],[1,2,3,7,8,9],[1,2,3,7,8,9],[1,2,3,7,8,9],[6],[1,2,3,7,8,9,10],[6],[2,7,8,12],[1,2,7,8,12,13,14],[1,2,7,8,12,13,14],[1,2,7,8,12,13,14],[1,2,7,8,12,13,14,15,16],[1,2,7,8,12,13,14],[1,2,7,8,12,13,14],[1,2,7,8,12,13,14,15,16,17],[1,2,7,8,12,13,14,15,16,17],[1,2,7,8,12,13,14,15,16,17],[6],[1,2,7,8,12,13,14],[1,2,7,8,12,13,14],[1,2,7,8,12,13,14],[1,2,7,8,12,13,14],[6],[],[2,7,8,159],[2,7,8,159],[2,7,8,159],[2,7,8,21,22,23,159],[6],[2,7,8,21,22,23,159],[2,7,8,21,22,23,159,174],[2,7,8,21,22,23,159,174],[2,7,8,21,22,23,159,174],[2,7,8,21,22,23,159,174],[6],[2,7,8,21,22,23,159],[2,7,8,159],[6],[6]],
  [[0],[2],[],[0,11,12,13],[0,11,12,13],[0,11,12,13],[0,11,12,13],[2],[2]],
  [[1,2,4],[0],[1,2,4],[0],[1,2,4],[0],[],[0],[0]],
  [[0,1,2,7,8],[6],[6]],
  [[0,1],[0,1],[4,5],[0,1],[4,5],[6],[4,5],[8],[4,5],[4,5]],
  [[8]],
  [[10]],
  [[0,1],[4],[4]],
  [[0,1,2,6],[6,7],[0,1,2,6,8],[0,1,2,6,8],[6,7],[0,1,2,6,8],[6,7],[6,7]],
  [[0,1],[0,1,5],[0,1,5],[0,1,5],[0,1,5],[4],[4]],
  [[0],[2,3],[2,3]],
  [[0,1,2],[6,7],[0,1,2],[6,7],[0,2,10],[0,2,10],[6,7],[6,7]],
  [[]],
  [[0,1],[4,5],[0,1,6],[0,1,6,25,26,27],[0,1,6,25,26,27],[0,1,6,25,26,27],[0,1,6,8,9,25,26,27],[4,5],[0,1,6,25,26,27],[6],[0,1,6,58,59,60],[0,1,6,58,59,60],[0,1,6,58,59,60],[4,5]],
  [[0,1],[4,5],[7],[4,5],[9],[4,5],[4,5]],
  [[0,1,4],[4],[4]],
  [[10]],
  [[8]],
  [[0],[2],[2]],
  [[0,1,2],[6,7,8],[0,1],[6,7,8],[6,7,8]],
  [[],[],[],[8],[8]],
  [[0,6],[0,6],[4,5],[0,6],[4,5],[4,5]],
  [[0,3],[0,3,4],[0,3,4],[0,3,4],[0,3,4],[2],[3],[2],[2]],
  [[0,1,2,6],[0,1,2,6],[6,7],[0,1,2,6],[6,7],[0,1,2,6,8],[0,1,2,6,8],[6,7],[0,1,2,6,8],[6,7],[2,6,8],[6,7],[6,7]],
  [[0],[2],[2]],
  [[0,1],[4],[],[0,1,12,13],[0,1,12,13],[0,1,12,13],[0,1,12,13],[4],[4]],
  [[0],[2],[2]],
  [[0],[2],[2]],
  [[2]],
  [[0,1,5],[]],
  [[2]],
  [[2]],
  [[2]],
  [[1],[4],[4]],
  [[4],[2,3],[2,3]],
  [[0],[2],[2]],
  [[],[],[4],[],[4],[4]],
  [[4,5]],
  [[0,1,2,7],[6],[0,1,2,7,8],[6],[0,1,2,7,8],[6],[0,1,2,7,8],[6],[6]],
  [[0],[2],[2]],
  [[2]],
  [],
  [[],[0,5],[0,5],[0,5],[0,5],[]],
  [[2]],
  [[0],[0,5],[0,5],[2,3],[5,6],[5,6,47,48,49],[5,6,47,48,49],[5,6,47,48,49],[5,6,8,47,48,49],[2,3],[6],[2,3],[2,3]],
  [[4],[4],[10],[4],[10],[4],[10],[4],[10],[10]],
  [],
  [[4]],
  [[2]],
  [[0,1,2,8,9],[0,1,2,8,9,10],[0,1,2,8,9,10],[0,1,2,8,9,10],[0,1,2,8,9,10],[6,7]],
  [[4]],
  [[4]],
  [],
  [],
  [[2],[4]],
  [[],[0,1,2,3,8,9],[0,1,2,3,8,9],[0,1,2,3,8,9,10],[],[0,1,2,3,8,9,10],[],[0,1,2,3,8,9,10],[0,1,2,3,8,9,10,11,12],[0,1,2,3,8,9,10,11],[0,1,2,3,8,9,10,11],[],[0,1,2,3,10,11],[0,1,2,3,8,9]],
  [[0],[2],[2]],
  [[0,1],[0],[4],[0,5,6],[5,7],[4],[4],[4]],
  [[0,1,2],[6,7],[0,1,2,8],[0,1,2,8],[0,1,2,8],[2,8,9],[6,7],[2,8,9],[8,9,10],[6,7],[8,9],[6,7],[11],[6,7]],
  [[4]],
  [[4]],
  [[6]],
  [[6]],
  [[],[0,1,7,8],[0,1,7,8],[0,1,7,8],[0,1,7,8],[4],[4]],
  [[4]],
  [],
  [[],[0,1,2,6],[0,1,2,6],[0,1,2,6],[0,1,2,6],[0,1,2,6,7],[0,1,2,6,7],[0,1,2,6,7]],
  [[0,6,7,8],[0,6,7,8,9],[0,6,7,8,9],[0,6,7,8,9],[],[0,6,7,10],[0,6,7,10],[0,6,7,10]],
  [[],[],[0,1,6,7,8,9],[0,1,6,7,8,9],[0,1,6,7,8,9],[0,1,6,7,8,9,10]],
  [[9,11],[0,9,10,11,12],[6,7],[6,7],[6,7],[6,7],[6,7],[6,7]],
  [[],[0,6,7],[0,6,7],[0,6,7]],
  [[],[0,1,2,7,8],[0,1,2,7,8],[0,1,2,7,8],[0,1,2,7,8],[0,1,2,7,8],[0,1,2,7,8],[0,1,2,7,8],[0,1,2,7,8],[6],[0,1,2,7,8],[6],[0,1,2,7,8],[0,1,2,7,8],[0,1,2,7,8,9],[0,1,2,7,8,9],[0,1,2,7,8,9],[0,1,2,7,8,9],[0,1,2,7,8],[0,1,2,7,8],[0,1,2,7,8,10],[0,1,2,7,8,10],[0,1,2,7,8,10],[0,1,2,7,8,10],[6]],
  [[4]],
  [[9],[0,1,9,10],[0,1,9,10],[0,1,9,10],[0,1,9,10],[0,1,9,10],[0,1,9,10],[0,1,9,10],[0,1,9,10],[0,1,9,10],[0,1,9,10],[0,1,9,10],[8]],
  [[0,1,10,11],[0,1,10,11],[0,1,10,11],[0,1,10,11],[0,1,10,11],[0,1,10,11],[0,1,10,11],[0,1,10,11],[0,1,10,11],[8,9],[0,1,11],[0,1,10,11],[0,1,10,11],[0,1,10,11],[0,1,10,11],[0,1,10,11],[0,1,10,11],[0,1,10,11],[0,1,10,11],[0,1,10,11],[0,1,10,11],[0,1,10,11],[8,9]],
  [[0,2],[0,2],[2]],
  [[0,2],[0,2],[0,2],[2]],
  [[0],[2],[2]],
  [[2]],
  [[0,1,4],[0,1,4],[0,1,4],[0,1,4],[0,4,12],[0,4,12],[]],
  [[0,1,2,3,4,10,11],[0,1,2,3,4,10,11,12,13],[0,3,4,10,11,12,13],[0,1,3,4,10,11,12,13],[0,1,3,4,10,11,12,13,14,15,16],[0,1,3,4,10,11,12,13,14,15,16],[0,1,3,4,10,11,12,13,14,15,16],[0,1,3,4,10,11,12,13],[0,1,3,4,10,11,12,13,17],[0,1,3,4,10,11,12,13,17],[0,1,3,4,10,11,12,13,17],[0,4,10,11,12,13],[10,12,13],[10,11],[10,11]],
  [[0,1,2],[6,7],[0,1,2,8,9],[0,1,2,8,9],[0,1,2,8,9],[0,1,2,8,9],[0,1,2,8,9],[0,1,2,8,9],[0,1,2,8,9],[0,1,2,8,9],[6,7],[0,1,2,8,9],[0,1,2,8,9],[6,7],[0,1,2,8,9,10],[0,1,2,8,9,10],[0,1,2,8,9,10],[9,12,13],[1,8,9,10,11,12,13,99,100,101],[1,8,9,10,11,12,13,99,100,101],[1,8,9,10,11,12,13,99,100,101],[1,8,9,10,11,12,13,16,99,100,101],[1,8,9,10,11,12,13,16,99,100,101],[1,8,9,10,11,12,13,16,99,100,101],[1,8,9,10,11,12,13,16,99,100,101],[6,7],[1,8,9,10,11,12,13,16,99,100,101],[6,7],[1,8,9,10,11,12,13,16,99,100,101],[6,7],[1,8,9,10,11,12,17,99,100,101],[6,7],[13],[6,7],[6,7]],
  [[0],[2],[2]],
  [[2]],
  [[4]],
  [[],[0,2,3],[0,2,3],[0,2,3]],
  [[],[0,2,3,8],[0,2,3,8],[0,2,3,8,9],[0,2,3,8,9],[0,2,3,8,9],[]],
  [[2]],
  [[2]],
  [[6]],
  [[10]],
  [[2]],
  [[2]],
  [[],[2],[2]],
  [[2]],
  [[0],[2],[2]],
  [[2]],
  [[0,3,4],[0,3,4,5],[3],[0,3,4,5],[0,3,4,5],[0,3,4,5],[0,3,4,5],[0,3,4,5],[0,4,5],[2],[0,4,5],[2],[2]],
  [],
  [[1,2],[8,9],[8,9]],
  [[0],[2],[2]],
  [[0],[2],[2]],
  [],
  [],
  [],
  [],
  [],
  [],
  [],
  [],
  [],
  [],
  [],
  [],
  [],
  [],
  [],
  [],
  [],
  [],
  [],
  [],
  [],
  [],
  [],
  [],
  [],
  [],
  []
]

def hints : Hints := fun f => (hintList[f]?).getD []

end Go.Proofs.YtlfpjndbpclnnaaDoor

/-
  Chapter 47: slices.Insert as a Prim; known() returns true.
  Conditions: none. By an AI agent.
-/
namespace Go.Proofs.YtlfpjndbpclnnaaDoor
open Go Eng

theorem mixed : Tryd.prog.follows .mixedOrders = true := by kernel_rfl

def zIns0 : List Value := [(.string (mk [])), (.string (mk []))]
theorem insOK0 : InsOK Tryd.prog hints 42 22 3 28 zIns0 56 57 where
  mixed := mixed
  body := fun C n a0 a1 a2 H => by kernel_rfl
  hS := Tryd.underlying22
  hI := Tryd.underlying3
  hz := by kernel_rfl
  hsz := by kernel_rfl
  ovl := ⟨Tryd.f56, by kernel_rfl, by decide, by kernel_rfl, by kernel_rfl, by kernel_rfl, by kernel_rfl⟩

noncomputable def prims0 : Prims := fun f => if f = 42 then some (insP Tryd.prog hints 42 28 zIns0) else if f = 39 then some cloneP else if f = 38 then some atoiV else if f = 36 then some itoaV else if f = 35 then some keysV else if f = 34 then some sortedV else none

theorem prims0_ok : PrimsOK Tryd.prog prims0 := by
  intro f p h
  unfold prims0 at h
  split at h
  · rename_i hf
    have e := Option.some.inj h
    subst hf
    rw [← e]
    exact ins_prim insOK0
  · skip
    split at h
    · rename_i hf
      have e := Option.some.inj h
      subst hf
      rw [← e]
      exact clonePrim
    · skip
      split at h
      · rename_i hf
        have e := Option.some.inj h
        subst hf
        rw [← e]
        exact atoi_prim
      · skip
        split at h
        · rename_i hf
          have e := Option.some.inj h
          subst hf
          rw [← e]
          exact itoa_prim
        · skip
          split at h
          · rename_i hf
            have e := Option.some.inj h
            subst hf
            rw [← e]
            exact keys_prim
          · skip
            split at h
            · rename_i hf
              have e := Option.some.inj h
              subst hf
              rw [← e]
              exact sorted_prim
            · skip
              cases h

set_option maxHeartbeats 0 in
theorem known_run : (dCallF Tryd.prog prims0 hints 60 6 [] H0).map (·.1) = some (.bool true) := by kernel_rfl

noncomputable def prims1 : Prims := fun f => if f = 6 then some trueP else prims0 f

theorem prims1_ok : PrimsOK Tryd.prog prims1 := by
  intro f p h
  unfold prims1 at h
  split at h
  · rename_i hf
    have e := Option.some.inj h
    subst hf
    rw [← e]
    exact true_primF prims0_ok mixed known_run
  · exact prims0_ok f p h

/-- What a call gives. -/
noncomputable def CC : CallF := D Tryd.prog prims1 hints

end Go.Proofs.YtlfpjndbpclnnaaDoor

/-
  Names of the seat's functions and types (a program of ours printed it).
  Conditions: none. By an AI agent.
-/
namespace Go.Proofs.YtlfpjndbpclnnaaDoor
open Go
def F.main_main : FuncId := 0
def F.gosem_cut : FuncId := 1
def F.gosem_cut_init : FuncId := 2
def F.law_IdsTakes : FuncId := 3
def F.law_IdsHolds : FuncId := 4
def F.law_IdsNone : FuncId := 5
def F.law_known : FuncId := 6
def F.model_Model_Put : FuncId := 7
def F.law_next : FuncId := 8
def F.law_nexts : FuncId := 9
def F.law_takes : FuncId := 10
def F.model_Equal : FuncId := 11
def F.law_take : FuncId := 12
def F.law_small : FuncId := 13
def F.ids_New : FuncId := 14
def F.ids_Giver_Give : FuncId := 15
def F.ids_Giver_Lose : FuncId := 16
def F.ids_Giver_Return : FuncId := 17
def F.ids_Next : FuncId := 18
def F.ids_Giver_Left : FuncId := 19
def F.law_gives : FuncId := 20
def F.law_returns : FuncId := 21
def F.ids_Giver_Copy : FuncId := 22
def F.model_Model_at : FuncId := 23
def F.model_Model_set : FuncId := 24
def F.model_Model_Get : FuncId := 25
def F.law_counter : FuncId := 26
def F.ids_Take : FuncId := 27
def F.model_Model_Len : FuncId := 28
def F.slices_Equal_Pair : FuncId := 29
def F.model_Model_Pairs : FuncId := 30
def F.law_decimal : FuncId := 31
def F.ids_Giver_none : FuncId := 32
def F.ids_Giver_set : FuncId := 33
def F.slices_Sorted_string : FuncId := 34
def F.maps_Keys_Block : FuncId := 35
def F.strconv_Itoa : FuncId := 36
def F.ids_check : FuncId := 37
def F.strconv_Atoi : FuncId := 38
def F.maps_Clone_Block : FuncId := 39
def F.model_check : FuncId := 40
def F.model_Model_place : FuncId := 41
def F.slices_Insert_Pair : FuncId := 42
def F.slices_Clone_Pair : FuncId := 43
def F.slices_Collect_string : FuncId := 44
def F.slices_Sort_string : FuncId := 45
def F.maps_Keys_Block_1 : FuncId := 46
def F.internal_strconv_Itoa : FuncId := 47
def F.internal_strconv_Atoi : FuncId := 48
def F.strconv_toError : FuncId := 49
def F.maps_clone : FuncId := 50
def F.slices_ContainsFunc_string : FuncId := 51
def F.model_check_1 : FuncId := 52
def F.slices_BinarySearchFunc_string : FuncId := 53
def F.model_Model_place_1 : FuncId := 54
def F.keys_Compare : FuncId := 55
def F.slices_overlaps_Pair : FuncId := 56
def F.slices_rotateRight_Pair : FuncId := 57
def F.slices_AppendSeq_string : FuncId := 58
def F.slices_pdqsortOrdered_string : FuncId := 59
def F.math_bits_Len : FuncId := 60
def F.internal_strconv_FormatInt : FuncId := 61
def F.internal_strconv_ParseInt : FuncId := 62
def F.strconv_syntaxError : FuncId := 63
def F.strconv_rangeError : FuncId := 64
def F.strconv_baseError : FuncId := 65
def F.strconv_bitSizeError : FuncId := 66
def F.slices_IndexFunc_string : FuncId := 67
def F.strings_Compare : FuncId := 68
def F.slices_rotateLeft_Pair : FuncId := 69
def F.slices_insertionSortOrdered_string : FuncId := 70
def F.slices_heapSortOrdered_string : FuncId := 71
def F.slices_breakPatternsOrdered_string : FuncId := 72
def F.slices_choosePivotOrdered_string : FuncId := 73
def F.slices_reverseRangeOrdered_string : FuncId := 74
def F.slices_partialInsertionSortOrdered_string : FuncId := 75
def F.cmp_Less_string : FuncId := 76
def F.slices_partitionEqualOrdered_string : FuncId := 77
def F.slices_partitionOrdered_string : FuncId := 78
def F.math_bits_Len32 : FuncId := 79
def F.math_bits_Len64 : FuncId := 80
def F.internal_strconv_small : FuncId := 81
def F.internal_strconv_numDigits : FuncId := 82
def F.internal_strconv_formatBase10 : FuncId := 83
def F.internal_strconv_formatBits : FuncId := 84
def F.internal_strconv_ParseUint : FuncId := 85
def F.internal_stringslite_Clone : FuncId := 86
def F.errors_New : FuncId := 87
def F.internal_bytealg_CompareString : FuncId := 88
def F.slices_Reverse_Pair : FuncId := 89
def F.slices_siftDownOrdered_string : FuncId := 90
def F.slices_nextPowerOfTwo : FuncId := 91
def F.slices_xorshift_Next : FuncId := 92
def F.slices_medianAdjacentOrdered_string : FuncId := 93
def F.slices_medianOrdered_string : FuncId := 94
def F.cmp_isNaN_string : FuncId := 95
def F.internal_strconv_log10Pow2 : FuncId := 96
def F.internal_strconv_bool2_int : FuncId := 97
def F.internal_strconv_isPowerOfTwo : FuncId := 98
def F.math_bits_TrailingZeros : FuncId := 99
def F.internal_strconv_lower : FuncId := 100
def F.internal_strconv_underscoreOK : FuncId := 101
def F.internal_bytealg_abigen_runtime_cmpstring : FuncId := 102
def F.slices_order2Ordered_string : FuncId := 103
def F.math_bits_TrailingZeros32 : FuncId := 104
def F.math_bits_TrailingZeros64 : FuncId := 105
def F.runtime_boundsError_Error : FuncId := 106
def F.runtime_boundsError_RuntimeError : FuncId := 107
def F.runtime_errorString_Error : FuncId := 108
def F.runtime_errorString_RuntimeError : FuncId := 109
def F.runtime_plainError_Error : FuncId := 110
def F.runtime_plainError_RuntimeError : FuncId := 111
def F.runtime_errorAddressString_Error : FuncId := 112
def F.runtime_errorAddressString_RuntimeError : FuncId := 113
def F.runtime_TypeAssertionError_Error : FuncId := 114
def F.runtime_TypeAssertionError_RuntimeError : FuncId := 115
def F.runtime_PanicNilError_Error : FuncId := 116
def F.runtime_PanicNilError_RuntimeError : FuncId := 117
def F.internal_abi_Type_Align : FuncId := 118
def F.internal_runtime_maps_unhashableTypeError_Error : FuncId := 119
def F.internal_runtime_maps_unhashableTypeError_RuntimeError : FuncId := 120
def F.internal_strconv_Error_Error : FuncId := 121
def F.strconv_NumError_Error : FuncId := 122
def F.errors_errorString_Error : FuncId := 123
def F.internal_abi_Kind_String : FuncId := 124
def F.var_s_door_gosem_cut_vars_holds_initialisers_alone_see_the_manifest_s_row_cutvarsword_look_11_test_files_too : FuncId := 125
def F.var_s_door_internal_strconv_uint64pow10_is_laid_by_its_own_initialiser_plain_data_look_11 : FuncId := 126
def F.var_s_door_math_bits_deBruijn32tab_is_laid_by_its_own_initialiser_plain_data_look_11 : FuncId := 127
def F.var_s_door_math_bits_deBruijn64tab_is_laid_by_its_own_initialiser_plain_data_look_11 : FuncId := 128
def F.var_s_door_strconv_ErrRange_is_laid_by_its_own_call_of_errors_New_on_one_literal_look_11 : FuncId := 129
def F.var_s_door_strconv_ErrSyntax_is_laid_by_its_own_call_of_errors_New_on_one_literal_look_11 : FuncId := 130
def F.var_s_door_the_look_of_gosem_cut_vars_went_over_the_folder_that_the_caller_named_as_the_repository_s_root_look_11 : FuncId := 131
def F.gosem_cut_vars : FuncId := 132
def T.tuple : TypeId := 0
def T.func : TypeId := 1
def T.int64 : TypeId := 2
def T.int : TypeId := 3
def T.bool : TypeId := 4
def T.uint8 : TypeId := 5
def T.internal_abi_BoundsErrorCode : TypeId := 6
def T.struct_x_int64_y_int_signed_bool_code_abi_BoundsErrorCode : TypeId := 7
def T.runtime_boundsError : TypeId := 8
def T.string : TypeId := 9
def T.runtime_errorString : TypeId := 10
def T.runtime_plainError : TypeId := 11
def T.uintptr : TypeId := 12
def T.struct_msg_string_addr_uintptr : TypeId := 13
def T.runtime_errorAddressString : TypeId := 14
def T.p_runtime_TypeAssertionError : TypeId := 15
def T.p_runtime_PanicNilError : TypeId := 16
def T.p_abi_Type : TypeId := 17
def T.struct_typ_abi_Type : TypeId := 18
def T.internal_runtime_maps_unhashableTypeError : TypeId := 19
def T.interface : TypeId := 20
def T.int32 : TypeId := 21
def T.sl_api_Pair : TypeId := 22
def T.func_1 : TypeId := 23
def T.p_model_Model : TypeId := 24
def T.struct_list_api_Pair : TypeId := 25
def T.model_Model : TypeId := 26
def T.struct_Key_string_Value_string : TypeId := 27
def T.api_Pair : TypeId := 28
def T.api_Errno : TypeId := 29
def T.func_2 : TypeId := 30
def T.tuple_1 : TypeId := 31
def T.func_3 : TypeId := 32
def T.func_4 : TypeId := 33
def T.func_5 : TypeId := 34
def T.struct_From_int_N_int : TypeId := 35
def T.api_Block : TypeId := 36
def T.func_6 : TypeId := 37
def T.tuple_2 : TypeId := 38
def T.func_7 : TypeId := 39
def T.func_8 : TypeId := 40
def T.n2_int : TypeId := 41
def T.sl_ticketlinelaw_Act : TypeId := 42
def T.func_9 : TypeId := 43
def T.p_ids_Giver : TypeId := 44
def T.n2_ids_Giver : TypeId := 45
def T.tuple_3 : TypeId := 46
def T.func_10 : TypeId := 47
def T.map_string_map_int_bool : TypeId := 48
def T.map_string_int : TypeId := 49
def T.n2_map_string_int : TypeId := 50
def T.struct_What_int_N_int_Two_bool_Name_string_Value_string : TypeId := 51
def T.law_Act : TypeId := 52
def T.tuple_4 : TypeId := 53
def T.func_11 : TypeId := 54
def T.map_int_bool : TypeId := 55
def T.func_12 : TypeId := 56
def T.func_13 : TypeId := 57
def T.func_14 : TypeId := 58
def T.map_string_api_Block : TypeId := 59
def T.struct_size_int_left_map_string_api_Block : TypeId := 60
def T.ids_Giver : TypeId := 61
def T.sl_p_ids_Giver : TypeId := 62
def T.func_15 : TypeId := 63
def T.func_16 : TypeId := 64
def T.func_17 : TypeId := 65
def T.func_18 : TypeId := 66
def T.tuple_5 : TypeId := 67
def T.func_19 : TypeId := 68
def T.func_20 : TypeId := 69
def T.tuple_6 : TypeId := 70
def T.func_21 : TypeId := 71
def T.func_22 : TypeId := 72
def T.tuple_7 : TypeId := 73
def T.func_23 : TypeId := 74
def T.func_24 : TypeId := 75
def T.func_25 : TypeId := 76
def T.func_26 : TypeId := 77
def T.func_27 : TypeId := 78
def T.func_28 : TypeId := 79
def T.func_29 : TypeId := 80
def T.sl_string : TypeId := 81
def T.func_30 : TypeId := 82
def T.func_31 : TypeId := 83
def T.iter_Seq_string : TypeId := 84
def T.func_32 : TypeId := 85
def T.func_33 : TypeId := 86
def T.interface_1 : TypeId := 87
def T.error : TypeId := 88
def T.tuple_8 : TypeId := 89
def T.func_34 : TypeId := 90
def T.func_35 : TypeId := 91
def T.func_36 : TypeId := 92
def T.func_37 : TypeId := 93
def T.tuple_9 : TypeId := 94
def T.func_38 : TypeId := 95
def T.func_39 : TypeId := 96
def T.sl_uint8 : TypeId := 97
def T.func_40 : TypeId := 98
def T.func_41 : TypeId := 99
def T.func_42 : TypeId := 100
def T.func_43 : TypeId := 101
def T.func_44 : TypeId := 102
def T.func_45 : TypeId := 103
def T.func_46 : TypeId := 104
def T.func_47 : TypeId := 105
def T.func_48 : TypeId := 106
def T.func_49 : TypeId := 107
def T.func_50 : TypeId := 108
def T.uint : TypeId := 109
def T.func_51 : TypeId := 110
def T.internal_strconv_Error : TypeId := 111
def T.tuple_10 : TypeId := 112
def T.func_52 : TypeId := 113
def T.p_strconv_NumError : TypeId := 114
def T.func_53 : TypeId := 115
def T.func_54 : TypeId := 116
def T.func_55 : TypeId := 117
def T.func_56 : TypeId := 118
def T.slices_sortedHint : TypeId := 119
def T.tuple_11 : TypeId := 120
def T.func_57 : TypeId := 121
def T.func_58 : TypeId := 122
def T.func_59 : TypeId := 123
def T.func_60 : TypeId := 124
def T.func_61 : TypeId := 125
def T.func_62 : TypeId := 126
def T.uint32 : TypeId := 127
def T.func_63 : TypeId := 128
def T.uint64 : TypeId := 129
def T.n24_uint8 : TypeId := 130
def T.func_64 : TypeId := 131
def T.tuple_12 : TypeId := 132
def T.func_65 : TypeId := 133
def T.tuple_13 : TypeId := 134
def T.func_66 : TypeId := 135
def T.func_67 : TypeId := 136
def T.struct_Func_string_Num_string_Err_error : TypeId := 137
def T.strconv_NumError : TypeId := 138
def T.func_68 : TypeId := 139
def T.func_69 : TypeId := 140
def T.slices_xorshift : TypeId := 141
def T.func_70 : TypeId := 142
def T.func_71 : TypeId := 143
def T.func_72 : TypeId := 144
def T.p_int : TypeId := 145
def T.func_73 : TypeId := 146
def T.func_74 : TypeId := 147
def T.func_75 : TypeId := 148
def T.n20_uint64 : TypeId := 149
def T.n65_uint8 : TypeId := 150
def T.func_76 : TypeId := 151
def T.func_77 : TypeId := 152
def T.p_uint8 : TypeId := 153
def T.p_errors_errorString : TypeId := 154
def T.struct_s_string : TypeId := 155
def T.errors_errorString : TypeId := 156
def T.p_slices_xorshift : TypeId := 157
def T.func_78 : TypeId := 158
def T.n32_uint8 : TypeId := 159
def T.n64_uint8 : TypeId := 160
def T.func_79 : TypeId := 161
def T.struct_interface_abi_Type_concrete_abi_Type_asserted_abi_Typ : TypeId := 162
def T.runtime_TypeAssertionError : TypeId := 163
def T.n0_runtime_PanicNilError : TypeId := 164
def T.struct_0_runtime_PanicNilError : TypeId := 165
def T.runtime_PanicNilError : TypeId := 166
def T.internal_abi_TFlag : TypeId := 167
def T.internal_abi_Kind : TypeId := 168
def T.func_80 : TypeId := 169
def T.internal_abi_NameOff : TypeId := 170
def T.internal_abi_TypeOff : TypeId := 171
def T.struct_Size_uintptr_PtrBytes_uintptr_Hash_uint32_TFlag_abi_T : TypeId := 172
def T.internal_abi_Type : TypeId := 173
def T.unsafe_Pointer : TypeId := 174
end Go.Proofs.YtlfpjndbpclnnaaDoor
