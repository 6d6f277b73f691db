/-
  6 texts in one (merge.py): Wp Hints Known Names Sh Ds.
  Conditions: none. By an AI agent.
-/
import Derived.Test.YtlfpjndbpclnnaaGreatDoorQb1
import Derived.Test.YtlfpjndbpclnnaaGreatDoorQa3
import Derived.Test.YtlfpjndbpclnnaaGreatDoorChecked
import Derived.KernelRfl

/-
  Chapter 47: maps.Keys, slices.Sorted, maps.Clone, strconv.Itoa and strconv.Atoi as prims.
  Conditions: none. By an AI agent.
-/
namespace Go.Proofs.YtlfpjndbpclnnaaGreatDoor
open Go Eng

theorem rvs_cons {ι : Emb} {v : Value} {xs args' : List Value} (h : RVs ι (v :: xs) args') : ∃ v' r, args' = v' :: r ∧ RV ι v v' ∧ RVs ι xs r := by
  cases h with
  | cons a b => exact ⟨_, _, rfl, a, b⟩
theorem rvs_str {ι : Emb} {s : ByteArray} {xs : List Value} {args' : List Value} (h : RVs ι (.string s :: xs) args') : ∃ r, args' = .string s :: r ∧ RVs ι xs r := by
  cases h with
  | cons a b => cases a; exact ⟨_, rfl, b⟩
theorem rvs_int {ι : Emb} {q : IntKind} {n : Int} {xs : List Value} {args' : List Value} (h : RVs ι (.int q n :: xs) args') : ∃ r, args' = .int q n :: r ∧ RVs ι xs r := by
  cases h with
  | cons a b => cases a; exact ⟨_, rfl, b⟩

theorem clonePrim : (CallAd fun _ args H => cloneP args H) ∧ CallOK Tryz.prog fun h args H => if h = 29 then cloneP args H else none :=
  clone_prim (fun w => Go.Proofs.AnyW.maps_Clone_nil cloneLays w) fun b es clock w h => Go.Proofs.AnyW.maps_Clone cloneLays b es clock w h

/-! ### strconv -/
def decF : Nat → Nat → List UInt8
  | 0, _ => []
  | f + 1, u => if u < 10 then [UInt8.ofNat (48 + u)] else decF f (u / 10) ++ [UInt8.ofNat (48 + u % 10)]
theorem decF_eq : ∀ (f u : Nat), u < 10 ^ (f + 1) → decF (f + 1) u = Lib.decDigits u
  | 0, u, h => by
    have h : u < 10 := by simpa using h
    rw [Lib.decDigits, dif_pos h]; simp [decF, h]
  | f + 1, u, h => by
    rw [Lib.decDigits]
    by_cases hu : u < 10
    · rw [dif_pos hu]; simp [decF, hu]
    · rw [dif_neg hu, decF, if_neg hu, decF_eq f (u / 10) (by rw [Nat.pow_succ] at h; omega)]
def itoaS (n : Int) : List UInt8 := if n < 0 then 45 :: decF 20 n.natAbs else decF 20 n.toNat
theorem itoaS_eq {n : Int} (h1 : -9223372036854775808 ≤ n) (h2 : n ≤ 9223372036854775807) : itoaS n = Lib.itoa n := by
  unfold itoaS Lib.itoa
  have h : (10 : Nat) ^ 20 = 100000000000000000000 := by decide
  split
  · rw [decF_eq 19 _ (by rw [h]; omega)]
  · rw [decF_eq 19 _ (by rw [h]; omega)]
def itoaV : List Value → AHeap → Res := fun xs H => match xs with
  | [.int .i64 n] => if -9223372036854775808 ≤ n ∧ n ≤ 9223372036854775807 then some (.string ⟨(itoaS n).toArray⟩, H) else none
  | _ => none
def atoiV : List Value → AHeap → Res := fun xs H => match xs with
  | [.string s] => if s.size ≤ 1000000 then (match Lib.atoiAll s.data.toList with
    | .ok v => some (.tuple #[.int .i64 v, .nilIface], H)
    | .syntax => some (.tuple #[.int .i64 0, .iface 118 (.chan none)], H)
    | .range => some (.tuple #[.int .i64 (Lib.atoiSat s.data.toList), .iface 118 (.chan none)], H)) else none
  | _ => none

theorem itoa_prim : (CallAd fun _ args H => itoaV args H) ∧ CallOK Tryz.prog fun g args H => if g = 39 then itoaV args H else none := by
  constructor
  · intro _ args H v H' h hl _
    replace h : itoaV args H = some (v, H') := h
    unfold itoaV at h
    split at h
    · split at h
      · cases h; exact OkV.still hl (.str _)
      · cases h
    · cases h
  · intro k args H v H' h2 hl had B ι w args' r ha
    by_cases hg : k = 39
    · subst hg
      simp only [if_true] at h2
      unfold itoaV at h2
      split at h2
      · split at h2
        · rename_i n hn
          cases h2
          obtain ⟨a', ea, hA⟩ := rvs_int ha; subst ea
          cases rvs_nil hA
          have htab : Lib.TabIs Tryz.prog w "internal/strconv.uint64pow10" .u64 Lib.pow10Tab := by
            obtain ⟨e, fr, hh⟩ := r.glob.tab (g := 2) (k := .u64) (zs := [1, 10, 100, 1000, 10000, 100000, 1000000, 10000000, 100000000, 1000000000, 10000000000, 100000000000, 1000000000000, 10000000000000, 100000000000000, 1000000000000000, 10000000000000000, 100000000000000000, 1000000000000000000, 10000000000000000000]) (by simp [globs])
            have hgn : Tryz.prog.globalNamed "internal/strconv.uint64pow10" = some 2 := by kernel_rfl
            unfold Lib.TabIs World.var?
            simp only [hgn, Option.bind_some, hh]
            rfl
          rw [itoaS_eq hn.1 hn.2]
          refine Calls.mono (Tryz.strconv_Itoa n hn.1 hn.2 w htab) ?_
          rintro e w' ⟨rfl, k, os, rfl⟩
          have hb : RowKit.Below w.heap.size w (Sort.grow (w.drewN k) os) := ⟨rfl, rfl, rfl, by simp, fun j hj => Sort.heap_grow_old (w.drewN k) os hj⟩
          obtain ⟨h3, h4⟩ := below_rel r hb
          exact ⟨_, ι, rfl, .str _, h3, h4⟩
        · cases h2
      · cases h2
    · simp [hg] at h2

theorem tup2 {ι : Emb} {a b a' b' : Value} (h1 : RV ι a a') (h2 : RV ι b b') : RV ι (.tuple #[a, b]) (.tuple #[a', b']) := by
  refine .tup rfl fun i v v' hv hv' => ?_
  match i, hv, hv' with
  | 0, hv, hv' => simp at hv hv'; subst hv hv'; exact h1
  | 1, hv, hv' => simp at hv hv'; subst hv hv'; exact h2
  | i + 2, hv, hv' => simp at hv
theorem atoi_prim : (CallAd fun _ args H => atoiV args H) ∧ CallOK Tryz.prog fun g args H => if g = 45 then atoiV args H else none := by
  constructor
  · intro _ args H v H' h hl _
    replace h : atoiV args H = some (v, H') := h
    unfold atoiV at h
    have ht : ∀ (n : Int) (e : Value), AD H.n e → OkV H H (.tuple #[.int .i64 n, e]) := fun n e he => OkV.still hl (.tup fun u hu => by
      simp at hu
      rcases hu with rfl | rfl
      · exact .int _ _
      · exact he)
    split at h
    · split at h
      · split at h
        · cases h; exact ht _ _ .nili
        · cases h; exact ht _ _ (.iface .unk)
        · cases h; exact ht _ _ (.iface .unk)
      · cases h
    · cases h
  · intro k args H v H' h2 hl had B ι w args' r ha
    by_cases hg : k = 45
    · subst hg
      simp only [if_true] at h2
      unfold atoiV at h2
      split at h2
      · split at h2
        · rename_i s hs
          obtain ⟨a', ea, hA⟩ := rvs_str ha; subst ea
          cases rvs_nil hA
          split at h2
          · rename_i n hn
            cases h2
            refine Calls.mono (Tryz.strconv_Atoi_ok s (by omega) n hn w) ?_
            rintro e w' ⟨rfl, hb⟩
            have hb : RowKit.Below w.heap.size w w' := by
              rcases hb with rfl | ⟨t, rfl⟩
              · exact RowKit.Below.refl _ _
              · exact Lib.bytesWorld_below w 5 t
            obtain ⟨h3, h4⟩ := below_rel r hb
            exact ⟨_, ι, rfl, tup2 (.int _ _) .nili, h3, h4⟩
          · rename_i hn
            cases h2
            obtain ⟨ev, hv, hev⟩ := r.glob.iface (g := 0) (by simp [globs])
            refine Calls.mono (Tryz.strconv_Atoi_syntax s (by omega) hn ev w hv hev) ?_
            rintro e w' ⟨N, rfl, _, _, hb⟩
            obtain ⟨h3, h4⟩ := below_rel r hb
            exact ⟨_, ι, rfl, tup2 (.int _ _) (.iface (.unk _)), h3, h4⟩
          · rename_i hn
            cases h2
            obtain ⟨ev, hv, hev⟩ := r.glob.iface (g := 1) (by simp [globs])
            refine Calls.mono (Tryz.strconv_Atoi_range s (by omega) hn ev w hv hev) ?_
            rintro e w' ⟨N, rfl, _, _, hb⟩
            obtain ⟨h3, h4⟩ := below_rel r hb
            exact ⟨_, ι, rfl, tup2 (.int _ _) (.iface (.unk _)), h3, h4⟩
        · cases h2
      · cases h2
    · simp [hg] at h2

/-! ### maps.Keys, slices.Sorted -/
def keysV : List Value → AHeap → Res := fun args H => match args with
  | [.map (some b)] => some (.func (.func 49) #[] #[.pointer (some ⟨H.n, 0, none⟩)], H.push (.cells [.map (some b)] 63 false))
  | _ => none
theorem keys_prim : (CallAd fun _ args H => keysV args H) ∧ CallOK Tryz.prog fun h args H => if h = 38 then keysV args H else none := by
  constructor
  · intro _ args H v H' h hl had
    replace h : keysV args H = some (v, H') := h
    unfold keysV at h
    split at h
    · rename_i b
      cases h
      have hb : b < H.n := by
        cases had _ (List.mem_singleton.2 rfl) with
        | map h => exact h
      refine ⟨hl.push (fun xs e rw hk v hv => ?_) (fun es hk => by cases hk), .func (fun _ h => by cases h) (fun v h => ?_), VO.push _ _⟩
      · cases hk
        simp at hv; subst hv
        exact .map (Nat.lt_succ_of_lt hb)
      · cases List.mem_singleton.1 h
        exact .ptr (Nat.lt_succ_self _)
    · cases h
  · intro k args H v H' h2 hl had B ι w args' r ha
    by_cases hg : k = 38
    · subst hg
      simp only [if_true] at h2
      unfold keysV at h2
      split at h2
      · rename_i b
        cases h2
        obtain ⟨v', r', ea, hv, hr⟩ := rvs_cons ha; subst ea
        cases rvs_nil hr
        cases hv with
        | map hM =>
          rename_i M
          refine Calls.mono (keys_at (some M.cb) w) ?_
          rintro e w' ⟨rfl, rfl⟩
          obtain ⟨h3, h4⟩ := r.push (.cells #[.map (some M.cb)] 63) (.cells [.map (some b)] 63 false) ⟨w.heap.size, 0, 1, 1⟩ rfl (by
            refine ⟨_, 63, (0, 0), push_heap w _, rfl, by simp, fun i v hv => ⟨.map (some M.cb), ?_, ?_⟩, fun h => by cases h⟩
            · match i, hv with
              | 0, _ => rfl
              | i + 1, hv => simp at hv
            · match i, hv with
              | 0, hv => simp at hv; subst hv; exact .map hM
              | i + 1, hv => simp at hv)
          refine ⟨_, _, rfl, .func rfl (fun i v v' hv _ => by simp at hv) rfl (fun i v v' hv hv' => ?_), h3, h4⟩
          match i, hv, hv' with
          | 0, hv, hv' =>
            simp at hv hv'; subst hv hv'
            exact .ptr (b := H.n) (o := 0) (L := ⟨w.heap.size, 0, 1, 1⟩) (by simp [up])
          | i + 1, hv, _ => simp at hv
      · cases h2
    · simp [hg] at h2

def keyStr : Value → Option (List UInt8)
  | .string s => if s.size ≤ 1000 then some s.data.toList else none
  | _ => none
def insS (x : List UInt8) : List (List UInt8) → List (List UInt8)
  | [] => [x]
  | y :: l => if Op.bytesLess y x then y :: insS x l else x :: y :: l
def sortS : List (List UInt8) → List (List UInt8)
  | [] => []
  | x :: l => insS x (sortS l)
def strs : List (Value × Value) → Option (List (List UInt8))
  | [] => some []
  | p :: l => (keyStr p.1).bind fun s => (strs l).map (s :: ·)
def sortedV : List Value → AHeap → Res := fun args H => match args with
  | [.func (.func 49) ⟨[]⟩ ⟨[.pointer (some ⟨b, o, none⟩)]⟩] => (match H.f b with
    | .cells xs _ _ => (match xs[o]? with
      | some (.map (some mb)) => (match H.f mb with
        | .map es => (match strs es with
          | some ks => if es.length ≤ 1000000 then (if ks.isEmpty then some (.slice none 0 0, H) else some (.slice (some ⟨H.n, 0, none⟩) ks.length (2 * ks.length + 1), H.push (.cells ((sortS ks).map fun s => .string ⟨s.toArray⟩) 9 true))) else none
          | none => none)
        | _ => none)
      | _ => none)
    | _ => none)
  | _ => none

theorem less_lt : ∀ a b : List UInt8, Op.bytesLess a b = decide (a < b)
  | [], [] => by simp [Op.bytesLess]
  | _ :: _, [] => by simp [Op.bytesLess]
  | [], _ :: _ => by simp [Op.bytesLess]
  | a :: x, b :: y => by
    show (decide (a < b) || (a == b && Op.bytesLess x y)) = _
    rw [less_lt x y]
    apply Bool.eq_iff_iff.2
    simp [List.cons_lt_cons_iff]
theorem insS_perm (x : List UInt8) : ∀ l, (insS x l).Perm (x :: l)
  | [] => .refl _
  | y :: l => by
    unfold insS
    split
    · exact ((insS_perm x l).cons y).trans (.swap x y l)
    · exact .refl _
theorem sortS_perm : ∀ l, (sortS l).Perm l
  | [] => .refl _
  | x :: l => (insS_perm x _).trans ((sortS_perm l).cons x)
theorem insS_sorted (x : List UInt8) : ∀ l, l.Pairwise (fun a b => Go.leB a b = true) → (insS x l).Pairwise (fun a b => Go.leB a b = true)
  | [], _ => by simp [insS]
  | y :: l, h => by
    have hy := List.pairwise_cons.1 h
    unfold insS
    rw [less_lt]
    split
    · rename_i hlt
      have hlt : y < x := by simpa using hlt
      refine List.pairwise_cons.2 ⟨fun z hz => ?_, insS_sorted x l hy.2⟩
      rcases List.mem_cons.1 ((insS_perm x l).mem_iff.1 hz) with rfl | hz
      · simpa using List.le_of_lt hlt
      · exact hy.1 z hz
    · rename_i hlt
      have hlt : ¬ y < x := by simpa using hlt
      have hxy : x ≤ y := List.not_lt.1 hlt
      refine List.pairwise_cons.2 ⟨fun z hz => ?_, h⟩
      rcases List.mem_cons.1 hz with rfl | hz
      · simpa using hxy
      · have := hy.1 z hz
        simp only [decide_eq_true_eq] at this ⊢
        exact List.le_trans hxy this
theorem sortS_sorted : ∀ l, (sortS l).Pairwise (fun a b => Go.leB a b = true)
  | [] => .nil
  | x :: l => insS_sorted x _ (sortS_sorted l)
theorem sortS_merge {ss ks : List (List UInt8)} (h : ss.Perm ks) : ss.mergeSort Go.leB = sortS ks := by
  rw [Go.mergeSort_of_perm (h.trans (sortS_perm ks).symm)]
  exact List.mergeSort_of_pairwise (sortS_sorted ks)

theorem strs_some : ∀ {es : List (Value × Value)} {ks : List (List UInt8)}, strs es = some ks → es.map (·.1) = ks.map (fun s => Value.string ⟨s.toArray⟩) ∧ ∀ s ∈ ks, s.length ≤ 1000
  | [], ks, h => by cases h; exact ⟨rfl, by simp⟩
  | p :: l, ks, h => by
    unfold strs at h
    obtain ⟨s, h1, h2⟩ := Option.bind_eq_some_iff.1 h
    obtain ⟨m, h3, rfl⟩ := Option.map_eq_some_iff.1 h2
    obtain ⟨a1, a2⟩ := strs_some h3
    obtain ⟨pk, pv⟩ := p
    unfold keyStr at h1
    cases pk with
    | string b =>
      simp only at h1
      split at h1
      · rename_i hb
        cases h1
        refine ⟨by rw [List.map_cons, List.map_cons, a1], fun z hz => ?_⟩
        rcases List.mem_cons.1 hz with rfl | hz
        · simpa using hb
        · exact a2 z hz
      · cases h1
    | _ => cases h1

theorem nm_ok {H : AHeap} (hl : Eng.Cl H) {n c : Nat} {ks : List (List UInt8)} : OkV H (H.push (.cells (ks.map fun s => .string ⟨s.toArray⟩) 9 true)) (.slice (some ⟨H.n, 0, none⟩) n c) := by
  refine ⟨hl.push (fun xs e rw hk v hv => ?_) (fun es hk => by cases hk), .sl (by simp), VO.push _ _⟩
  cases hk
  obtain ⟨s, _, rfl⟩ := List.mem_map.1 hv
  exact .str _

theorem Eng.Rel.pushB {P : Program} {B : Nat} {ι : Emb} {H : AHeap} {w w' : World} (r : Rel P B ι H w) (hbl : RowKit.Below w.heap.size w w') (k : Blk) (L : Loc) (h1 : w.heap.size ≤ L.cb) (h2 : L.cb < w'.heap.size) (hk : RB P B ι w' L k) :
    Rel P B (up ι H.n L) (H.push k) w' ∧ Stp ι H w (up ι H.n L) (H.push k) w' := by
  refine ⟨r.lay k L h2 hbl.size hk (fun b M h _ => by have := (r.lt b M h).2; omega) (by have := r.base; omega) (fun c hc _ => hbl.block c hc), ?_⟩
  constructor
  · intro b hb; simp [up, show b ≠ H.n by omega]
  · simp
  · exact hbl.size
  · exact hbl.os
  · exact hbl.tape
  · exact hbl.output
  · intro c hc _; exact hbl.block c hc
  · intro b M hb h
    by_cases hbn : b = H.n
    · simp [up, hbn] at h
      subst h
      exact .inl h1
    · simp [up, hbn] at h
      have := (r.lt b M h).1
      omega
  · intro b _ hb _ ho
    rwa [AHeap.push_old _ _ (by omega)] at ho
  · exact VO.push _ _

theorem sorted_prim : (CallAd fun _ args H => sortedV args H) ∧ CallOK Tryz.prog fun h args H => if h = 37 then sortedV args H else none := by
  constructor
  · intro _ args H v H' h hl _
    replace h : sortedV args H = some (v, H') := h
    unfold sortedV at h
    split at h
    · split at h
      · split at h
        · split at h
          · split at h
            · split at h
              · split at h
                · cases h; exact OkV.still hl .nils
                · cases h
                  exact nm_ok hl
              · cases h
            · cases h
          · cases h
        · cases h
      · cases h
    · cases h
  · intro k args H v H' h2 hl had B ι w args' r ha
    by_cases hg : k = 37
    · subst hg
      simp only [if_true] at h2
      unfold sortedV at h2
      split at h2
      · rename_i b0 o
        split at h2
        · rename_i xs e rw hf
          obtain ⟨fv, r', ea, hv, hr⟩ := rvs_cons ha; subst ea
          cases rvs_nil hr
          cases hv with
          | func q1 q2 q3 q4 =>
            rename_i x' c'
            obtain ⟨x'⟩ := x'
            obtain ⟨c'⟩ := c'
            have hx0 : x' = [] := List.length_eq_zero_iff.1 (by simpa using q1.symm)
            obtain ⟨pv, rfl⟩ : ∃ pv, c' = [pv] := List.length_eq_one_iff.1 (by simpa using q3.symm)
            subst hx0
            have hp := q4 0 _ pv rfl rfl
            cases hp with
            | ptr hL =>
              rename_i L
              have hb := r.blk _ _ hL
              rw [hf] at hb
              obtain ⟨cs, e', fr, hw, hsz, hle, hcs, _⟩ := hb
              split at h2
              · rename_i mb hx
                obtain ⟨v', hv', hrv⟩ := hcs _ _ hx
                cases hrv with
                | map hM =>
                  rename_i M
                  have hcell : w.cell? ⟨L.cb, L.base + o, none⟩ = some (.map (some M.cb)) := by simp [World.cell?, hw, hv']
                  have hlt : L.cb < w.heap.size := (r.lt _ _ hL).2
                  split at h2
                  · rename_i es hfm
                    have hm := r.blk _ _ hM
                    rw [hfm] at hm
                    obtain ⟨hB, ents, clock, hwm, hmr⟩ := hm
                    split at h2
                    · rename_i ks hks
                      split at h2
                      · rename_i hlen
                        obtain ⟨hk1, hk2⟩ := strs_some hks
                        -- the map as the kit reads it
                        have hkey : ∀ x ∈ ents.toList, ∃ s ∈ ks, x.key = .string ⟨s.toArray⟩ := fun x hx => by
                          obtain ⟨p, hp, he⟩ := hmr.bwd x hx
                          have : p.1 ∈ es.map (·.1) := List.mem_map_of_mem hp
                          rw [hk1] at this
                          obtain ⟨s, hs, e⟩ := List.mem_map.1 this
                          exact ⟨s, hs, by rw [← he, ← e]⟩
                        have hrd : ∀ x ∈ ents.toList, ∀ s, x.key = .string ⟨s.toArray⟩ → s.length ≤ 1000 → WideElems.rd Tryz.prog 9 RU x = some (.string s, .lit (.bool true)) := fun x hx s hs hl => by
                          have : keyOf Tryz.prog 9 x.key = some (.string s) := by
                            rw [hs]
                            have := Go.WideMaps.keyOf_string_mk (P := Tryz.prog) (k := 9) Tryz.underlying9 (s := ⟨s.toArray⟩) (by show s.length ≤ maxLen; unfold maxLen; omega)
                            simpa using this
                          simp [WideElems.rd, this, RU]
                        have hfit : WideElems.Fit Tryz.prog 9 RU ents clock := ⟨by have := hmr.len; unfold maxLen; omega, ⟨hmr.clk, hmr.born, hmr.ckeys⟩, fun x hx => by obtain ⟨s, hs, e⟩ := hkey x hx; exact ⟨_, hrd x hx s e (hk2 s hs)⟩⟩
                        obtain ⟨D0, hD0⟩ : ∃ D0 : DataW Unit, D0 = .map ((ents.toList.map (WideElems.rg Tryz.prog 9 RU)).foldr DataW.insert []) := ⟨_, rfl⟩
                        have hown : w.ownsMap Tryz.prog 9 RU M.cb ents.size D0 := ⟨ents, clock, hwm, hfit, Nat.le_refl _, hD0⟩
                        have hperm : (Go.strKeys D0).Perm ks := by
                          rw [hD0]
                          show ((((ents.toList.map (WideElems.rg Tryz.prog 9 RU)).foldr DataW.insert [])).map fun p => Go.strOf p.1).Perm ks
                          refine ((Go.WideShapes.sorted_perm _).map _).trans ?_
                          rw [List.map_map]
                          have hst : ∀ x ∈ ents.toList, ∀ s, x.key = .string ⟨s.toArray⟩ → s ∈ ks → ((fun p : Lit × DataW Unit => Go.strOf p.1) ∘ WideElems.rg Tryz.prog 9 RU) x = s := fun x hx s e hs => by
                            have := hrd x hx s e (hk2 s hs)
                            simp [WideElems.rg, this, Go.strOf]
                          have hinj : ∀ s s' : List UInt8, Value.string ⟨s.toArray⟩ = Value.string ⟨s'.toArray⟩ → s = s' := fun s s' e => by simpa using e
                          have nd1 : (ents.toList.map ((fun p : Lit × DataW Unit => Go.strOf p.1) ∘ WideElems.rg Tryz.prog 9 RU)).Nodup := by
                            rw [List.Nodup, List.pairwise_map]
                            have hck := hmr.ckeys
                            rw [List.Nodup, List.pairwise_map] at hck
                            refine hck.imp_of_mem fun {x y} hx hy hne => ?_
                            obtain ⟨s, hs, e⟩ := hkey x hx
                            obtain ⟨s', hs', e'⟩ := hkey y hy
                            rw [hst x hx s e hs, hst y hy s' e' hs']
                            intro he
                            rw [e, e', he] at hne
                            exact hne rfl
                          have nd2 : ks.Nodup := by
                            have := hmr.keys
                            rw [hk1, List.Nodup, List.pairwise_map] at this
                            exact this.imp fun h e => h (by rw [e])
                          refine (List.perm_ext_iff_of_nodup nd1 nd2).2 fun s => ?_
                          constructor
                          · intro h
                            obtain ⟨x, hx, rfl⟩ := List.mem_map.1 h
                            obtain ⟨s', hs', e⟩ := hkey x hx
                            rw [hst x hx s' e hs']
                            exact hs'
                          · intro hs
                            have : Value.string ⟨s.toArray⟩ ∈ es.map (·.1) := by rw [hk1]; exact List.mem_map_of_mem (f := fun s => Value.string ⟨s.toArray⟩) hs
                            obtain ⟨p, hp, e⟩ := List.mem_map.1 this
                            obtain ⟨x, hx, ex, _⟩ := hmr.fwd p hp
                            exact List.mem_map.2 ⟨x, hx, hst x hx s (by rw [ex, e]) hs⟩
                        have hsize : Go.Maps.size D0 ≤ 1000000 := by
                          rw [hD0]
                          show (((ents.toList.map (WideElems.rg Tryz.prog 9 RU)).foldr DataW.insert [])).length ≤ _
                          rw [(Go.WideShapes.sorted_perm _).length_eq]
                          have := hmr.len
                          simp; omega
                        refine Calls.mono (sorted_any _ _ M.cb ents.size D0 w hcell hlt hown hsize) ?_
                        rintro e w' ⟨v2, ss, rfl, hp2, hrow, hnil, hbl⟩
                        have hp3 := hp2.trans hperm
                        have hms : ss.mergeSort (fun x y => decide (x ≤ y)) = sortS ks := sortS_merge hp3
                        rw [hms] at hrow
                        obtain ⟨r', s'⟩ := below_rel r hbl
                        split at h2
                        · rename_i hke
                          cases h2
                          have hk0 : ks = [] := by cases ks with | nil => rfl | cons a b => cases hke
                          have hs0 : ss = [] := by rw [hk0] at hp3; exact List.Perm.eq_nil hp3
                          have hv0 := hnil.2 hs0
                          subst hv0
                          exact ⟨_, ι, rfl, .nils, r', s'⟩
                        · rename_i hke
                          cases h2
                          have hs0 : ss ≠ [] := fun h => hke (by rw [h] at hp3; rw [List.Perm.eq_nil hp3.symm]; rfl)
                          rcases hrow.2 with ⟨hv0, _⟩ | ⟨g, cap, cur, rfl, hbase, hgb, h1, h2', h3, h4⟩
                          · exact absurd (hnil.1 hv0) hs0
                          have hlen2 : ss.length = ks.length := hp3.length_eq
                          have hsl : (sortS ks).length = ks.length := (sortS_perm ks).length_eq
                          have hcell9 : Tryz.prog.cellsOf 9 = 1 := by kernel_rfl
                          have hgl : g < w'.heap.size := (Array.getElem?_eq_some_iff.1 hgb).1
                          have hRB : RB Tryz.prog B ι w' ⟨g, 0, 1, cap⟩ (.cells ((sortS ks).map fun s => .string ⟨s.toArray⟩) 9 true) := by
                            refine ⟨cur, 9, (0, 0), hgb, by show cur.size = cap; omega, by show 0 + _ ≤ _; simp; omega, fun i v hv => ?_, fun _ => ⟨Nat.le_trans r.base hbase, rfl, hcell9.symm, fun j _ => by simp⟩⟩
                            have hi : i < (sortS ks).length := by have := (List.getElem?_eq_some_iff.1 hv).1; simpa using this
                            have h4' := congrArg (fun l => l[i]?) h4
                            simp only [List.getElem?_take_of_lt (show i < ss.length * 1 by omega)] at h4'
                            have e1 : (Go.Proofs.encStr (sortS ks)[i]) = v := by
                              rw [List.getElem?_map, List.getElem?_eq_getElem hi] at hv
                              exact Option.some.inj hv
                            refine ⟨v, ?_, ?_⟩
                            · show cur[0 + i]? = some v
                              rw [Nat.zero_add, ← Array.getElem?_toList, h4', List.getElem?_map, List.getElem?_eq_getElem hi]
                              exact congrArg some e1
                            · rw [← e1]; exact .str _
                          obtain ⟨r2, s2⟩ := r.pushB hbl (.cells ((sortS ks).map fun s => .string ⟨s.toArray⟩) 9 true) ⟨g, 0, 1, cap⟩ hbase hgl hRB
                          refine ⟨_, _, rfl, ?_, r2, s2⟩
                          rw [hlen2]
                          exact .sli (L := ⟨g, 0, 1, cap⟩) (by simp [up]) (by omega) (by omega) (by simp)
                      · cases h2
                    · cases h2
                  · cases h2
              · cases h2
        · cases h2
      · cases h2
    · simp [hg] at h2

end Go.Proofs.YtlfpjndbpclnnaaGreatDoor

/-
  The hints: which temporaries are asked for behind each if, block, loop head, return of each function (a program of ours printed it).
  Conditions: none. By an AI agent.
-/
namespace Go.Proofs.YtlfpjndbpclnnaaGreatDoor
open Go Eng

def hintList : List (List (List Nat)) := [
  [],
  [],
  [],
  [[1,2],[4],[1,5,6,7,8],[1,2,5,6,7,8,9],[1,2,5,6,7,8,9],[1,2,5,6,7,8,9],[1,2,5,6,7,8,9,10,11],[4],[1,2,5,6,7,8,9,10],[4],[],[1,5,6,7,8,12,13],[1,5,6,7,8,12,13],[1,5,6,7,8,12,13],[1,5,6,7,8,12,13,14,15],[1,5,6,7,8,12,13,16],[1,5,6,7,8,12,13,16],[1,5,6,7,8,12,13,16],[1,5,6,7,8,12,13,16],[1,5,6,7,8,12,13,16],[1,5,6,7,8,12,13,16],[1,5,6,7,8,12,13],[4],[4]],
  [[0,1],[0,1,5],[0,1,5],[0,1,5],[0,1,5],[4],[4]],
  [[1,2,4],[0],[1,2,4],[0],[1,2,4],[0],[],[0],[0]],
  [[0],[2,3],[2,3]],
  [[3],[0,3,4],[0,3,4],[0,3,4],[0,3,4,5],[0,3,4,5],[0,3,4,5],[0,3,4,5],[0,3,4],[2]],
  [[0,1,2],[6,7],[0,2],[0,2,10],[6,7],[0,2],[0,2,10,12],[0,2,10,12],[0,2,10,12],[6,7]],
  [[10]],
  [[]],
  [[0,1,8],[0,1,2,8,9],[0,1,2,8,9],[0,1,2,8,9],[0,1,2,8,9,10],[0,1,2,8,9,10,11],[6,7],[0,1,2,8,9],[8],[0,1,8,13],[0,1,8,13],[0,1,8,13],[6,7]],
  [[8]],
  [[0,1,2,6],[6,7],[0,1,2,6,8],[0,1,2,6,8],[6,7],[0,1,2,6,8],[6,7],[6,7]],
  [[10]],
  [[0,1,2,7,8],[6],[6]],
  [[0],[2],[2]],
  [[0,1,2],[6,7],[0,1,2],[6,7],[0,2,10],[0,2,10],[6,7],[6,7]],
  [[0,1,2],[6],[0],[0,1,2,7],[0,1,2,7],[0,1,2,7],[0,1,2,7,8],[0,1,2,7],[6],[6]],
  [[0,1],[4],[4]],
  [[8]],
  [[0,1,4],[4],[4]],
  [[0,1],[0,1],[4,5],[0,1],[4,5],[6],[4,5],[8],[4,5],[4,5]],
  [[2]],
  [[0],[2],[2]],
  [[0,1],[4,5],[0,1,6],[0,1,6,25,26,27],[0,1,6,25,26,27],[0,1,6,25,26,27],[0,1,6,8,9,25,26,27],[4,5],[0,1,6,25,26,27],[6],[0,1,6,58,59,60],[0,1,6,58,59,60],[0,1,6,58,59,60],[4,5]],
  [[0,1,2,6],[0,1,2,6],[6,7],[0,1,2,6],[6,7],[0,1,2,6,8],[0,1,2,6,8],[6,7],[0,1,2,6,8],[6,7],[2,6,8],[6,7],[6,7]],
  [[0,1,2],[6,7,8],[0,1],[6,7,8],[6,7,8]],
  [[],[],[],[8],[8]],
  [[0],[2],[2]],
  [[0,1],[4,5],[7],[4,5],[9],[4,5],[4,5]],
  [[0,1,5],[]],
  [[0],[2],[2]],
  [[0,1],[4],[],[0,1,12,13],[0,1,12,13],[0,1,12,13],[0,1,12,13],[4],[4]],
  [[0],[2],[2]],
  [[0,6],[0,6],[4,5],[0,6],[4,5],[4,5]],
  [[0,3],[0,3,4],[0,3,4],[0,3,4],[0,3,4],[2],[3],[2],[2]],
  [[2]],
  [[2]],
  [[2]],
  [[],[],[4],[],[4],[4]],
  [[4,5]],
  [[0,1,2,7],[6],[0,1,2,7,8],[6],[0,1,2,7,8],[6],[0,1,2,7,8],[6],[6]],
  [],
  [[1],[4],[4]],
  [[4],[2,3],[2,3]],
  [[0],[2],[2]],
  [[2]],
  [],
  [[],[0,5],[0,5],[0,5],[0,5],[]],
  [[2]],
  [[4]],
  [[2]],
  [[0,1,2,8,9],[0,1,2,8,9,10],[0,1,2,8,9,10],[0,1,2,8,9,10],[0,1,2,8,9,10],[6,7]],
  [[4]],
  [[4]],
  [],
  [],
  [[0],[0,5],[0,5],[2,3],[5,6],[5,6,47,48,49],[5,6,47,48,49],[5,6,47,48,49],[5,6,8,47,48,49],[2,3],[6],[2,3],[2,3]],
  [[4],[4],[10],[4],[10],[4],[10],[4],[10],[10]],
  [[2],[4]],
  [[],[0,1,2,3,8,9],[0,1,2,3,8,9],[0,1,2,3,8,9,10],[],[0,1,2,3,8,9,10],[],[0,1,2,3,8,9,10],[0,1,2,3,8,9,10,11,12],[0,1,2,3,8,9,10,11],[0,1,2,3,8,9,10,11],[],[0,1,2,3,10,11],[0,1,2,3,8,9]],
  [[0],[2],[2]],
  [[0,1],[0],[4],[0,5,6],[5,7],[4],[4],[4]],
  [[],[0,1,7,8],[0,1,7,8],[0,1,7,8],[0,1,7,8],[4],[4]],
  [[4]],
  [],
  [[0,1,2],[6,7],[0,1,2,8],[0,1,2,8],[0,1,2,8],[2,8,9],[6,7],[2,8,9],[8,9,10],[6,7],[8,9],[6,7],[11],[6,7]],
  [[4]],
  [[4]],
  [[6]],
  [[6]],
  [[],[0,1,2,6],[0,1,2,6],[0,1,2,6],[0,1,2,6],[0,1,2,6,7],[0,1,2,6,7],[0,1,2,6,7]],
  [[0,6,7,8],[0,6,7,8,9],[0,6,7,8,9],[0,6,7,8,9],[],[0,6,7,10],[0,6,7,10],[0,6,7,10]],
  [[],[],[0,1,6,7,8,9],[0,1,6,7,8,9],[0,1,6,7,8,9],[0,1,6,7,8,9,10]],
  [[9,11],[0,9,10,11,12],[6,7],[6,7],[6,7],[6,7],[6,7],[6,7]],
  [[],[0,6,7],[0,6,7],[0,6,7]],
  [[],[0,1,2,7,8],[0,1,2,7,8],[0,1,2,7,8],[0,1,2,7,8],[0,1,2,7,8],[0,1,2,7,8],[0,1,2,7,8],[0,1,2,7,8],[6],[0,1,2,7,8],[6],[0,1,2,7,8],[0,1,2,7,8],[0,1,2,7,8,9],[0,1,2,7,8,9],[0,1,2,7,8,9],[0,1,2,7,8,9],[0,1,2,7,8],[0,1,2,7,8],[0,1,2,7,8,10],[0,1,2,7,8,10],[0,1,2,7,8,10],[0,1,2,7,8,10],[6]],
  [[4]],
  [[9],[0,1,9,10],[0,1,9,10],[0,1,9,10],[0,1,9,10],[0,1,9,10],[0,1,9,10],[0,1,9,10],[0,1,9,10],[0,1,9,10],[0,1,9,10],[0,1,9,10],[8]],
  [[0,1,10,11],[0,1,10,11],[0,1,10,11],[0,1,10,11],[0,1,10,11],[0,1,10,11],[0,1,10,11],[0,1,10,11],[0,1,10,11],[8,9],[0,1,11],[0,1,10,11],[0,1,10,11],[0,1,10,11],[0,1,10,11],[0,1,10,11],[0,1,10,11],[0,1,10,11],[0,1,10,11],[0,1,10,11],[0,1,10,11],[0,1,10,11],[8,9]],
  [[0,2],[0,2],[2]],
  [[0,2],[0,2],[0,2],[2]],
  [[0],[2],[2]],
  [[2]],
  [[0,1,4],[0,1,4],[0,1,4],[0,1,4],[0,4,12],[0,4,12],[]],
  [[0,1,2,3,4,10,11],[0,1,2,3,4,10,11,12,13],[0,3,4,10,11,12,13],[0,1,3,4,10,11,12,13],[0,1,3,4,10,11,12,13,14,15,16],[0,1,3,4,10,11,12,13,14,15,16],[0,1,3,4,10,11,12,13,14,15,16],[0,1,3,4,10,11,12,13],[0,1,3,4,10,11,12,13,17],[0,1,3,4,10,11,12,13,17],[0,1,3,4,10,11,12,13,17],[0,4,10,11,12,13],[10,12,13],[10,11],[10,11]],
  [[4]],
  [[],[0,2,3],[0,2,3],[0,2,3]],
  [[0,1,2],[6,7],[0,1,2,8,9],[0,1,2,8,9],[0,1,2,8,9],[0,1,2,8,9],[0,1,2,8,9],[0,1,2,8,9],[0,1,2,8,9],[0,1,2,8,9],[6,7],[0,1,2,8,9],[0,1,2,8,9],[6,7],[0,1,2,8,9,10],[0,1,2,8,9,10],[0,1,2,8,9,10],[9,12,13],[1,8,9,10,11,12,13,99,100,101],[1,8,9,10,11,12,13,99,100,101],[1,8,9,10,11,12,13,99,100,101],[1,8,9,10,11,12,13,16,99,100,101],[1,8,9,10,11,12,13,16,99,100,101],[1,8,9,10,11,12,13,16,99,100,101],[1,8,9,10,11,12,13,16,99,100,101],[6,7],[1,8,9,10,11,12,13,16,99,100,101],[6,7],[1,8,9,10,11,12,13,16,99,100,101],[6,7],[1,8,9,10,11,12,17,99,100,101],[6,7],[13],[6,7],[6,7]],
  [[0],[2],[2]],
  [[2]],
  [[],[0,2,3,8],[0,2,3,8],[0,2,3,8,9],[0,2,3,8,9],[0,2,3,8,9],[]],
  [[2]],
  [[2]],
  [[6]],
  [[10]],
  [[2]],
  [[2]],
  [[],[2],[2]],
  [[2]],
  [[0],[2],[2]],
  [],
  [[2]],
  [[0,3,4],[0,3,4,5],[3],[0,3,4,5],[0,3,4,5],[0,3,4,5],[0,3,4,5],[0,3,4,5],[0,4,5],[2],[0,4,5],[2],[2]],
  [[1,2],[8,9],[8,9]],
  [[0],[2],[2]],
  [[0],[2],[2]],
  [],
  [],
  [],
  [],
  [],
  [],
  [],
  [],
  [],
  [],
  [],
  [],
  [],
  [],
  [],
  [],
  [],
  [],
  [],
  [],
  [],
  [],
  [],
  [],
  [],
  [],
  []
]

def hints : Hints := fun f => (hintList[f]?).getD []

end Go.Proofs.YtlfpjndbpclnnaaGreatDoor

/-
  Chapter 47z: slices.Insert as a Prim; known() returns true.
  Conditions: none. By an AI agent.
-/
namespace Go.Proofs.YtlfpjndbpclnnaaGreatDoor
open Go Eng

theorem mixed : Tryz.prog.follows .mixedOrders = true := by kernel_rfl

def zIns0 : List Value := [(.string (mk [])), (.string (mk []))]
theorem insOK0 : InsOK Tryz.prog hints 42 27 3 75 zIns0 56 57 where
  mixed := mixed
  body := fun C n a0 a1 a2 H => by kernel_rfl
  hS := Tryz.underlying27
  hI := Tryz.underlying3
  hz := by kernel_rfl
  hsz := by kernel_rfl
  ovl := ⟨Tryz.f56, by kernel_rfl, by decide, by kernel_rfl, by kernel_rfl, by kernel_rfl, by kernel_rfl⟩

noncomputable def prims0 : Prims := fun f => if f = 42 then some (insP Tryz.prog hints 42 75 zIns0) else if f = 29 then some cloneP else if f = 45 then some atoiV else if f = 39 then some itoaV else if f = 38 then some keysV else if f = 37 then some sortedV else none

theorem prims0_ok : PrimsOK Tryz.prog prims0 := by
  intro f p h
  unfold prims0 at h
  split at h
  · rename_i hf
    have e := Option.some.inj h
    subst hf
    rw [← e]
    exact ins_prim insOK0
  · skip
    split at h
    · rename_i hf
      have e := Option.some.inj h
      subst hf
      rw [← e]
      exact clonePrim
    · skip
      split at h
      · rename_i hf
        have e := Option.some.inj h
        subst hf
        rw [← e]
        exact atoi_prim
      · skip
        split at h
        · rename_i hf
          have e := Option.some.inj h
          subst hf
          rw [← e]
          exact itoa_prim
        · skip
          split at h
          · rename_i hf
            have e := Option.some.inj h
            subst hf
            rw [← e]
            exact keys_prim
          · skip
            split at h
            · rename_i hf
              have e := Option.some.inj h
              subst hf
              rw [← e]
              exact sorted_prim
            · skip
              cases h

set_option maxHeartbeats 0 in
theorem known_run : (dCallF Tryz.prog prims0 hints 60 5 [] H0).map (·.1) = some (.bool true) := by kernel_rfl

noncomputable def prims1 : Prims := fun f => if f = 5 then some trueP else prims0 f

theorem prims1_ok : PrimsOK Tryz.prog prims1 := by
  intro f p h
  unfold prims1 at h
  split at h
  · rename_i hf
    have e := Option.some.inj h
    subst hf
    rw [← e]
    exact true_primF prims0_ok mixed known_run
  · exact prims0_ok f p h

/-- What a call gives. -/
noncomputable def CC : CallF := D Tryz.prog prims1 hints

end Go.Proofs.YtlfpjndbpclnnaaGreatDoor

/-
  Names of the seat's functions and types (a program of ours printed it).
  Conditions: none. By an AI agent.
-/
namespace Go.Proofs.YtlfpjndbpclnnaaGreatDoor
open Go
def F.main_main : FuncId := 0
def F.gosem_cut : FuncId := 1
def F.gosem_cut_init : FuncId := 2
def F.law_IdsPlays : FuncId := 3
def F.law_small : FuncId := 4
def F.law_known : FuncId := 5
def F.ids_New : FuncId := 6
def F.law_names : FuncId := 7
def F.law_Giver_give : FuncId := 8
def F.law_gives : FuncId := 9
def F.ids_Giver_Lose : FuncId := 10
def F.law_Giver_back : FuncId := 11
def F.law_returns : FuncId := 12
def F.law_take : FuncId := 13
def F.law_takes : FuncId := 14
def F.model_Model_Put : FuncId := 15
def F.ids_Giver_Copy : FuncId := 16
def F.ids_Giver_Give : FuncId := 17
def F.law_alike : FuncId := 18
def F.model_Equal : FuncId := 19
def F.law_nexts : FuncId := 20
def F.ids_Giver_Left : FuncId := 21
def F.law_next : FuncId := 22
def F.ids_Giver_none : FuncId := 23
def F.law_decimal : FuncId := 24
def F.ids_Giver_Return : FuncId := 25
def F.ids_Take : FuncId := 26
def F.model_Model_at : FuncId := 27
def F.model_Model_set : FuncId := 28
def F.maps_Clone_Block : FuncId := 29
def F.ids_Next : FuncId := 30
def F.ids_Giver_set : FuncId := 31
def F.model_Model_Len : FuncId := 32
def F.slices_Equal_Pair : FuncId := 33
def F.model_Model_Pairs : FuncId := 34
def F.model_Model_Get : FuncId := 35
def F.law_counter : FuncId := 36
def F.slices_Sorted_string : FuncId := 37
def F.maps_Keys_Block : FuncId := 38
def F.strconv_Itoa : FuncId := 39
def F.model_check : FuncId := 40
def F.model_Model_place : FuncId := 41
def F.slices_Insert_Pair : FuncId := 42
def F.maps_clone : FuncId := 43
def F.ids_check : FuncId := 44
def F.strconv_Atoi : FuncId := 45
def F.slices_Clone_Pair : FuncId := 46
def F.slices_Collect_string : FuncId := 47
def F.slices_Sort_string : FuncId := 48
def F.maps_Keys_Block_1 : FuncId := 49
def F.internal_strconv_Itoa : FuncId := 50
def F.slices_ContainsFunc_string : FuncId := 51
def F.model_check_1 : FuncId := 52
def F.slices_BinarySearchFunc_string : FuncId := 53
def F.model_Model_place_1 : FuncId := 54
def F.keys_Compare : FuncId := 55
def F.slices_overlaps_Pair : FuncId := 56
def F.slices_rotateRight_Pair : FuncId := 57
def F.internal_strconv_Atoi : FuncId := 58
def F.strconv_toError : FuncId := 59
def F.slices_AppendSeq_string : FuncId := 60
def F.slices_pdqsortOrdered_string : FuncId := 61
def F.math_bits_Len : FuncId := 62
def F.internal_strconv_FormatInt : FuncId := 63
def F.slices_IndexFunc_string : FuncId := 64
def F.strings_Compare : FuncId := 65
def F.slices_rotateLeft_Pair : FuncId := 66
def F.internal_strconv_ParseInt : FuncId := 67
def F.strconv_syntaxError : FuncId := 68
def F.strconv_rangeError : FuncId := 69
def F.strconv_baseError : FuncId := 70
def F.strconv_bitSizeError : FuncId := 71
def F.slices_insertionSortOrdered_string : FuncId := 72
def F.slices_heapSortOrdered_string : FuncId := 73
def F.slices_breakPatternsOrdered_string : FuncId := 74
def F.slices_choosePivotOrdered_string : FuncId := 75
def F.slices_reverseRangeOrdered_string : FuncId := 76
def F.slices_partialInsertionSortOrdered_string : FuncId := 77
def F.cmp_Less_string : FuncId := 78
def F.slices_partitionEqualOrdered_string : FuncId := 79
def F.slices_partitionOrdered_string : FuncId := 80
def F.math_bits_Len32 : FuncId := 81
def F.math_bits_Len64 : FuncId := 82
def F.internal_strconv_small : FuncId := 83
def F.internal_strconv_numDigits : FuncId := 84
def F.internal_strconv_formatBase10 : FuncId := 85
def F.internal_strconv_formatBits : FuncId := 86
def F.internal_bytealg_CompareString : FuncId := 87
def F.slices_Reverse_Pair : FuncId := 88
def F.internal_strconv_ParseUint : FuncId := 89
def F.internal_stringslite_Clone : FuncId := 90
def F.errors_New : FuncId := 91
def F.slices_siftDownOrdered_string : FuncId := 92
def F.slices_nextPowerOfTwo : FuncId := 93
def F.slices_xorshift_Next : FuncId := 94
def F.slices_medianAdjacentOrdered_string : FuncId := 95
def F.slices_medianOrdered_string : FuncId := 96
def F.cmp_isNaN_string : FuncId := 97
def F.internal_strconv_log10Pow2 : FuncId := 98
def F.internal_strconv_bool2_int : FuncId := 99
def F.internal_strconv_isPowerOfTwo : FuncId := 100
def F.math_bits_TrailingZeros : FuncId := 101
def F.internal_bytealg_abigen_runtime_cmpstring : FuncId := 102
def F.internal_strconv_lower : FuncId := 103
def F.internal_strconv_underscoreOK : FuncId := 104
def F.slices_order2Ordered_string : FuncId := 105
def F.math_bits_TrailingZeros32 : FuncId := 106
def F.math_bits_TrailingZeros64 : FuncId := 107
def F.runtime_boundsError_Error : FuncId := 108
def F.runtime_boundsError_RuntimeError : FuncId := 109
def F.runtime_errorString_Error : FuncId := 110
def F.runtime_errorString_RuntimeError : FuncId := 111
def F.runtime_plainError_Error : FuncId := 112
def F.runtime_plainError_RuntimeError : FuncId := 113
def F.runtime_errorAddressString_Error : FuncId := 114
def F.runtime_errorAddressString_RuntimeError : FuncId := 115
def F.runtime_TypeAssertionError_Error : FuncId := 116
def F.runtime_TypeAssertionError_RuntimeError : FuncId := 117
def F.runtime_PanicNilError_Error : FuncId := 118
def F.runtime_PanicNilError_RuntimeError : FuncId := 119
def F.internal_abi_Type_Align : FuncId := 120
def F.internal_runtime_maps_unhashableTypeError_Error : FuncId := 121
def F.internal_runtime_maps_unhashableTypeError_RuntimeError : FuncId := 122
def F.internal_strconv_Error_Error : FuncId := 123
def F.strconv_NumError_Error : FuncId := 124
def F.errors_errorString_Error : FuncId := 125
def F.internal_abi_Kind_String : FuncId := 126
def F.var_s_door_gosem_cut_vars_holds_initialisers_alone_see_the_manifest_s_row_cutvarsword_look_11_test_files_too : FuncId := 127
def F.var_s_door_internal_strconv_uint64pow10_is_laid_by_its_own_initialiser_plain_data_look_11 : FuncId := 128
def F.var_s_door_math_bits_deBruijn32tab_is_laid_by_its_own_initialiser_plain_data_look_11 : FuncId := 129
def F.var_s_door_math_bits_deBruijn64tab_is_laid_by_its_own_initialiser_plain_data_look_11 : FuncId := 130
def F.var_s_door_strconv_ErrRange_is_laid_by_its_own_call_of_errors_New_on_one_literal_look_11 : FuncId := 131
def F.var_s_door_strconv_ErrSyntax_is_laid_by_its_own_call_of_errors_New_on_one_literal_look_11 : FuncId := 132
def F.var_s_door_the_look_of_gosem_cut_vars_went_over_the_folder_that_the_caller_named_as_the_repository_s_root_look_11 : FuncId := 133
def F.gosem_cut_vars : FuncId := 134
def T.tuple : TypeId := 0
def T.func : TypeId := 1
def T.int64 : TypeId := 2
def T.int : TypeId := 3
def T.bool : TypeId := 4
def T.uint8 : TypeId := 5
def T.internal_abi_BoundsErrorCode : TypeId := 6
def T.struct_x_int64_y_int_signed_bool_code_abi_BoundsErrorCode : TypeId := 7
def T.runtime_boundsError : TypeId := 8
def T.string : TypeId := 9
def T.runtime_errorString : TypeId := 10
def T.runtime_plainError : TypeId := 11
def T.uintptr : TypeId := 12
def T.struct_msg_string_addr_uintptr : TypeId := 13
def T.runtime_errorAddressString : TypeId := 14
def T.p_runtime_TypeAssertionError : TypeId := 15
def T.p_runtime_PanicNilError : TypeId := 16
def T.p_abi_Type : TypeId := 17
def T.struct_typ_abi_Type : TypeId := 18
def T.internal_runtime_maps_unhashableTypeError : TypeId := 19
def T.interface : TypeId := 20
def T.int32 : TypeId := 21
def T.n2_int : TypeId := 22
def T.sl_ticketlinelaw_Act : TypeId := 23
def T.func_1 : TypeId := 24
def T.func_2 : TypeId := 25
def T.p_model_Model : TypeId := 26
def T.sl_api_Pair : TypeId := 27
def T.struct_list_api_Pair : TypeId := 28
def T.model_Model : TypeId := 29
def T.p_ids_Giver : TypeId := 30
def T.n2_ids_Giver : TypeId := 31
def T.p_ticketlinelaw_Giver : TypeId := 32
def T.n2_ticketlinelaw_Giver : TypeId := 33
def T.api_Errno : TypeId := 34
def T.tuple_1 : TypeId := 35
def T.func_3 : TypeId := 36
def T.map_string_int : TypeId := 37
def T.struct_Size_int_Left_map_string_int : TypeId := 38
def T.law_Giver : TypeId := 39
def T.sl_string : TypeId := 40
def T.func_4 : TypeId := 41
def T.struct_What_int_N_int_Two_bool_Name_string_Value_string : TypeId := 42
def T.law_Act : TypeId := 43
def T.tuple_2 : TypeId := 44
def T.func_5 : TypeId := 45
def T.func_6 : TypeId := 46
def T.func_7 : TypeId := 47
def T.func_8 : TypeId := 48
def T.struct_From_int_N_int : TypeId := 49
def T.api_Block : TypeId := 50
def T.tuple_3 : TypeId := 51
def T.func_9 : TypeId := 52
def T.func_10 : TypeId := 53
def T.func_11 : TypeId := 54
def T.func_12 : TypeId := 55
def T.tuple_4 : TypeId := 56
def T.func_13 : TypeId := 57
def T.func_14 : TypeId := 58
def T.func_15 : TypeId := 59
def T.func_16 : TypeId := 60
def T.func_17 : TypeId := 61
def T.func_18 : TypeId := 62
def T.map_string_api_Block : TypeId := 63
def T.struct_size_int_left_map_string_api_Block : TypeId := 64
def T.ids_Giver : TypeId := 65
def T.sl_int : TypeId := 66
def T.func_19 : TypeId := 67
def T.func_20 : TypeId := 68
def T.tuple_5 : TypeId := 69
def T.func_21 : TypeId := 70
def T.tuple_6 : TypeId := 71
def T.func_22 : TypeId := 72
def T.func_23 : TypeId := 73
def T.struct_Key_string_Value_string : TypeId := 74
def T.api_Pair : TypeId := 75
def T.func_24 : TypeId := 76
def T.func_25 : TypeId := 77
def T.func_26 : TypeId := 78
def T.func_27 : TypeId := 79
def T.func_28 : TypeId := 80
def T.func_29 : TypeId := 81
def T.tuple_7 : TypeId := 82
def T.func_30 : TypeId := 83
def T.func_31 : TypeId := 84
def T.sl_uint8 : TypeId := 85
def T.func_32 : TypeId := 86
def T.func_33 : TypeId := 87
def T.iter_Seq_string : TypeId := 88
def T.func_34 : TypeId := 89
def T.func_35 : TypeId := 90
def T.func_36 : TypeId := 91
def T.tuple_8 : TypeId := 92
def T.func_37 : TypeId := 93
def T.func_38 : TypeId := 94
def T.func_39 : TypeId := 95
def T.interface_1 : TypeId := 96
def T.error : TypeId := 97
def T.tuple_9 : TypeId := 98
def T.func_40 : TypeId := 99
def T.func_41 : TypeId := 100
def T.func_42 : TypeId := 101
def T.func_43 : TypeId := 102
def T.func_44 : TypeId := 103
def T.func_45 : TypeId := 104
def T.func_46 : TypeId := 105
def T.func_47 : TypeId := 106
def T.func_48 : TypeId := 107
def T.func_49 : TypeId := 108
def T.func_50 : TypeId := 109
def T.func_51 : TypeId := 110
def T.func_52 : TypeId := 111
def T.uint : TypeId := 112
def T.func_53 : TypeId := 113
def T.func_54 : TypeId := 114
def T.internal_strconv_Error : TypeId := 115
def T.tuple_10 : TypeId := 116
def T.func_55 : TypeId := 117
def T.p_strconv_NumError : TypeId := 118
def T.func_56 : TypeId := 119
def T.func_57 : TypeId := 120
def T.func_58 : TypeId := 121
def T.slices_sortedHint : TypeId := 122
def T.tuple_11 : TypeId := 123
def T.func_59 : TypeId := 124
def T.func_60 : TypeId := 125
def T.func_61 : TypeId := 126
def T.func_62 : TypeId := 127
def T.func_63 : TypeId := 128
def T.func_64 : TypeId := 129
def T.uint32 : TypeId := 130
def T.func_65 : TypeId := 131
def T.uint64 : TypeId := 132
def T.n24_uint8 : TypeId := 133
def T.func_66 : TypeId := 134
def T.tuple_12 : TypeId := 135
def T.func_67 : TypeId := 136
def T.func_68 : TypeId := 137
def T.tuple_13 : TypeId := 138
def T.func_69 : TypeId := 139
def T.func_70 : TypeId := 140
def T.struct_Func_string_Num_string_Err_error : TypeId := 141
def T.strconv_NumError : TypeId := 142
def T.func_71 : TypeId := 143
def T.slices_xorshift : TypeId := 144
def T.func_72 : TypeId := 145
def T.func_73 : TypeId := 146
def T.func_74 : TypeId := 147
def T.p_int : TypeId := 148
def T.func_75 : TypeId := 149
def T.func_76 : TypeId := 150
def T.func_77 : TypeId := 151
def T.n20_uint64 : TypeId := 152
def T.n65_uint8 : TypeId := 153
def T.func_78 : TypeId := 154
def T.func_79 : TypeId := 155
def T.p_uint8 : TypeId := 156
def T.p_errors_errorString : TypeId := 157
def T.struct_s_string : TypeId := 158
def T.errors_errorString : TypeId := 159
def T.p_slices_xorshift : TypeId := 160
def T.func_80 : TypeId := 161
def T.n32_uint8 : TypeId := 162
def T.n64_uint8 : TypeId := 163
def T.func_81 : TypeId := 164
def T.struct_interface_abi_Type_concrete_abi_Type_asserted_abi_Typ : TypeId := 165
def T.runtime_TypeAssertionError : TypeId := 166
def T.n0_runtime_PanicNilError : TypeId := 167
def T.struct_0_runtime_PanicNilError : TypeId := 168
def T.runtime_PanicNilError : TypeId := 169
def T.internal_abi_TFlag : TypeId := 170
def T.internal_abi_Kind : TypeId := 171
def T.func_82 : TypeId := 172
def T.internal_abi_NameOff : TypeId := 173
def T.internal_abi_TypeOff : TypeId := 174
def T.struct_Size_uintptr_PtrBytes_uintptr_Hash_uint32_TFlag_abi_T : TypeId := 175
def T.internal_abi_Type : TypeId := 176
def T.unsafe_Pointer : TypeId := 177
end Go.Proofs.YtlfpjndbpclnnaaGreatDoor

/-
  The seat's functions as terms over the engine's combinators (a program of ours printed it).
  Conditions: none. By an AI agent.
-/
set_option linter.unusedVariables false
namespace Go.Proofs.YtlfpjndbpclnnaaGreatDoor
open Go Eng

/-! ticketline.ticketlinelaw47.small -/

noncomputable def s_law_small (mg : GT) (mc : CT) (ms : ST) (P : Program) (C : CallF) (L0 : Value → Value → Value → AHeap → K → Res) (a0 : Value) (a1 : Value) (H : AHeap) (K0 : K) : Res :=
ms (fun k1 =>
L0 a0 a1 (.int .i64 0) H (blkK [0, 1] 0 k1)) (seqK (fun tT h1 =>
bareK (lenS (get tT 0)) h1 fun t34 h2 =>
bareK (xbin P .leq T.int (.tmp 34) (.tmp 35) t34 (get tT 1)) h2 fun t36 h3 =>
K0 .ret [(4, t36)] h3) K0)

noncomputable def s_law_small_b0 (mg : GT) (mc : CT) (ms : ST) (P : Program) (C : CallF) (L0 : Value → Value → Value → AHeap → K → Res) (v0 : Value) (v1 : Value) (v5 : Value) (H : AHeap) (k : K) : Res :=
bareK (lenS v0) H fun t8 h1 =>
bareK (xbin P .lss T.int (.tmp 6) (.tmp 8) v5 t8) h1 fun t9 h2 =>
mg t9 true (fun o2 => o2 v5 h2) h2 fun t11 h3 =>
mg t9 true (fun o3 => o3 v1 h3) h3 fun t12 h4 =>
mg t9 true (fun o4 => bareK (xbin P .lss T.int (.tmp 11) (.tmp 12) t11 t12) h4 o4) h4 fun t13 h5 =>
pickK t9 t13 (.bool false) fun t14 =>
mc t14 (fun k5 => k5 .normal [(0, v0), (1, v1), (5, v5)] h5) (fun k5 =>
k5 (.exit 0) [(14, t14), (13, t13), (12, t12), (11, t11), (10, t9), (9, t9), (8, t8), (7, v0), (6, v5), (0, v0), (1, v1), (5, v5)] h5) (seqK (fun tT h6 =>
ms (fun k6 =>
bareK (ixS 5 (get tT 0) (get tT 5)) h6 fun t19 h7 =>
bareK (fad 3 t19) h7 fun t20 h8 =>
bareK (ld1 h8 t20) h8 fun t21 h9 =>
bareK (lenT t21) h9 fun t22 h10 =>
bareK (xbin P .gtr T.int (.tmp 22) (.const (.int .i64 30)) t22 (.int .i64 30)) h10 fun t23 h11 =>
mg t23 false (fun o7 => o7 (get tT 0) h11) h11 fun t25 h12 =>
mg t23 false (fun o8 => o8 (get tT 5) h12) h12 fun t26 h13 =>
mg t23 false (fun o9 => bareK (ixS 5 t25 t26) h13 o9) h13 fun t27 h14 =>
mg t23 false (fun o10 => bareK (fad 4 t27) h14 o10) h14 fun t28 h15 =>
mg t23 false (fun o11 => bareK (ld1 h15 t28) h15 o11) h15 fun t29 h16 =>
mg t23 false (fun o12 => bareK (lenT t29) h16 o12) h16 fun t30 h17 =>
mg t23 false (fun o13 => bareK (xbin P .gtr T.int (.tmp 30) (.const (.int .i64 44)) t30 (.int .i64 44)) h17 o13) h17 fun t31 h18 =>
pickK t23 (.bool true) t31 fun t32 =>
mc t32 (fun k14 => k14 .ret [(4, (.bool false))] h18) (fun k14 =>
k14 .normal [(0, (get tT 0)), (1, (get tT 1)), (5, (get tT 5))] h18) (blkK [0, 1, 5] 1 k6)) (seqK (fun tT_1 h19 =>
bareK (xbin P .add T.int (.tmp 15) (.const (.int .i64 1)) (get tT_1 5) (.int .i64 1)) h19 fun t16 h20 =>
k .normal [(0, (get tT_1 0)), (1, (get tT_1 1)), (5, t16)] h20) (afterK [0, 1, 5] k))) (afterK [0, 1, 5] k))

theorem s_law_small_eq (M : CombL) (C : CallF) (LP : LoopH) (a0 : Value) (a1 : Value) (H : AHeap) : dBodyL M Tryz.prog hints C LP F.law_small [a0, a1] H = s_law_small M.b.g M.c M.s Tryz.prog C (fun v0 v1 v5 H k => loopL M Tryz.prog hints C LP F.law_small 0 [(0, v0), (1, v1), (5, v5)] H k) a0 a1 H (endK Tryz.prog [.tmp 4]) := by kernel_rfl

theorem s_law_small_b0_eq (M : CombL) (C : CallF) (LP : LoopH) (v0 : Value) (v1 : Value) (v5 : Value) (H : AHeap) (k : K) : bodyL M Tryz.prog hints C LP F.law_small 0 [(0, v0), (1, v1), (5, v5)] H (afterK [0, 1, 5] k) = s_law_small_b0 M.b.g M.c M.s Tryz.prog C (fun v0 v1 v5 H k => loopL M Tryz.prog hints C LP F.law_small 0 [(0, v0), (1, v1), (5, v5)] H k) v0 v1 v5 H k := by kernel_rfl

/-! ticketline.ids.New -/

noncomputable def s_ids_New (mg : GT) (mc : CT) (ms : ST) (P : Program) (C : CallF) (a0 : Value) (H : AHeap) (K0 : K) : Res :=
bareK (xbin P .lss T.int (.tmp 4) (.const (.int .i64 1)) a0 (.int .i64 1)) H fun t5 h1 =>
mg t5 false (fun o1 => o1 a0 h1) h1 fun t7 h2 =>
mg t5 false (fun o2 => bareK (xbin P .gtr T.int (.tmp 7) (.const (.int .i64 1000)) t7 (.int .i64 1000)) h2 o2) h2 fun t8 h3 =>
pickK t5 (.bool true) t8 fun t9 =>
mc t9 (fun k3 => k3 .ret [(2, (.pointer none)), (3, (.int .i64 2))] h3) (fun k3 =>
k3 .normal [(0, a0)] h3) (seqK (fun tT h4 =>
bothK (xmakeMap P T.map_string_api_Block none h4) fun t11 h5 =>
bareK (bldS #[(.int .i64 0), (.map none)] [(0, 1), (1, 1)] [(0, (get tT 0)), (1, t11)]) h5 fun t12 h6 =>
bothK (newv T.ids_Giver t12 h6) fun t13 h7 =>
K0 .ret [(2, t13), (3, (.int .i64 0))] h7) K0)

theorem s_ids_New_eq (M : CombL) (C : CallF) (LP : LoopH) (a0 : Value) (H : AHeap) : dBodyL M Tryz.prog hints C LP F.ids_New [a0] H = s_ids_New M.b.g M.c M.s Tryz.prog C a0 H (endK Tryz.prog [.tmp 2, .tmp 3]) := by kernel_rfl

/-! ticketline.ticketlinelaw47.names -/

noncomputable def s_law_names (mg : GT) (mc : CT) (ms : ST) (P : Program) (C : CallF) (L0 : Value → Value → Value → AHeap → K → Res) (L1 : Value → Value → Value → Value → AHeap → K → Res) (a0 : Value) (H : AHeap) (K0 : K) : Res :=
ms (fun k1 =>
L0 a0 (.slice none 0 0) (.int .i64 0) H (blkK [3] 0 k1)) (seqK (fun tT h1 =>
K0 .ret [(2, (get tT 3))] h1) K0)

noncomputable def s_law_names_b0 (mg : GT) (mc : CT) (ms : ST) (P : Program) (C : CallF) (L0 : Value → Value → Value → AHeap → K → Res) (L1 : Value → Value → Value → Value → AHeap → K → Res) (v0 : Value) (v3 : Value) (v4 : Value) (H : AHeap) (k : K) : Res :=
bareK (lenS v0) H fun t9 h1 =>
bareK (xbin P .lss T.int (.tmp 7) (.tmp 9) v4 t9) h1 fun t10 h2 =>
mc t10 (fun k2 => k2 .normal [(0, v0), (3, v3), (4, v4)] h2) (fun k2 =>
k2 (.exit 0) [(10, t10), (9, t9), (8, v0), (7, v4), (0, v0), (3, v3), (4, v4)] h2) (seqK (fun tT h3 =>
ms (fun k3 =>
ms (fun k4 =>
L1 (get tT 0) (get tT 3) (get tT 4) (.int .i64 0) h3 (blkK [0, 3, 4, 5] 2 k4)) (seqK (fun tT_1 h4 =>
bareK (lenS (get tT_1 3)) h4 fun t33 h5 =>
bareK (xbin P .eql T.int (.tmp 31) (.tmp 33) (get tT_1 5) t33) h5 fun t34 h6 =>
mg t34 false (fun o5 => o5 (get tT_1 3) h6) h6 fun t36 h7 =>
mg t34 false (fun o6 => o6 (get tT_1 5) h7) h7 fun t37 h8 =>
mg t34 false (fun o7 => bareK (ixS 1 t36 t37) h8 o7) h8 fun t38 h9 =>
mg t34 false (fun o8 => bareK (ld1 h9 t38) h9 o8) h9 fun t39 h10 =>
mg t34 false (fun o9 => o9 (get tT_1 0) h10) h10 fun t40 h11 =>
mg t34 false (fun o10 => o10 (get tT_1 4) h11) h11 fun t41 h12 =>
mg t34 false (fun o11 => bareK (ixS 5 t40 t41) h12 o11) h12 fun t42 h13 =>
mg t34 false (fun o12 => bareK (fad 3 t42) h13 o12) h13 fun t43 h14 =>
mg t34 false (fun o13 => bareK (ld1 h14 t43) h14 o13) h14 fun t44 h15 =>
mg t34 false (fun o14 => bareK (xbin P .neq T.string (.tmp 39) (.tmp 44) t39 t44) h15 o14) h15 fun t45 h16 =>
pickK t34 (.bool true) t45 fun t46 =>
checkK true <|
mc t46 (fun k15 => bareK (ixS 5 (get tT_1 0) (get tT_1 4)) h16 fun t49 h17 =>
bareK (fad 3 t49) h17 fun t50 h18 =>
bareK (ld1 h18 t50) h18 fun t51 h19 =>
bothK (bldL T.string [(.string (mk []))] 1 [(0, t51)] h19) fun t52 h20 =>
bareK (slS T.string 1 (get tT_1 3) (some (get tT_1 5)) none none h20) h20 fun t55 h21 =>
bothK (app T.string 1 16 t52 (srcS 1 t55 h21) h21) fun t56 h22 =>
checkK true <|
bareK (slS T.string 1 (get tT_1 3) none (some (get tT_1 5)) none h22) h22 fun t59 h23 =>
bothK (app T.string 1 16 (.slice none 0 0) (srcS 1 t59 h23) h23) fun t60 h24 =>
bothK (app T.string 1 16 t60 (srcS 1 t56 h24) h24) fun t62 h25 =>
k15 .normal [(0, (get tT_1 0)), (3, t62), (4, (get tT_1 4))] h25) (fun k15 =>
k15 .normal [(0, (get tT_1 0)), (3, (get tT_1 3)), (4, (get tT_1 4))] h16) (blkK [0, 3, 4] 1 k3)) (blkK [0, 3, 4] 1 k3))) (seqK (fun tT_2 h26 =>
bareK (xbin P .add T.int (.tmp 11) (.const (.int .i64 1)) (get tT_2 4) (.int .i64 1)) h26 fun t12 h27 =>
k .normal [(0, (get tT_2 0)), (3, (get tT_2 3)), (4, t12)] h27) (afterK [0, 3, 4] k))) (afterK [0, 3, 4] k))

noncomputable def s_law_names_b1 (mg : GT) (mc : CT) (ms : ST) (P : Program) (C : CallF) (L0 : Value → Value → Value → AHeap → K → Res) (L1 : Value → Value → Value → Value → AHeap → K → Res) (v0 : Value) (v3 : Value) (v4 : Value) (v5 : Value) (H : AHeap) (k : K) : Res :=
bareK (lenS v3) H fun t15 h4 =>
bareK (xbin P .lss T.int (.tmp 13) (.tmp 15) v5 t15) h4 fun t16 h5 =>
mg t16 true (fun o5 => o5 v3 h5) h5 fun t18 h6 =>
mg t16 true (fun o6 => o6 v5 h6) h6 fun t19 h7 =>
mg t16 true (fun o7 => bareK (ixS 1 t18 t19) h7 o7) h7 fun t20 h8 =>
mg t16 true (fun o8 => bareK (ld1 h8 t20) h8 o8) h8 fun t21 h9 =>
mg t16 true (fun o9 => o9 v0 h9) h9 fun t22 h10 =>
mg t16 true (fun o10 => o10 v4 h10) h10 fun t23 h11 =>
mg t16 true (fun o11 => bareK (ixS 5 t22 t23) h11 o11) h11 fun t24 h12 =>
mg t16 true (fun o12 => bareK (fad 3 t24) h12 o12) h12 fun t25 h13 =>
mg t16 true (fun o13 => bareK (ld1 h13 t25) h13 o13) h13 fun t26 h14 =>
mg t16 true (fun o14 => bareK (xbin P .lss T.string (.tmp 21) (.tmp 26) t21 t26) h14 o14) h14 fun t27 h15 =>
pickK t16 t27 (.bool false) fun t28 =>
checkK true <|
mc t28 (fun k15 => k15 .normal [(0, v0), (3, v3), (4, v4), (5, v5)] h15) (fun k15 =>
k15 (.exit 2) [(28, t28), (27, t27), (26, t26), (25, t25), (24, t24), (23, t23), (22, t22), (21, t21), (20, t20), (19, t19), (18, t18), (17, t16), (16, t16), (15, t15), (14, v3), (13, v5), (0, v0), (3, v3), (4, v4), (5, v5)] h15) (seqK (fun tT h16 =>
ms (fun k16 =>
bareK (xbin P .add T.int (.tmp 29) (.const (.int .i64 1)) (get tT 5) (.int .i64 1)) h16 fun t30 h17 =>
k16 .normal [(0, (get tT 0)), (3, (get tT 3)), (4, (get tT 4)), (5, t30)] h17) (afterK [0, 3, 4, 5] k)) (afterK [0, 3, 4, 5] k))

theorem s_law_names_eq (M : CombL) (C : CallF) (LP : LoopH) (a0 : Value) (H : AHeap) : dBodyL M Tryz.prog hints C LP F.law_names [a0] H = s_law_names M.b.g M.c M.s Tryz.prog C (fun v0 v3 v4 H k => loopL M Tryz.prog hints C LP F.law_names 0 [(0, v0), (3, v3), (4, v4)] H k) (fun v0 v3 v4 v5 H k => loopL M Tryz.prog hints C LP F.law_names 1 [(0, v0), (3, v3), (4, v4), (5, v5)] H k) a0 H (endK Tryz.prog [.tmp 2]) := by kernel_rfl

theorem s_law_names_b0_eq (M : CombL) (C : CallF) (LP : LoopH) (v0 : Value) (v3 : Value) (v4 : Value) (H : AHeap) (k : K) : bodyL M Tryz.prog hints C LP F.law_names 0 [(0, v0), (3, v3), (4, v4)] H (afterK [0, 3, 4] k) = s_law_names_b0 M.b.g M.c M.s Tryz.prog C (fun v0 v3 v4 H k => loopL M Tryz.prog hints C LP F.law_names 0 [(0, v0), (3, v3), (4, v4)] H k) (fun v0 v3 v4 v5 H k => loopL M Tryz.prog hints C LP F.law_names 1 [(0, v0), (3, v3), (4, v4), (5, v5)] H k) v0 v3 v4 H k := by kernel_rfl

theorem s_law_names_b1_eq (M : CombL) (C : CallF) (LP : LoopH) (v0 : Value) (v3 : Value) (v4 : Value) (v5 : Value) (H : AHeap) (k : K) : bodyL M Tryz.prog hints C LP F.law_names 1 [(0, v0), (3, v3), (4, v4), (5, v5)] H (afterK [0, 3, 4, 5] k) = s_law_names_b1 M.b.g M.c M.s Tryz.prog C (fun v0 v3 v4 H k => loopL M Tryz.prog hints C LP F.law_names 0 [(0, v0), (3, v3), (4, v4)] H k) (fun v0 v3 v4 v5 H k => loopL M Tryz.prog hints C LP F.law_names 1 [(0, v0), (3, v3), (4, v4), (5, v5)] H k) v0 v3 v4 v5 H k := by kernel_rfl

/-! (*ticketline.ticketlinelaw47.Giver).give -/

noncomputable def s_law_Giver_give (mg : GT) (mc : CT) (ms : ST) (P : Program) (C : CallF) (L0 : Value → Value → Value → Value → AHeap → K → Res) (a0 : Value) (a1 : Value) (a2 : Value) (H : AHeap) (K0 : K) : Res :=
enterK C F.law_next [a1, a2] H fun t17 h1 =>
bareK (xextract t17 0) h1 fun t18 h2 =>
bareK (xextract t17 1) h2 fun t19 h3 =>
bareK (xbin P .neq T.int (.tmp 20) (.const (.int .i64 0)) t19 (.int .i64 0)) h3 fun t21 h4 =>
mc t21 (fun k1 => k1 .ret [(6, (.int .i64 0)), (7, t19)] h4) (fun k1 =>
k1 .normal [(0, a0), (1, a1), (2, a2)] h4) (seqK (fun tT h5 =>
bareK (xnilCheck (get tT 0)) h5 fun t24 h6 =>
bareK (fad 1 t24) h6 fun t25 h7 =>
bareK (ld1 h7 t25) h7 fun t26 h8 =>
bareK (xlookup P T.map_string_int t26 (get tT 2) false h8) h8 fun t28 h9 =>
bareK (lenS t28) h9 fun t29 h10 =>
bareK (xbin P .eql T.int (.tmp 29) (.const (.int .i64 0)) t29 (.int .i64 0)) h10 fun t30 h11 =>
mc t30 (fun k2 => bareK (xnilCheck (get tT 0)) h11 fun t35 h12 =>
bareK (fad 0 t35) h12 fun t36 h13 =>
bareK (ld1 h13 t36) h13 fun t37 h14 =>
enterK C F.law_take [(get tT 1), (get tT 2), t37] h14 fun t38 h15 =>
bareK (xextract t38 0) h15 fun t39 h16 =>
bareK (xextract t38 1) h16 fun t40 h17 =>
bothK (newv T.api_Block (.agg #[(.int .i64 0), (.int .i64 0)]) h17) fun t10 h18 =>
quietK (stN 2 h18 t10 t39) fun _ h19 =>
bareK (xbin P .neq T.int (.tmp 41) (.const (.int .i64 0)) t40 (.int .i64 0)) h19 fun t42 h20 =>
mc t42 (fun k3 => k3 .ret [(6, (.int .i64 0)), (7, t40)] h20) (fun k3 =>
k3 .normal [(0, (get tT 0)), (2, (get tT 2)), (10, t10)] h20) (seqK (fun tT_1 h21 =>
ms (fun k4 =>
L0 (get tT_1 0) (get tT_1 2) (get tT_1 10) (.int .i64 0) h21 (blkK [0, 2] 0 k4)) (afterK [0, 2] k2)) (afterK [0, 2] k2))) (fun k2 =>
k2 .normal [(0, (get tT 0)), (2, (get tT 2))] h11) (seqK (fun tT_2 h22 =>
bareK (xnilCheck (get tT_2 0)) h22 fun t68 h23 =>
bareK (fad 1 t68) h23 fun t69 h24 =>
bareK (ld1 h24 t69) h24 fun t70 h25 =>
bareK (xlookup P T.map_string_int t70 (get tT_2 2) false h25) h25 fun t72 h26 =>
bareK (ixS 1 t72 (.int .i64 0)) h26 fun t73 h27 =>
bareK (ld1 h27 t73) h27 fun t74 h28 =>
bareK (xnilCheck (get tT_2 0)) h28 fun t76 h29 =>
bareK (fad 1 t76) h29 fun t77 h30 =>
bareK (ld1 h30 t77) h30 fun t78 h31 =>
bareK (xnilCheck (get tT_2 0)) h31 fun t81 h32 =>
bareK (fad 1 t81) h32 fun t82 h33 =>
bareK (ld1 h33 t82) h33 fun t83 h34 =>
bareK (xlookup P T.map_string_int t83 (get tT_2 2) false h34) h34 fun t85 h35 =>
bareK (slS T.int 1 t85 (some (.int .i64 1)) none none h35) h35 fun t86 h36 =>
bothK (app T.int 1 8 (.slice none 0 0) (srcS 1 t86 h36) h36) fun t87 h37 =>
quietK (xmapUpdate P T.map_string_int t78 (get tT_2 2) t87 h37) fun _ h38 =>
checkK (okV (some true) none h36 h37 h28 h28 && (okV (some true) none h36 h37 h28 h29 && (okV (some true) none h36 h37 h29 h30 && (okV (some true) (blockOf t77) h36 h37 h30 h31 && (okV (some true) none h36 h37 h31 h31 && true))))) <|
K0 .ret [(6, t74), (7, (.int .i64 0))] h38) K0)) K0)

noncomputable def s_law_Giver_give_b0 (mg : GT) (mc : CT) (ms : ST) (P : Program) (C : CallF) (L0 : Value → Value → Value → Value → AHeap → K → Res) (v0 : Value) (v2 : Value) (v10 : Value) (v12 : Value) (H : AHeap) (k : K) : Res :=
bareK (fad 1 v10) H fun t45 h22 =>
bareK (ld1 h22 t45) h22 fun t46 h23 =>
bareK (xbin P .lss T.int (.tmp 44) (.tmp 46) v12 t46) h23 fun t47 h24 =>
mc t47 (fun k5 => k5 .normal [(0, v0), (2, v2), (10, v10), (12, v12)] h24) (fun k5 =>
k5 (.exit 0) [(47, t47), (46, t46), (45, t45), (44, v12), (0, v0), (2, v2), (10, v10), (12, v12)] h24) (seqK (fun tT h25 =>
ms (fun k6 =>
bareK (xnilCheck (get tT 0)) h25 fun t51 h26 =>
bareK (fad 1 t51) h26 fun t52 h27 =>
bareK (ld1 h27 t52) h27 fun t53 h28 =>
bareK (xnilCheck (get tT 0)) h28 fun t56 h29 =>
bareK (fad 1 t56) h29 fun t57 h30 =>
bareK (ld1 h30 t57) h30 fun t58 h31 =>
bareK (xlookup P T.map_string_int t58 (get tT 2) false h31) h31 fun t60 h32 =>
bareK (fad 0 (get tT 10)) h32 fun t61 h33 =>
bareK (ld1 h33 t61) h33 fun t62 h34 =>
bareK (xbin P .add T.int (.tmp 62) (.tmp 63) t62 (get tT 12)) h34 fun t64 h35 =>
bothK (bldL T.int [(.int .i64 0)] 1 [(0, t64)] h35) fun t65 h36 =>
bothK (app T.int 1 8 t60 (srcS 1 t65 h36) h36) fun t66 h37 =>
quietK (xmapUpdate P T.map_string_int t53 (get tT 2) t66 h37) fun _ h38 =>
checkK (okV (some true) none h36 h37 h25 h25 && (okV (some true) none h36 h37 h25 h26 && (okV (some true) none h36 h37 h26 h27 && (okV (some true) (blockOf t52) h36 h37 h27 h28 && (okV (some true) none h36 h37 h28 h28 && true))))) <|
k6 .normal [(0, (get tT 0)), (2, (get tT 2)), (10, (get tT 10)), (12, (get tT 12))] h38) (seqK (fun tT_1 h39 =>
bareK (xbin P .add T.int (.tmp 48) (.const (.int .i64 1)) (get tT_1 12) (.int .i64 1)) h39 fun t49 h40 =>
k .normal [(0, (get tT_1 0)), (2, (get tT_1 2)), (10, (get tT_1 10)), (12, t49)] h40) (afterK [0, 2, 10, 12] k))) (afterK [0, 2, 10, 12] k))

theorem s_law_Giver_give_eq (M : CombL) (C : CallF) (LP : LoopH) (a0 : Value) (a1 : Value) (a2 : Value) (H : AHeap) : dBodyL M Tryz.prog hints C LP F.law_Giver_give [a0, a1, a2] H = s_law_Giver_give M.b.g M.c M.s Tryz.prog C (fun v0 v2 v10 v12 H k => loopL M Tryz.prog hints C LP F.law_Giver_give 0 [(0, v0), (2, v2), (10, v10), (12, v12)] H k) a0 a1 a2 H (endK Tryz.prog [.tmp 6, .tmp 7]) := by kernel_rfl

theorem s_law_Giver_give_b0_eq (M : CombL) (C : CallF) (LP : LoopH) (v0 : Value) (v2 : Value) (v10 : Value) (v12 : Value) (H : AHeap) (k : K) : bodyL M Tryz.prog hints C LP F.law_Giver_give 0 [(0, v0), (2, v2), (10, v10), (12, v12)] H (afterK [0, 2, 10, 12] k) = s_law_Giver_give_b0 M.b.g M.c M.s Tryz.prog C (fun v0 v2 v10 v12 H k => loopL M Tryz.prog hints C LP F.law_Giver_give 0 [(0, v0), (2, v2), (10, v10), (12, v12)] H k) v0 v2 v10 v12 H k := by kernel_rfl

/-! ticketline.ticketlinelaw47.gives -/

noncomputable def s_law_gives (mg : GT) (mc : CT) (ms : ST) (P : Program) (C : CallF) (a0 : Value) (a1 : Value) (a2 : Value) (a3 : Value) (a4 : Value) (H : AHeap) (K0 : K) : Res :=
enterK C F.ids_Giver_Give [a0, a1, a2] H fun t17 h1 =>
bareK (xextract t17 0) h1 fun t18 h2 =>
bareK (xextract t17 1) h2 fun t19 h3 =>
bareK (xbin P .eql T.int (.tmp 20) (.tmp 21) t18 a3) h3 fun t22 h4 =>
mg t22 true (fun o1 => o1 t19 h4) h4 fun t24 h5 =>
mg t22 true (fun o2 => o2 a4 h5) h5 fun t25 h6 =>
mg t22 true (fun o3 => bareK (xbin P .eql T.int (.tmp 24) (.tmp 25) t24 t25) h6 o3) h6 fun t26 h7 =>
pickK t22 t26 (.bool false) fun t27 =>
K0 .ret [(10, t27)] h7

theorem s_law_gives_eq (M : CombL) (C : CallF) (LP : LoopH) (a0 : Value) (a1 : Value) (a2 : Value) (a3 : Value) (a4 : Value) (H : AHeap) : dBodyL M Tryz.prog hints C LP F.law_gives [a0, a1, a2, a3, a4] H = s_law_gives M.b.g M.c M.s Tryz.prog C a0 a1 a2 a3 a4 H (endK Tryz.prog [.tmp 10]) := by kernel_rfl

/-! (*ticketline.ids.Giver).Lose -/

noncomputable def s_ids_Giver_Lose (mg : GT) (mc : CT) (ms : ST) (P : Program) (C : CallF) (a0 : Value) (H : AHeap) (K0 : K) : Res :=
enterK C F.ids_Giver_none [a0] H fun t3 h1 =>
bareK (xun P .not t3) h1 fun t4 h2 =>
mc t4 (fun k1 => bareK (xnilCheck a0) h2 fun t6 h3 =>
bareK (fad 1 t6) h3 fun t7 h4 =>
bareK (ld1 h4 t7) h4 fun t8 h5 =>
bothK (xclear P [T.map_string_api_Block] t8 h5) fun _ h6 =>
k1 .normal [] h6) (fun k1 =>
k1 .normal [] h2) K0

theorem s_ids_Giver_Lose_eq (M : CombL) (C : CallF) (LP : LoopH) (a0 : Value) (H : AHeap) : dBodyL M Tryz.prog hints C LP F.ids_Giver_Lose [a0] H = s_ids_Giver_Lose M.b.g M.c M.s Tryz.prog C a0 H (endK Tryz.prog []) := by kernel_rfl

/-! (*ticketline.ticketlinelaw47.Giver).back -/

noncomputable def s_law_Giver_back (mg : GT) (mc : CT) (ms : ST) (P : Program) (C : CallF) (L0 : Value → Value → Value → Value → Value → AHeap → K → Res) (L1 : Value → Value → Value → Value → AHeap → K → Res) (a0 : Value) (a1 : Value) (a2 : Value) (H : AHeap) (K0 : K) : Res :=
ms (fun k1 =>
L0 a0 a1 a2 (.slice none 0 0) (.int .i64 0) H (blkK [0, 1, 8] 0 k1)) (seqK (fun tT h1 =>
ms (fun k2 =>
L1 (get tT 0) (get tT 1) (get tT 8) (.int .i64 0) h1 (blkK [8] 2 k2)) (seqK (fun tT_1 h2 =>
bareK (lenS (get tT_1 8)) h2 fun t93 h3 =>
K0 .ret [(6, t93), (7, (.int .i64 0))] h3) K0)) K0)

noncomputable def s_law_Giver_back_b0 (mg : GT) (mc : CT) (ms : ST) (P : Program) (C : CallF) (L0 : Value → Value → Value → Value → Value → AHeap → K → Res) (L1 : Value → Value → Value → Value → AHeap → K → Res) (v0 : Value) (v1 : Value) (v2 : Value) (v8 : Value) (v9 : Value) (H : AHeap) (k : K) : Res :=
bareK (lenS v2) H fun t16 h1 =>
bareK (xbin P .lss T.int (.tmp 14) (.tmp 16) v9 t16) h1 fun t17 h2 =>
mc t17 (fun k2 => k2 .normal [(0, v0), (1, v1), (2, v2), (8, v8), (9, v9)] h2) (fun k2 =>
k2 (.exit 0) [(17, t17), (16, t16), (15, v2), (14, v9), (0, v0), (1, v1), (2, v2), (8, v8), (9, v9)] h2) (seqK (fun tT h3 =>
ms (fun k3 =>
bareK (xnilCheck (get tT 0)) h3 fun t21 h4 =>
bareK (fad 1 t21) h4 fun t22 h5 =>
bareK (ld1 h5 t22) h5 fun t23 h6 =>
bareK (ixS 1 (get tT 2) (get tT 9)) h6 fun t26 h7 =>
bareK (ld1 h7 t26) h7 fun t27 h8 =>
bareK (xlookup P T.map_string_int t23 t27 false h8) h8 fun t28 h9 =>
checkK true <|
bareK (lenS t28) h9 fun t30 h10 =>
bareK (xbin P .eql T.int (.tmp 30) (.const (.int .i64 0)) t30 (.int .i64 0)) h10 fun t31 h11 =>
mc t31 (fun k4 => k4 (.exit 1) ((31, t31) :: (30, t30) :: (29, t28) :: (10, t28) :: (28, t28) :: (27, t27) :: (26, t26) :: (25, (get tT 9)) :: (24, (get tT 2)) :: (23, t23) :: (22, t22) :: (21, t21) :: (20, (get tT 0)) :: tT) h11) (fun k4 =>
k4 .normal [(0, (get tT 0)), (1, (get tT 1)), (2, (get tT 2)), (8, (get tT 8)), (9, (get tT 9)), (10, t28)] h11) (seqK (fun tT_1 h12 =>
bareK (ixS 1 (get tT_1 2) (get tT_1 9)) h12 fun t36 h13 =>
bareK (ld1 h13 t36) h13 fun t37 h14 =>
enterK C F.law_next [(get tT_1 1), t37] h14 fun t38 h15 =>
bareK (xextract t38 0) h15 fun t39 h16 =>
bareK (xextract t38 1) h16 fun t40 h17 =>
bareK (xbin P .neq T.int (.tmp 41) (.const (.int .i64 0)) t40 (.int .i64 0)) h17 fun t42 h18 =>
mc t42 (fun k5 => k5 .ret [(6, (.int .i64 0)), (7, t40)] h18) (fun k5 =>
k5 .normal [(0, (get tT_1 0)), (1, (get tT_1 1)), (2, (get tT_1 2)), (8, (get tT_1 8)), (9, (get tT_1 9)), (10, (get tT_1 10)), (11, t39)] h18) (seqK (fun tT_2 h19 =>
bareK (lenS (get tT_2 10)) h19 fun t46 h20 =>
bareK (xbin P .sub T.int (.tmp 46) (.const (.int .i64 1)) t46 (.int .i64 1)) h20 fun t47 h21 =>
bareK (ixS 1 (get tT_2 10) t47) h21 fun t48 h22 =>
bareK (ld1 h22 t48) h22 fun t49 h23 =>
bareK (xbin P .add T.int (.tmp 49) (.const (.int .i64 1)) t49 (.int .i64 1)) h23 fun t50 h24 =>
bareK (xbin P .eql T.int (.tmp 50) (.tmp 51) t50 (get tT_2 11)) h24 fun t52 h25 =>
mc t52 (fun k6 => bareK (ixS 1 (get tT_2 2) (get tT_2 9)) h25 fun t56 h26 =>
bareK (ld1 h26 t56) h26 fun t57 h27 =>
bothK (bldL T.string [(.string (mk []))] 1 [(0, t57)] h27) fun t58 h28 =>
bothK (app T.string 1 16 (get tT_2 8) (srcS 1 t58 h28) h28) fun t59 h29 =>
k6 .normal [(0, (get tT_2 0)), (1, (get tT_2 1)), (2, (get tT_2 2)), (8, t59), (9, (get tT_2 9))] h29) (fun k6 =>
k6 .normal [(0, (get tT_2 0)), (1, (get tT_2 1)), (2, (get tT_2 2)), (8, (get tT_2 8)), (9, (get tT_2 9))] h25) (blkK [0, 1, 2, 8, 9] 1 k3)) (blkK [0, 1, 2, 8, 9] 1 k3))) (blkK [0, 1, 2, 8, 9] 1 k3))) (seqK (fun tT_3 h30 =>
bareK (xbin P .add T.int (.tmp 18) (.const (.int .i64 1)) (get tT_3 9) (.int .i64 1)) h30 fun t19 h31 =>
k .normal [(0, (get tT_3 0)), (1, (get tT_3 1)), (2, (get tT_3 2)), (8, (get tT_3 8)), (9, t19)] h31) (afterK [0, 1, 2, 8, 9] k))) (afterK [0, 1, 2, 8, 9] k))

noncomputable def s_law_Giver_back_b1 (mg : GT) (mc : CT) (ms : ST) (P : Program) (C : CallF) (L0 : Value → Value → Value → Value → Value → AHeap → K → Res) (L1 : Value → Value → Value → Value → AHeap → K → Res) (v0 : Value) (v1 : Value) (v8 : Value) (v13 : Value) (H : AHeap) (k : K) : Res :=
bareK (lenS v8) H fun t62 h2 =>
bareK (xbin P .lss T.int (.tmp 60) (.tmp 62) v13 t62) h2 fun t63 h3 =>
mc t63 (fun k3 => k3 .normal [(0, v0), (1, v1), (8, v8), (13, v13)] h3) (fun k3 =>
k3 (.exit 2) [(63, t63), (62, t62), (61, v8), (60, v13), (0, v0), (1, v1), (8, v8), (13, v13)] h3) (seqK (fun tT h4 =>
ms (fun k4 =>
bareK (ixS 1 (get tT 8) (get tT 13)) h4 fun t69 h5 =>
bareK (ld1 h5 t69) h5 fun t70 h6 =>
bareK (xnilCheck (get tT 0)) h6 fun t72 h7 =>
bareK (fad 1 t72) h7 fun t73 h8 =>
bareK (ld1 h8 t73) h8 fun t74 h9 =>
bareK (ixS 1 (get tT 8) (get tT 13)) h9 fun t77 h10 =>
bareK (ld1 h10 t77) h10 fun t78 h11 =>
bareK (xlookup P T.map_string_int t74 t78 false h11) h11 fun t79 h12 =>
bareK (ixS 1 t79 (.int .i64 0)) h12 fun t80 h13 =>
bareK (ld1 h13 t80) h13 fun t81 h14 =>
enterK C F.law_decimal [t81] h14 fun t82 h15 =>
enterK C F.model_Model_Put [(get tT 1), t70, t82] h15 fun t83 h16 =>
checkK (okV (some true) none h14 h15 h4 h4 && (okV (some true) none h14 h15 h4 h4 && (okV (some true) none h14 h15 h4 h4 && (okV (some true) none h14 h15 h4 h5 && (okV (some true) (blockOf t69) h14 h15 h5 h6 && true))))) <|
bareK (xnilCheck (get tT 0)) h16 fun t85 h17 =>
bareK (fad 1 t85) h17 fun t86 h18 =>
bareK (ld1 h18 t86) h18 fun t87 h19 =>
bareK (ixS 1 (get tT 8) (get tT 13)) h19 fun t90 h20 =>
bareK (ld1 h20 t90) h20 fun t91 h21 =>
quietK (xmapUpdate P T.map_string_int t87 t91 (.slice none 0 0) h21) fun _ h22 =>
checkK true <|
k4 .normal [(0, (get tT 0)), (1, (get tT 1)), (8, (get tT 8)), (13, (get tT 13))] h22) (seqK (fun tT_1 h23 =>
bareK (xbin P .add T.int (.tmp 64) (.const (.int .i64 1)) (get tT_1 13) (.int .i64 1)) h23 fun t65 h24 =>
k .normal [(0, (get tT_1 0)), (1, (get tT_1 1)), (8, (get tT_1 8)), (13, t65)] h24) (afterK [0, 1, 8, 13] k))) (afterK [0, 1, 8, 13] k))

theorem s_law_Giver_back_eq (M : CombL) (C : CallF) (LP : LoopH) (a0 : Value) (a1 : Value) (a2 : Value) (H : AHeap) : dBodyL M Tryz.prog hints C LP F.law_Giver_back [a0, a1, a2] H = s_law_Giver_back M.b.g M.c M.s Tryz.prog C (fun v0 v1 v2 v8 v9 H k => loopL M Tryz.prog hints C LP F.law_Giver_back 0 [(0, v0), (1, v1), (2, v2), (8, v8), (9, v9)] H k) (fun v0 v1 v8 v13 H k => loopL M Tryz.prog hints C LP F.law_Giver_back 1 [(0, v0), (1, v1), (8, v8), (13, v13)] H k) a0 a1 a2 H (endK Tryz.prog [.tmp 6, .tmp 7]) := by kernel_rfl

theorem s_law_Giver_back_b0_eq (M : CombL) (C : CallF) (LP : LoopH) (v0 : Value) (v1 : Value) (v2 : Value) (v8 : Value) (v9 : Value) (H : AHeap) (k : K) : bodyL M Tryz.prog hints C LP F.law_Giver_back 0 [(0, v0), (1, v1), (2, v2), (8, v8), (9, v9)] H (afterK [0, 1, 2, 8, 9] k) = s_law_Giver_back_b0 M.b.g M.c M.s Tryz.prog C (fun v0 v1 v2 v8 v9 H k => loopL M Tryz.prog hints C LP F.law_Giver_back 0 [(0, v0), (1, v1), (2, v2), (8, v8), (9, v9)] H k) (fun v0 v1 v8 v13 H k => loopL M Tryz.prog hints C LP F.law_Giver_back 1 [(0, v0), (1, v1), (8, v8), (13, v13)] H k) v0 v1 v2 v8 v9 H k := by kernel_rfl

theorem s_law_Giver_back_b1_eq (M : CombL) (C : CallF) (LP : LoopH) (v0 : Value) (v1 : Value) (v8 : Value) (v13 : Value) (H : AHeap) (k : K) : bodyL M Tryz.prog hints C LP F.law_Giver_back 1 [(0, v0), (1, v1), (8, v8), (13, v13)] H (afterK [0, 1, 8, 13] k) = s_law_Giver_back_b1 M.b.g M.c M.s Tryz.prog C (fun v0 v1 v2 v8 v9 H k => loopL M Tryz.prog hints C LP F.law_Giver_back 0 [(0, v0), (1, v1), (2, v2), (8, v8), (9, v9)] H k) (fun v0 v1 v8 v13 H k => loopL M Tryz.prog hints C LP F.law_Giver_back 1 [(0, v0), (1, v1), (8, v8), (13, v13)] H k) v0 v1 v8 v13 H k := by kernel_rfl

/-! ticketline.ticketlinelaw47.returns -/

noncomputable def s_law_returns (mg : GT) (mc : CT) (ms : ST) (P : Program) (C : CallF) (a0 : Value) (a1 : Value) (a2 : Value) (a3 : Value) (H : AHeap) (K0 : K) : Res :=
enterK C F.ids_Giver_Return [a0, a1] H fun t14 h1 =>
bareK (xextract t14 0) h1 fun t15 h2 =>
bareK (xextract t14 1) h2 fun t16 h3 =>
bareK (xbin P .eql T.int (.tmp 17) (.tmp 18) t15 a2) h3 fun t19 h4 =>
mg t19 true (fun o1 => o1 t16 h4) h4 fun t21 h5 =>
mg t19 true (fun o2 => o2 a3 h5) h5 fun t22 h6 =>
mg t19 true (fun o3 => bareK (xbin P .eql T.int (.tmp 21) (.tmp 22) t21 t22) h6 o3) h6 fun t23 h7 =>
pickK t19 t23 (.bool false) fun t24 =>
K0 .ret [(8, t24)] h7

theorem s_law_returns_eq (M : CombL) (C : CallF) (LP : LoopH) (a0 : Value) (a1 : Value) (a2 : Value) (a3 : Value) (H : AHeap) : dBodyL M Tryz.prog hints C LP F.law_returns [a0, a1, a2, a3] H = s_law_returns M.b.g M.c M.s Tryz.prog C a0 a1 a2 a3 H (endK Tryz.prog [.tmp 8]) := by kernel_rfl

/-! ticketline.ticketlinelaw47.take -/

noncomputable def s_law_take (mg : GT) (mc : CT) (ms : ST) (P : Program) (C : CallF) (a0 : Value) (a1 : Value) (a2 : Value) (H : AHeap) (K0 : K) : Res :=
bothK (newv T.api_Block (.agg #[(.int .i64 0), (.int .i64 0)]) H) fun t6 h1 =>
bareK (xbin P .lss T.int (.tmp 10) (.const (.int .i64 1)) a2 (.int .i64 1)) h1 fun t11 h2 =>
mg t11 false (fun o1 => o1 a2 h2) h2 fun t13 h3 =>
mg t11 false (fun o2 => bareK (xbin P .gtr T.int (.tmp 13) (.const (.int .i64 1000)) t13 (.int .i64 1000)) h3 o2) h3 fun t14 h4 =>
pickK t11 (.bool true) t14 fun t15 =>
mc t15 (fun k3 => bareK (bldS #[(.int .i64 0), (.int .i64 0)] [(0, 1), (1, 1)] []) h4 fun t16 h5 =>
quietK (stN 2 h5 t6 t16) fun _ h6 =>
k3 .ret [(6, t6), (7, (.int .i64 2))] h6) (fun k3 =>
k3 .normal [(0, a0), (1, a1), (2, a2), (6, t6)] h4) (seqK (fun tT h7 =>
enterK C F.law_next [(get tT 0), (get tT 1)] h7 fun t20 h8 =>
bareK (xextract t20 0) h8 fun t21 h9 =>
bareK (xextract t20 1) h9 fun t22 h10 =>
ms (fun k4 =>
bareK (xbin P .neq T.int (.tmp 24) (.const (.int .i64 0)) t22 (.int .i64 0)) h10 fun t25 h11 =>
mc t25 (fun k5 => bareK (bldS #[(.int .i64 0), (.int .i64 0)] [(0, 1), (1, 1)] []) h11 fun t26 h12 =>
quietK (stN 2 h12 (get tT 6) t26) fun _ h13 =>
k5 .ret [(6, (get tT 6)), (7, t22)] h13) (fun k5 =>
bareK (xbin P .add T.int (.tmp 29) (.tmp 30) t21 (get tT 2)) h11 fun t31 h14 =>
bareK (xbin P .gtr T.int (.tmp 31) (.const (.int .i64 1099511627776)) t31 (.int .i64 1099511627776)) h14 fun t32 h15 =>
mc t32 (fun k6 => bareK (bldS #[(.int .i64 0), (.int .i64 0)] [(0, 1), (1, 1)] []) h15 fun t33 h16 =>
quietK (stN 2 h16 (get tT 6) t33) fun _ h17 =>
k6 .ret [(6, (get tT 6)), (7, (.int .i64 17))] h17) (fun k6 =>
k6 .normal [(0, (get tT 0)), (1, (get tT 1)), (2, (get tT 2)), (6, (get tT 6)), (8, t21)] h15) (afterK [0, 1, 2, 6, 8] k5)) (blkK [0, 1, 2, 6, 8] 0 k4)) (seqK (fun tT_1 h18 =>
bareK (xbin P .add T.int (.tmp 36) (.tmp 37) (get tT_1 8) (get tT_1 2)) h18 fun t38 h19 =>
enterK C F.law_decimal [t38] h19 fun t39 h20 =>
enterK C F.model_Model_Put [(get tT_1 0), (get tT_1 1), t39] h20 fun t40 h21 =>
bareK (bldS #[(.int .i64 0), (.int .i64 0)] [(0, 1), (1, 1)] [(0, (get tT_1 8)), (1, (get tT_1 2))]) h21 fun t43 h22 =>
quietK (stN 2 h22 (get tT_1 6) t43) fun _ h23 =>
K0 .ret [(6, (get tT_1 6)), (7, (.int .i64 0))] h23) K0)) K0)

theorem s_law_take_eq (M : CombL) (C : CallF) (LP : LoopH) (a0 : Value) (a1 : Value) (a2 : Value) (H : AHeap) : dBodyL M Tryz.prog hints C LP F.law_take [a0, a1, a2] H = s_law_take M.b.g M.c M.s Tryz.prog C a0 a1 a2 H (endK Tryz.prog [.cell 6 T.api_Block, .tmp 7]) := by kernel_rfl

/-! ticketline.ticketlinelaw47.takes -/

noncomputable def s_law_takes (mg : GT) (mc : CT) (ms : ST) (P : Program) (C : CallF) (a0 : Value) (a1 : Value) (a2 : Value) (a3 : Value) (a4 : Value) (H : AHeap) (K0 : K) : Res :=
bothK (newv T.api_Block a3 H) fun t8 h1 =>
enterK C F.ids_Take [a0, a1, a2] h1 fun t17 h2 =>
bareK (xextract t17 0) h2 fun t18 h3 =>
bareK (xextract t17 1) h3 fun t19 h4 =>
bothK (newv T.api_Block (.agg #[(.int .i64 0), (.int .i64 0)]) h4) fun t11 h5 =>
quietK (stN 2 h5 t11 t18) fun _ h6 =>
bareK (ldN 2 h6 t11) h6 fun t20 h7 =>
bareK (ldN 2 h7 t8) h7 fun t21 h8 =>
bareK (xbin P .eql T.api_Block (.tmp 20) (.tmp 21) t20 t21) h8 fun t22 h9 =>
mg t22 true (fun o1 => o1 t19 h9) h9 fun t24 h10 =>
mg t22 true (fun o2 => o2 a4 h10) h10 fun t25 h11 =>
mg t22 true (fun o3 => bareK (xbin P .eql T.int (.tmp 24) (.tmp 25) t24 t25) h11 o3) h11 fun t26 h12 =>
pickK t22 t26 (.bool false) fun t27 =>
K0 .ret [(10, t27)] h12

theorem s_law_takes_eq (M : CombL) (C : CallF) (LP : LoopH) (a0 : Value) (a1 : Value) (a2 : Value) (a3 : Value) (a4 : Value) (H : AHeap) : dBodyL M Tryz.prog hints C LP F.law_takes [a0, a1, a2, a3, a4] H = s_law_takes M.b.g M.c M.s Tryz.prog C a0 a1 a2 a3 a4 H (endK Tryz.prog [.tmp 10]) := by kernel_rfl

/-! (*ticketline.model.Model).Put -/

noncomputable def s_model_Model_Put (mg : GT) (mc : CT) (ms : ST) (P : Program) (C : CallF) (a0 : Value) (a1 : Value) (a2 : Value) (H : AHeap) (K0 : K) : Res :=
bothK (bldL T.string [(.string (mk []))] 1 [(0, a2)] H) fun t14 h1 =>
enterK C F.model_Model_at [a0, a1, t14] h1 fun t15 h2 =>
bareK (xextract t15 0) h2 fun t16 h3 =>
bareK (xextract t15 1) h3 fun t17 h4 =>
bareK (xextract t15 2) h4 fun t18 h5 =>
bareK (xbin P .neq T.api_Errno (.tmp 19) (.const (.int .i64 0)) t18 (.int .i64 0)) h5 fun t20 h6 =>
mc t20 (fun k1 => k1 .ret [(6, t18)] h6) (fun k1 =>
k1 .normal [(0, a0), (1, a1), (2, a2), (7, t16), (8, t17)] h6) (seqK (fun tT h7 =>
bareK (bldS #[(.string (mk [])), (.string (mk []))] [(0, 1), (1, 1)] [(0, (get tT 1)), (1, (get tT 2))]) h7 fun t27 h8 =>
enterK C F.model_Model_set [(get tT 0), (get tT 7), (get tT 8), t27] h8 fun t28 h9 =>
K0 .ret [(6, t28)] h9) K0)

theorem s_model_Model_Put_eq (M : CombL) (C : CallF) (LP : LoopH) (a0 : Value) (a1 : Value) (a2 : Value) (H : AHeap) : dBodyL M Tryz.prog hints C LP F.model_Model_Put [a0, a1, a2] H = s_model_Model_Put M.b.g M.c M.s Tryz.prog C a0 a1 a2 H (endK Tryz.prog [.tmp 6]) := by kernel_rfl

/-! (*ticketline.ids.Giver).Copy -/

noncomputable def s_ids_Giver_Copy (mg : GT) (mc : CT) (ms : ST) (P : Program) (C : CallF) (a0 : Value) (H : AHeap) (K0 : K) : Res :=
enterK C F.ids_Giver_none [a0] H fun t4 h1 =>
mc t4 (fun k1 => k1 .ret [(2, (.pointer none))] h1) (fun k1 =>
k1 .normal [(0, a0)] h1) (seqK (fun tT h2 =>
bareK (xnilCheck (get tT 0)) h2 fun t6 h3 =>
bareK (fad 0 t6) h3 fun t7 h4 =>
bareK (ld1 h4 t7) h4 fun t8 h5 =>
bareK (xnilCheck (get tT 0)) h5 fun t10 h6 =>
bareK (fad 1 t10) h6 fun t11 h7 =>
bareK (ld1 h7 t11) h7 fun t12 h8 =>
enterK C F.maps_Clone_Block [t12] h8 fun t13 h9 =>
bareK (bldS #[(.int .i64 0), (.map none)] [(0, 1), (1, 1)] [(0, t8), (1, t13)]) h9 fun t14 h10 =>
bothK (newv T.ids_Giver t14 h10) fun t15 h11 =>
checkK (okV (some true) none h8 h9 h2 h2 && (okV (some true) none h8 h9 h2 h3 && (okV (some true) none h8 h9 h3 h4 && (okV (some true) (blockOf t7) h8 h9 h4 h5 && true)))) <|
K0 .ret [(2, t15)] h11) K0)

theorem s_ids_Giver_Copy_eq (M : CombL) (C : CallF) (LP : LoopH) (a0 : Value) (H : AHeap) : dBodyL M Tryz.prog hints C LP F.ids_Giver_Copy [a0] H = s_ids_Giver_Copy M.b.g M.c M.s Tryz.prog C a0 H (endK Tryz.prog [.tmp 2]) := by kernel_rfl

/-! (*ticketline.ids.Giver).Give -/

noncomputable def s_ids_Giver_Give (mg : GT) (mc : CT) (ms : ST) (P : Program) (C : CallF) (a0 : Value) (a1 : Value) (a2 : Value) (H : AHeap) (K0 : K) : Res :=
enterK C F.ids_Giver_none [a0] H fun t13 h1 =>
mc t13 (fun k1 => k1 .ret [(6, (.int .i64 0)), (7, (.int .i64 1))] h1) (fun k1 =>
k1 .normal [(0, a0), (1, a1), (2, a2)] h1) (seqK (fun tT h2 =>
enterK C F.ids_Next [(get tT 1), (get tT 2)] h2 fun t17 h3 =>
bareK (xextract t17 0) h3 fun t18 h4 =>
bareK (xextract t17 1) h4 fun t19 h5 =>
bareK (xbin P .neq T.api_Errno (.tmp 20) (.const (.int .i64 0)) t19 (.int .i64 0)) h5 fun t21 h6 =>
mc t21 (fun k2 => k2 .ret [(6, (.int .i64 0)), (7, t19)] h6) (fun k2 =>
k2 .normal [(0, (get tT 0)), (1, (get tT 1)), (2, (get tT 2))] h6) (seqK (fun tT_1 h7 =>
bareK (xnilCheck (get tT_1 0)) h7 fun t24 h8 =>
bareK (fad 1 t24) h8 fun t25 h9 =>
bareK (ld1 h9 t25) h9 fun t26 h10 =>
bareK (xlookup P T.map_string_api_Block t26 (get tT_1 2) false h10) h10 fun t28 h11 =>
bothK (newv T.api_Block (.agg #[(.int .i64 0), (.int .i64 0)]) h11) fun t10 h12 =>
quietK (stN 2 h12 t10 t28) fun _ h13 =>
bareK (fad 1 t10) h13 fun t29 h14 =>
bareK (ld1 h14 t29) h14 fun t30 h15 =>
bareK (xbin P .eql T.int (.tmp 30) (.const (.int .i64 0)) t30 (.int .i64 0)) h15 fun t31 h16 =>
mc t31 (fun k3 => bareK (xnilCheck (get tT_1 0)) h16 fun t36 h17 =>
bareK (fad 0 t36) h17 fun t37 h18 =>
bareK (ld1 h18 t37) h18 fun t38 h19 =>
enterK C F.ids_Take [(get tT_1 1), (get tT_1 2), t38] h19 fun t39 h20 =>
bareK (xextract t39 0) h20 fun t40 h21 =>
bareK (xextract t39 1) h21 fun t41 h22 =>
quietK (stN 2 h22 t10 t40) fun _ h23 =>
bareK (xbin P .neq T.api_Errno (.tmp 42) (.const (.int .i64 0)) t41 (.int .i64 0)) h23 fun t43 h24 =>
mc t43 (fun k4 => k4 .ret [(6, (.int .i64 0)), (7, t41)] h24) (fun k4 =>
k4 .normal [(0, (get tT_1 0)), (2, (get tT_1 2)), (10, t10)] h24) (afterK [0, 2, 10] k3)) (fun k3 =>
k3 .normal [(0, (get tT_1 0)), (2, (get tT_1 2)), (10, t10)] h16) (seqK (fun tT_2 h25 =>
bareK (fad 0 (get tT_2 10)) h25 fun t47 h26 =>
bareK (ld1 h26 t47) h26 fun t48 h27 =>
bareK (xbin P .add T.int (.tmp 48) (.const (.int .i64 1)) t48 (.int .i64 1)) h27 fun t49 h28 =>
bareK (fad 1 (get tT_2 10)) h28 fun t50 h29 =>
bareK (ld1 h29 t50) h29 fun t51 h30 =>
bareK (xbin P .sub T.int (.tmp 51) (.const (.int .i64 1)) t51 (.int .i64 1)) h30 fun t52 h31 =>
bareK (bldS #[(.int .i64 0), (.int .i64 0)] [(0, 1), (1, 1)] [(0, t49), (1, t52)]) h31 fun t53 h32 =>
enterK C F.ids_Giver_set [(get tT_2 0), (get tT_2 2), t53] h32 fun t54 h33 =>
bareK (fad 0 (get tT_2 10)) h33 fun t55 h34 =>
bareK (ld1 h34 t55) h34 fun t56 h35 =>
K0 .ret [(6, t56), (7, (.int .i64 0))] h35) K0)) K0)) K0)

theorem s_ids_Giver_Give_eq (M : CombL) (C : CallF) (LP : LoopH) (a0 : Value) (a1 : Value) (a2 : Value) (H : AHeap) : dBodyL M Tryz.prog hints C LP F.ids_Giver_Give [a0, a1, a2] H = s_ids_Giver_Give M.b.g M.c M.s Tryz.prog C a0 a1 a2 H (endK Tryz.prog [.tmp 6, .tmp 7]) := by kernel_rfl

/-! ticketline.ticketlinelaw47.alike -/

noncomputable def s_law_alike (mg : GT) (mc : CT) (ms : ST) (P : Program) (C : CallF) (L0 : Value → Value → Value → Value → AHeap → K → Res) (a0 : Value) (a1 : Value) (a2 : Value) (H : AHeap) (K0 : K) : Res :=
bareK (xbin P .eql T.p_ids_Giver (.tmp 9) (.const (.pointer none)) a0 (.pointer none)) H fun t10 h1 =>
mc t10 (fun k1 => k1 .ret [(6, (.bool false))] h1) (fun k1 =>
k1 .normal [(0, a0), (1, a1), (2, a2)] h1) (seqK (fun tT h2 =>
ms (fun k2 =>
L0 (get tT 0) (get tT 1) (get tT 2) (.int .i64 0) h2 (blkK [0] 0 k2)) (seqK (fun tT_1 h3 =>
enterK C F.ids_Giver_Left [(get tT_1 0), (.string (mk [110, 111, 32, 115, 117, 99, 104, 32, 110, 97, 109, 101, 44, 32, 97, 110, 100, 32, 116, 111, 111, 32, 108, 111, 110, 103, 32, 97, 32, 111, 110, 101]))] h3 fun t52 h4 =>
bareK (bldS #[(.int .i64 0), (.int .i64 0)] [(0, 1), (1, 1)] []) h4 fun t53 h5 =>
bareK (xbin P .eql T.api_Block (.tmp 52) (.tmp 53) t52 t53) h5 fun t54 h6 =>
K0 .ret [(6, t54)] h6) K0)) K0)

noncomputable def s_law_alike_b0 (mg : GT) (mc : CT) (ms : ST) (P : Program) (C : CallF) (L0 : Value → Value → Value → Value → AHeap → K → Res) (v0 : Value) (v1 : Value) (v2 : Value) (v7 : Value) (H : AHeap) (k : K) : Res :=
bareK (lenS v2) H fun t13 h3 =>
bareK (xbin P .lss T.int (.tmp 11) (.tmp 13) v7 t13) h3 fun t14 h4 =>
mc t14 (fun k3 => k3 .normal [(0, v0), (1, v1), (2, v2), (7, v7)] h4) (fun k3 =>
k3 (.exit 0) [(14, t14), (13, t13), (12, v2), (11, v7), (0, v0), (1, v1), (2, v2), (7, v7)] h4) (seqK (fun tT h5 =>
ms (fun k4 =>
bareK (xnilCheck (get tT 1)) h5 fun t18 h6 =>
bareK (fad 1 t18) h6 fun t19 h7 =>
bareK (ld1 h7 t19) h7 fun t20 h8 =>
bareK (ixS 1 (get tT 2) (get tT 7)) h8 fun t23 h9 =>
bareK (ld1 h9 t23) h9 fun t24 h10 =>
bareK (xlookup P T.map_string_int t20 t24 false h10) h10 fun t25 h11 =>
bareK (lenS t25) h11 fun t26 h12 =>
bareK (bldS #[(.int .i64 0), (.int .i64 0)] [(0, 1), (1, 1)] [(1, t26)]) h12 fun t27 h13 =>
bothK (newv T.api_Block (.agg #[(.int .i64 0), (.int .i64 0)]) h13) fun t8 h14 =>
quietK (stN 2 h14 t8 t27) fun _ h15 =>
checkK true <|
bareK (fad 1 t8) h15 fun t28 h16 =>
bareK (ld1 h16 t28) h16 fun t29 h17 =>
bareK (xbin P .gtr T.int (.tmp 29) (.const (.int .i64 0)) t29 (.int .i64 0)) h17 fun t30 h18 =>
mc t30 (fun k5 => bareK (xnilCheck (get tT 1)) h18 fun t32 h19 =>
bareK (fad 1 t32) h19 fun t33 h20 =>
bareK (ld1 h20 t33) h20 fun t34 h21 =>
bareK (ixS 1 (get tT 2) (get tT 7)) h21 fun t37 h22 =>
bareK (ld1 h22 t37) h22 fun t38 h23 =>
bareK (xlookup P T.map_string_int t34 t38 false h23) h23 fun t39 h24 =>
bareK (ixS 1 t39 (.int .i64 0)) h24 fun t40 h25 =>
bareK (ld1 h25 t40) h25 fun t41 h26 =>
bareK (fad 0 t8) h26 fun t42 h27 =>
quietK (st1 h27 t42 t41) fun _ h28 =>
checkK true <|
k5 .normal [(0, (get tT 0)), (1, (get tT 1)), (2, (get tT 2)), (7, (get tT 7)), (8, t8)] h28) (fun k5 =>
k5 .normal [(0, (get tT 0)), (1, (get tT 1)), (2, (get tT 2)), (7, (get tT 7)), (8, t8)] h18) (seqK (fun tT_1 h29 =>
bareK (ixS 1 (get tT_1 2) (get tT_1 7)) h29 fun t46 h30 =>
bareK (ld1 h30 t46) h30 fun t47 h31 =>
enterK C F.ids_Giver_Left [(get tT_1 0), t47] h31 fun t48 h32 =>
bareK (ldN 2 h32 (get tT_1 8)) h32 fun t49 h33 =>
bareK (xbin P .neq T.api_Block (.tmp 48) (.tmp 49) t48 t49) h33 fun t50 h34 =>
checkK (okV (some true) (blockOf (get tT_1 8)) h31 h32 h32 h33 && true) <|
mc t50 (fun k6 => k6 .ret [(6, (.bool false))] h34) (fun k6 =>
k6 .normal [(0, (get tT_1 0)), (1, (get tT_1 1)), (2, (get tT_1 2)), (7, (get tT_1 7))] h34) (blkK [0, 1, 2, 7] 1 k4)) (blkK [0, 1, 2, 7] 1 k4))) (seqK (fun tT_2 h35 =>
bareK (xbin P .add T.int (.tmp 15) (.const (.int .i64 1)) (get tT_2 7) (.int .i64 1)) h35 fun t16 h36 =>
k .normal [(0, (get tT_2 0)), (1, (get tT_2 1)), (2, (get tT_2 2)), (7, t16)] h36) (afterK [0, 1, 2, 7] k))) (afterK [0, 1, 2, 7] k))

theorem s_law_alike_eq (M : CombL) (C : CallF) (LP : LoopH) (a0 : Value) (a1 : Value) (a2 : Value) (H : AHeap) : dBodyL M Tryz.prog hints C LP F.law_alike [a0, a1, a2] H = s_law_alike M.b.g M.c M.s Tryz.prog C (fun v0 v1 v2 v7 H k => loopL M Tryz.prog hints C LP F.law_alike 0 [(0, v0), (1, v1), (2, v2), (7, v7)] H k) a0 a1 a2 H (endK Tryz.prog [.tmp 6]) := by kernel_rfl

theorem s_law_alike_b0_eq (M : CombL) (C : CallF) (LP : LoopH) (v0 : Value) (v1 : Value) (v2 : Value) (v7 : Value) (H : AHeap) (k : K) : bodyL M Tryz.prog hints C LP F.law_alike 0 [(0, v0), (1, v1), (2, v2), (7, v7)] H (afterK [0, 1, 2, 7] k) = s_law_alike_b0 M.b.g M.c M.s Tryz.prog C (fun v0 v1 v2 v7 H k => loopL M Tryz.prog hints C LP F.law_alike 0 [(0, v0), (1, v1), (2, v2), (7, v7)] H k) v0 v1 v2 v7 H k := by kernel_rfl

/-! ticketline.model.Equal -/

noncomputable def s_model_Equal (mg : GT) (mc : CT) (ms : ST) (P : Program) (C : CallF) (a0 : Value) (a1 : Value) (H : AHeap) (K0 : K) : Res :=
bareK (xbin P .eql T.p_model_Model (.tmp 6) (.const (.pointer none)) a0 (.pointer none)) H fun t7 h1 =>
bareK (xbin P .eql T.p_model_Model (.tmp 8) (.const (.pointer none)) a1 (.pointer none)) h1 fun t9 h2 =>
bareK (xbin P .neq T.bool (.tmp 7) (.tmp 9) t7 t9) h2 fun t10 h3 =>
mg t10 false (fun o1 => o1 (.func (.func F.model_Model_Len) #[] #[]) h3) h3 fun t12 h4 =>
mg t10 false (fun o2 => o2 a0 h4) h4 fun t13 h5 =>
mg t10 false (fun o3 => callK P C t12 [t13] h5 o3) h5 fun t14 h6 =>
mg t10 false (fun o4 => o4 (.func (.func F.model_Model_Len) #[] #[]) h6) h6 fun t15 h7 =>
mg t10 false (fun o5 => o5 a1 h7) h7 fun t16 h8 =>
mg t10 false (fun o6 => callK P C t15 [t16] h8 o6) h8 fun t17 h9 =>
mg t10 false (fun o7 => bareK (xbin P .neq T.int (.tmp 14) (.tmp 17) t14 t17) h9 o7) h9 fun t18 h10 =>
pickK t10 (.bool true) t18 fun t19 =>
mc t19 (fun k8 => k8 .ret [(4, (.bool false))] h10) (fun k8 =>
k8 .normal [(0, a0), (1, a1)] h10) (seqK (fun tT h11 =>
enterK C F.model_Model_Pairs [(get tT 0)] h11 fun t21 h12 =>
enterK C F.model_Model_Pairs [(get tT 1)] h12 fun t23 h13 =>
enterK C F.slices_Equal_Pair [t21, t23] h13 fun t24 h14 =>
K0 .ret [(4, t24)] h14) K0)

theorem s_model_Equal_eq (M : CombL) (C : CallF) (LP : LoopH) (a0 : Value) (a1 : Value) (H : AHeap) : dBodyL M Tryz.prog hints C LP F.model_Equal [a0, a1] H = s_model_Equal M.b.g M.c M.s Tryz.prog C a0 a1 H (endK Tryz.prog [.tmp 4]) := by kernel_rfl

/-! ticketline.ticketlinelaw47.nexts -/

noncomputable def s_law_nexts (mg : GT) (mc : CT) (ms : ST) (P : Program) (C : CallF) (a0 : Value) (a1 : Value) (a2 : Value) (a3 : Value) (H : AHeap) (K0 : K) : Res :=
enterK C F.ids_Next [a0, a1] H fun t14 h1 =>
bareK (xextract t14 0) h1 fun t15 h2 =>
bareK (xextract t14 1) h2 fun t16 h3 =>
bareK (xbin P .eql T.int (.tmp 17) (.tmp 18) t15 a2) h3 fun t19 h4 =>
mg t19 true (fun o1 => o1 t16 h4) h4 fun t21 h5 =>
mg t19 true (fun o2 => o2 a3 h5) h5 fun t22 h6 =>
mg t19 true (fun o3 => bareK (xbin P .eql T.int (.tmp 21) (.tmp 22) t21 t22) h6 o3) h6 fun t23 h7 =>
pickK t19 t23 (.bool false) fun t24 =>
K0 .ret [(8, t24)] h7

theorem s_law_nexts_eq (M : CombL) (C : CallF) (LP : LoopH) (a0 : Value) (a1 : Value) (a2 : Value) (a3 : Value) (H : AHeap) : dBodyL M Tryz.prog hints C LP F.law_nexts [a0, a1, a2, a3] H = s_law_nexts M.b.g M.c M.s Tryz.prog C a0 a1 a2 a3 H (endK Tryz.prog [.tmp 8]) := by kernel_rfl

/-! (*ticketline.ids.Giver).Left -/

noncomputable def s_ids_Giver_Left (mg : GT) (mc : CT) (ms : ST) (P : Program) (C : CallF) (a0 : Value) (a1 : Value) (H : AHeap) (K0 : K) : Res :=
bothK (newv T.api_Block (.agg #[(.int .i64 0), (.int .i64 0)]) H) fun t4 h1 =>
enterK C F.ids_Giver_none [a0] h1 fun t6 h2 =>
mc t6 (fun k1 => bareK (bldS #[(.int .i64 0), (.int .i64 0)] [(0, 1), (1, 1)] []) h2 fun t7 h3 =>
quietK (stN 2 h3 t4 t7) fun _ h4 =>
k1 .ret [(4, t4)] h4) (fun k1 =>
k1 .normal [(0, a0), (1, a1), (4, t4)] h2) (seqK (fun tT h5 =>
bareK (xnilCheck (get tT 0)) h5 fun t9 h6 =>
bareK (fad 1 t9) h6 fun t10 h7 =>
bareK (ld1 h7 t10) h7 fun t11 h8 =>
bareK (xlookup P T.map_string_api_Block t11 (get tT 1) false h8) h8 fun t13 h9 =>
quietK (stN 2 h9 (get tT 4) t13) fun _ h10 =>
K0 .ret [(4, (get tT 4))] h10) K0)

theorem s_ids_Giver_Left_eq (M : CombL) (C : CallF) (LP : LoopH) (a0 : Value) (a1 : Value) (H : AHeap) : dBodyL M Tryz.prog hints C LP F.ids_Giver_Left [a0, a1] H = s_ids_Giver_Left M.b.g M.c M.s Tryz.prog C a0 a1 H (endK Tryz.prog [.cell 4 T.api_Block]) := by kernel_rfl

/-! ticketline.ticketlinelaw47.next -/

noncomputable def s_law_next (mg : GT) (mc : CT) (ms : ST) (P : Program) (C : CallF) (a0 : Value) (a1 : Value) (H : AHeap) (K0 : K) : Res :=
ms (fun k1 =>
bareK (lenT a1) H fun t11 h1 =>
bareK (xbin P .eql T.int (.tmp 11) (.const (.int .i64 0)) t11 (.int .i64 0)) h1 fun t12 h2 =>
mc t12 (fun k2 => k2 .ret [(4, (.int .i64 0)), (5, (.int .i64 2))] h2) (fun k2 =>
bareK (lenT a1) h2 fun t15 h3 =>
bareK (xbin P .gtr T.int (.tmp 15) (.const (.int .i64 24)) t15 (.int .i64 24)) h3 fun t16 h4 =>
mc t16 (fun k3 => k3 .ret [(4, (.int .i64 0)), (5, (.int .i64 5))] h4) (fun k3 =>
k3 .normal [(0, a0), (1, a1)] h4) (afterK [0, 1] k2)) (blkK [0, 1] 0 k1)) (seqK (fun tT h5 =>
enterK C F.model_Model_Get [(get tT 0), (get tT 1)] h5 fun t20 h6 =>
bareK (xextract t20 0) h6 fun t21 h7 =>
bareK (xextract t20 1) h7 fun t22 h8 =>
bareK (xbin P .neq T.api_Errno (.tmp 23) (.const (.int .i64 0)) t22 (.int .i64 0)) h8 fun t24 h9 =>
mc t24 (fun k4 => k4 .ret [(4, (.int .i64 1)), (5, (.int .i64 0))] h9) (fun k4 =>
k4 .normal [(6, t21)] h9) (seqK (fun tT_1 h10 =>
enterK C F.law_counter [(get tT_1 6)] h10 fun t26 h11 =>
bareK (xbin P .eql T.int (.tmp 27) (.const (.int .i64 0)) t26 (.int .i64 0)) h11 fun t28 h12 =>
mc t28 (fun k5 => k5 .ret [(4, (.int .i64 0)), (5, (.int .i64 12))] h12) (fun k5 =>
k5 .normal [(8, t26)] h12) (seqK (fun tT_2 h13 =>
K0 .ret [(4, (get tT_2 8)), (5, (.int .i64 0))] h13) K0)) K0)) K0)

theorem s_law_next_eq (M : CombL) (C : CallF) (LP : LoopH) (a0 : Value) (a1 : Value) (H : AHeap) : dBodyL M Tryz.prog hints C LP F.law_next [a0, a1] H = s_law_next M.b.g M.c M.s Tryz.prog C a0 a1 H (endK Tryz.prog [.tmp 4, .tmp 5]) := by kernel_rfl

/-! (*ticketline.ids.Giver).none -/

noncomputable def s_ids_Giver_none (mg : GT) (mc : CT) (ms : ST) (P : Program) (C : CallF) (a0 : Value) (H : AHeap) (K0 : K) : Res :=
bareK (xbin P .eql T.p_ids_Giver (.tmp 3) (.const (.pointer none)) a0 (.pointer none)) H fun t4 h1 =>
mg t4 false (fun o1 => o1 a0 h1) h1 fun t6 h2 =>
mg t4 false (fun o2 => bareK (xnilCheck t6) h2 o2) h2 fun t7 h3 =>
mg t4 false (fun o3 => bareK (fad 0 t7) h3 o3) h3 fun t8 h4 =>
mg t4 false (fun o4 => bareK (ld1 h4 t8) h4 o4) h4 fun t9 h5 =>
mg t4 false (fun o5 => bareK (xbin P .eql T.int (.tmp 9) (.const (.int .i64 0)) t9 (.int .i64 0)) h5 o5) h5 fun t10 h6 =>
pickK t4 (.bool true) t10 fun t11 =>
K0 .ret [(2, t11)] h6

theorem s_ids_Giver_none_eq (M : CombL) (C : CallF) (LP : LoopH) (a0 : Value) (H : AHeap) : dBodyL M Tryz.prog hints C LP F.ids_Giver_none [a0] H = s_ids_Giver_none M.b.g M.c M.s Tryz.prog C a0 H (endK Tryz.prog [.tmp 2]) := by kernel_rfl

/-! ticketline.ticketlinelaw47.decimal -/

noncomputable def s_law_decimal (mg : GT) (mc : CT) (ms : ST) (P : Program) (C : CallF) (a0 : Value) (H : AHeap) (K0 : K) : Res :=
bareK (xbin P .lss T.int (.tmp 3) (.const (.int .i64 10)) a0 (.int .i64 10)) H fun t4 h1 =>
mc t4 (fun k1 => bareK (xbin P .add T.int (.const (.int .i64 48)) (.tmp 5) (.int .i64 48) a0) h1 fun t6 h2 =>
bothK (xconv P T.int T.uint8 t6 h2) fun t7 h3 =>
bothK (bldL T.uint8 [(.int .u8 0)] 1 [(0, t7)] h3) fun t8 h4 =>
bothK (xconv P T.sl_uint8 T.string t8 h4) fun t9 h5 =>
k1 .ret [(2, t9)] h5) (fun k1 =>
k1 .normal [(0, a0)] h1) (seqK (fun tT h6 =>
bareK (xbin P .quo T.int (.tmp 10) (.const (.int .i64 10)) (get tT 0) (.int .i64 10)) h6 fun t11 h7 =>
enterK C F.law_decimal [t11] h7 fun t12 h8 =>
bareK (xbin P .rem T.int (.tmp 13) (.const (.int .i64 10)) (get tT 0) (.int .i64 10)) h8 fun t14 h9 =>
bareK (xbin P .add T.int (.const (.int .i64 48)) (.tmp 14) (.int .i64 48) t14) h9 fun t15 h10 =>
bothK (xconv P T.int T.uint8 t15 h10) fun t16 h11 =>
bothK (bldL T.uint8 [(.int .u8 0)] 1 [(0, t16)] h11) fun t17 h12 =>
bothK (xconv P T.sl_uint8 T.string t17 h12) fun t18 h13 =>
bareK (xbin P .add T.string (.tmp 12) (.tmp 18) t12 t18) h13 fun t19 h14 =>
checkK (okV (some true) none h7 h8 h8 h8 && (okV (some true) none h7 h8 h8 h9 && (okV (some true) none h7 h8 h9 h10 && (okV (some true) (blockOf t15) h7 h8 h10 h11 && (okV (some true) none h7 h8 h11 h12 && (okV (some true) (blockOf t17) h7 h8 h12 h13 && true)))))) <|
K0 .ret [(2, t19)] h14) K0)

theorem s_law_decimal_eq (M : CombL) (C : CallF) (LP : LoopH) (a0 : Value) (H : AHeap) : dBodyL M Tryz.prog hints C LP F.law_decimal [a0] H = s_law_decimal M.b.g M.c M.s Tryz.prog C a0 H (endK Tryz.prog [.tmp 2]) := by kernel_rfl

/-! (*ticketline.ids.Giver).Return -/

noncomputable def s_ids_Giver_Return (mg : GT) (mc : CT) (ms : ST) (P : Program) (C : CallF) (L0 : Value → Value → Value → Value → Value → Value → AHeap → K → Res) (L1 : Value → Value → Value → Value → Value → Value → AHeap → K → Res) (a0 : Value) (a1 : Value) (H : AHeap) (K0 : K) : Res :=
enterK C F.ids_Giver_none [a0] H fun t15 h1 =>
mg t15 false (fun o1 => o1 a1 h1) h1 fun t17 h2 =>
mg t15 false (fun o2 => bareK (xbin P .eql T.p_model_Model (.tmp 17) (.const (.pointer none)) t17 (.pointer none)) h2 o2) h2 fun t18 h3 =>
pickK t15 (.bool true) t18 fun t19 =>
mc t19 (fun k3 => k3 .ret [(4, (.int .i64 0)), (5, (.int .i64 1))] h3) (fun k3 =>
k3 .normal [(0, a0), (1, a1)] h3) (seqK (fun tT h4 =>
bareK (xnilCheck (get tT 0)) h4 fun t21 h5 =>
bareK (fad 1 t21) h5 fun t22 h6 =>
bareK (ld1 h6 t22) h6 fun t23 h7 =>
enterK C F.maps_Keys_Block [t23] h7 fun t24 h8 =>
enterK C F.slices_Sorted_string [t24] h8 fun t25 h9 =>
bareK (lenS t25) h9 fun t26 h10 =>
ms (fun k4 =>
L0 (get tT 0) (get tT 1) (.slice none 0 0) t25 t26 (.int .i64 0) h10 (blkK [0, 1, 6] 0 k4)) (seqK (fun tT_1 h11 =>
bareK (lenS (get tT_1 6)) h11 fun t59 h12 =>
ms (fun k5 =>
L1 (get tT_1 0) (get tT_1 1) (get tT_1 6) (get tT_1 6) t59 (.int .i64 0) h12 (blkK [6] 2 k5)) (seqK (fun tT_2 h13 =>
bareK (lenS (get tT_2 6)) h13 fun t82 h14 =>
K0 .ret [(4, t82), (5, (.int .i64 0))] h14) K0)) K0)) K0)

noncomputable def s_ids_Giver_Return_b0 (mg : GT) (mc : CT) (ms : ST) (P : Program) (C : CallF) (L0 : Value → Value → Value → Value → Value → Value → AHeap → K → Res) (L1 : Value → Value → Value → Value → Value → Value → AHeap → K → Res) (v0 : Value) (v1 : Value) (v6 : Value) (v25 : Value) (v26 : Value) (v27 : Value) (H : AHeap) (k : K) : Res :=
bareK (xbin P .lss T.int (.tmp 27) (.tmp 26) v27 v26) H fun t28 h11 =>
mc t28 (fun k5 => k5 .normal [(0, v0), (1, v1), (6, v6), (25, v25), (26, v26), (27, v27)] h11) (fun k5 =>
k5 (.exit 0) [(28, t28), (0, v0), (1, v1), (6, v6), (25, v25), (26, v26), (27, v27)] h11) (seqK (fun tT h12 =>
ms (fun k6 =>
bareK (ixS 1 (get tT 25) (get tT 27)) h12 fun t29 h13 =>
bareK (ld1 h13 t29) h13 fun t30 h14 =>
enterK C F.ids_Next [(get tT 1), t30] h14 fun t34 h15 =>
bareK (xextract t34 0) h15 fun t35 h16 =>
bareK (xextract t34 1) h16 fun t36 h17 =>
bareK (xbin P .neq T.api_Errno (.tmp 37) (.const (.int .i64 0)) t36 (.int .i64 0)) h17 fun t38 h18 =>
mc t38 (fun k7 => k7 .ret [(4, (.int .i64 0)), (5, t36)] h18) (fun k7 =>
k7 .normal [(0, (get tT 0)), (1, (get tT 1)), (6, (get tT 6)), (8, t30), (9, t35), (25, (get tT 25)), (26, (get tT 26)), (27, (get tT 27))] h18) (seqK (fun tT_1 h19 =>
bareK (xnilCheck (get tT_1 0)) h19 fun t41 h20 =>
bareK (fad 1 t41) h20 fun t42 h21 =>
bareK (ld1 h21 t42) h21 fun t43 h22 =>
bareK (xlookup P T.map_string_api_Block t43 (get tT_1 8) false h22) h22 fun t45 h23 =>
bothK (newv T.api_Block (.agg #[(.int .i64 0), (.int .i64 0)]) h23) fun t11 h24 =>
quietK (stN 2 h24 t11 t45) fun _ h25 =>
bareK (fad 0 t11) h25 fun t46 h26 =>
bareK (ld1 h26 t46) h26 fun t47 h27 =>
bareK (fad 1 t11) h27 fun t48 h28 =>
bareK (ld1 h28 t48) h28 fun t49 h29 =>
bareK (xbin P .add T.int (.tmp 47) (.tmp 49) t47 t49) h29 fun t50 h30 =>
bareK (xbin P .eql T.int (.tmp 50) (.tmp 51) t50 (get tT_1 9)) h30 fun t52 h31 =>
mc t52 (fun k8 => bothK (bldL T.string [(.string (mk []))] 1 [(0, (get tT_1 8))] h31) fun t55 h32 =>
bothK (app T.string 1 16 (get tT_1 6) (srcS 1 t55 h32) h32) fun t56 h33 =>
k8 .normal [(0, (get tT_1 0)), (1, (get tT_1 1)), (6, t56), (25, (get tT_1 25)), (26, (get tT_1 26)), (27, (get tT_1 27))] h33) (fun k8 =>
k8 .normal [(0, (get tT_1 0)), (1, (get tT_1 1)), (6, (get tT_1 6)), (25, (get tT_1 25)), (26, (get tT_1 26)), (27, (get tT_1 27))] h31) (blkK [0, 1, 6, 25, 26, 27] 1 k6)) (blkK [0, 1, 6, 25, 26, 27] 1 k6))) (seqK (fun tT_2 h34 =>
bareK (xbin P .add T.int (.tmp 27) (.const (.int .i64 1)) (get tT_2 27) (.int .i64 1)) h34 fun t57 h35 =>
k .normal [(0, (get tT_2 0)), (1, (get tT_2 1)), (6, (get tT_2 6)), (25, (get tT_2 25)), (26, (get tT_2 26)), (27, t57)] h35) (afterK [0, 1, 6, 25, 26, 27] k))) (afterK [0, 1, 6, 25, 26, 27] k))

noncomputable def s_ids_Giver_Return_b1 (mg : GT) (mc : CT) (ms : ST) (P : Program) (C : CallF) (L0 : Value → Value → Value → Value → Value → Value → AHeap → K → Res) (L1 : Value → Value → Value → Value → Value → Value → AHeap → K → Res) (v0 : Value) (v1 : Value) (v6 : Value) (v58 : Value) (v59 : Value) (v60 : Value) (H : AHeap) (k : K) : Res :=
bareK (xbin P .lss T.int (.tmp 60) (.tmp 59) v60 v59) H fun t61 h13 =>
mc t61 (fun k6 => k6 .normal [(0, v0), (1, v1), (6, v6), (58, v58), (59, v59), (60, v60)] h13) (fun k6 =>
k6 (.exit 2) [(61, t61), (0, v0), (1, v1), (6, v6), (58, v58), (59, v59), (60, v60)] h13) (seqK (fun tT h14 =>
ms (fun k7 =>
bareK (ixS 1 (get tT 58) (get tT 60)) h14 fun t62 h15 =>
bareK (ld1 h15 t62) h15 fun t63 h16 =>
bareK (xnilCheck (get tT 0)) h16 fun t67 h17 =>
bareK (fad 1 t67) h17 fun t68 h18 =>
bareK (ld1 h18 t68) h18 fun t69 h19 =>
bareK (xlookup P T.map_string_api_Block t69 t63 false h19) h19 fun t71 h20 =>
bareK (prt1 0 t71) h20 fun t72 h21 =>
enterK C F.strconv_Itoa [t72] h21 fun t73 h22 =>
enterK C F.model_Model_Put [(get tT 1), t63, t73] h22 fun t74 h23 =>
bareK (xnilCheck (get tT 0)) h23 fun t76 h24 =>
bareK (fad 1 t76) h24 fun t77 h25 =>
bareK (ld1 h25 t77) h25 fun t78 h26 =>
nextK C h26 (xbuiltin P .delete [T.map_string_api_Block, T.string] [t78, t63] h26) fun _ h27 =>
k7 .normal [(0, (get tT 0)), (1, (get tT 1)), (6, (get tT 6)), (58, (get tT 58)), (59, (get tT 59)), (60, (get tT 60))] h27) (seqK (fun tT_1 h28 =>
bareK (xbin P .add T.int (.tmp 60) (.const (.int .i64 1)) (get tT_1 60) (.int .i64 1)) h28 fun t80 h29 =>
k .normal [(0, (get tT_1 0)), (1, (get tT_1 1)), (6, (get tT_1 6)), (58, (get tT_1 58)), (59, (get tT_1 59)), (60, t80)] h29) (afterK [0, 1, 6, 58, 59, 60] k))) (afterK [0, 1, 6, 58, 59, 60] k))

theorem s_ids_Giver_Return_eq (M : CombL) (C : CallF) (LP : LoopH) (a0 : Value) (a1 : Value) (H : AHeap) : dBodyL M Tryz.prog hints C LP F.ids_Giver_Return [a0, a1] H = s_ids_Giver_Return M.b.g M.c M.s Tryz.prog C (fun v0 v1 v6 v25 v26 v27 H k => loopL M Tryz.prog hints C LP F.ids_Giver_Return 0 [(0, v0), (1, v1), (6, v6), (25, v25), (26, v26), (27, v27)] H k) (fun v0 v1 v6 v58 v59 v60 H k => loopL M Tryz.prog hints C LP F.ids_Giver_Return 1 [(0, v0), (1, v1), (6, v6), (58, v58), (59, v59), (60, v60)] H k) a0 a1 H (endK Tryz.prog [.tmp 4, .tmp 5]) := by kernel_rfl

theorem s_ids_Giver_Return_b0_eq (M : CombL) (C : CallF) (LP : LoopH) (v0 : Value) (v1 : Value) (v6 : Value) (v25 : Value) (v26 : Value) (v27 : Value) (H : AHeap) (k : K) : bodyL M Tryz.prog hints C LP F.ids_Giver_Return 0 [(0, v0), (1, v1), (6, v6), (25, v25), (26, v26), (27, v27)] H (afterK [0, 1, 6, 25, 26, 27] k) = s_ids_Giver_Return_b0 M.b.g M.c M.s Tryz.prog C (fun v0 v1 v6 v25 v26 v27 H k => loopL M Tryz.prog hints C LP F.ids_Giver_Return 0 [(0, v0), (1, v1), (6, v6), (25, v25), (26, v26), (27, v27)] H k) (fun v0 v1 v6 v58 v59 v60 H k => loopL M Tryz.prog hints C LP F.ids_Giver_Return 1 [(0, v0), (1, v1), (6, v6), (58, v58), (59, v59), (60, v60)] H k) v0 v1 v6 v25 v26 v27 H k := by kernel_rfl

theorem s_ids_Giver_Return_b1_eq (M : CombL) (C : CallF) (LP : LoopH) (v0 : Value) (v1 : Value) (v6 : Value) (v58 : Value) (v59 : Value) (v60 : Value) (H : AHeap) (k : K) : bodyL M Tryz.prog hints C LP F.ids_Giver_Return 1 [(0, v0), (1, v1), (6, v6), (58, v58), (59, v59), (60, v60)] H (afterK [0, 1, 6, 58, 59, 60] k) = s_ids_Giver_Return_b1 M.b.g M.c M.s Tryz.prog C (fun v0 v1 v6 v25 v26 v27 H k => loopL M Tryz.prog hints C LP F.ids_Giver_Return 0 [(0, v0), (1, v1), (6, v6), (25, v25), (26, v26), (27, v27)] H k) (fun v0 v1 v6 v58 v59 v60 H k => loopL M Tryz.prog hints C LP F.ids_Giver_Return 1 [(0, v0), (1, v1), (6, v6), (58, v58), (59, v59), (60, v60)] H k) v0 v1 v6 v58 v59 v60 H k := by kernel_rfl

/-! ticketline.ids.Take -/

noncomputable def s_ids_Take (mg : GT) (mc : CT) (ms : ST) (P : Program) (C : CallF) (a0 : Value) (a1 : Value) (a2 : Value) (H : AHeap) (K0 : K) : Res :=
bothK (newv T.api_Block (.agg #[(.int .i64 0), (.int .i64 0)]) H) fun t6 h1 =>
ms (fun k1 =>
bareK (xbin P .eql T.p_model_Model (.tmp 12) (.const (.pointer none)) a0 (.pointer none)) h1 fun t13 h2 =>
mc t13 (fun k2 => bareK (bldS #[(.int .i64 0), (.int .i64 0)] [(0, 1), (1, 1)] []) h2 fun t14 h3 =>
quietK (stN 2 h3 t6 t14) fun _ h4 =>
k2 .ret [(6, t6), (7, (.int .i64 1))] h4) (fun k2 =>
bareK (xbin P .lss T.int (.tmp 16) (.const (.int .i64 1)) a2 (.int .i64 1)) h2 fun t17 h5 =>
mg t17 false (fun o3 => o3 a2 h5) h5 fun t19 h6 =>
mg t17 false (fun o4 => bareK (xbin P .gtr T.int (.tmp 19) (.const (.int .i64 1000)) t19 (.int .i64 1000)) h6 o4) h6 fun t20 h7 =>
pickK t17 (.bool true) t20 fun t21 =>
mc t21 (fun k5 => bareK (bldS #[(.int .i64 0), (.int .i64 0)] [(0, 1), (1, 1)] []) h7 fun t22 h8 =>
quietK (stN 2 h8 t6 t22) fun _ h9 =>
k5 .ret [(6, t6), (7, (.int .i64 2))] h9) (fun k5 =>
k5 .normal [(0, a0), (1, a1), (2, a2), (6, t6)] h7) (afterK [0, 1, 2, 6] k2)) (blkK [0, 1, 2, 6] 0 k1)) (seqK (fun tT h10 =>
enterK C F.ids_Next [(get tT 0), (get tT 1)] h10 fun t26 h11 =>
bareK (xextract t26 0) h11 fun t27 h12 =>
bareK (xextract t26 1) h12 fun t28 h13 =>
ms (fun k6 =>
bareK (xbin P .neq T.api_Errno (.tmp 30) (.const (.int .i64 0)) t28 (.int .i64 0)) h13 fun t31 h14 =>
mc t31 (fun k7 => bareK (bldS #[(.int .i64 0), (.int .i64 0)] [(0, 1), (1, 1)] []) h14 fun t32 h15 =>
quietK (stN 2 h15 (get tT 6) t32) fun _ h16 =>
k7 .ret [(6, (get tT 6)), (7, t28)] h16) (fun k7 =>
bareK (xbin P .add T.int (.tmp 35) (.tmp 36) t27 (get tT 2)) h14 fun t37 h17 =>
bareK (xbin P .gtr T.int (.tmp 37) (.const (.int .i64 1099511627776)) t37 (.int .i64 1099511627776)) h17 fun t38 h18 =>
mc t38 (fun k8 => bareK (bldS #[(.int .i64 0), (.int .i64 0)] [(0, 1), (1, 1)] []) h18 fun t39 h19 =>
quietK (stN 2 h19 (get tT 6) t39) fun _ h20 =>
k8 .ret [(6, (get tT 6)), (7, (.int .i64 17))] h20) (fun k8 =>
k8 .normal [(0, (get tT 0)), (1, (get tT 1)), (2, (get tT 2)), (6, (get tT 6)), (8, t27)] h18) (afterK [0, 1, 2, 6, 8] k7)) (blkK [0, 1, 2, 6, 8] 1 k6)) (seqK (fun tT_1 h21 =>
bareK (xbin P .add T.int (.tmp 42) (.tmp 43) (get tT_1 8) (get tT_1 2)) h21 fun t44 h22 =>
enterK C F.strconv_Itoa [t44] h22 fun t45 h23 =>
enterK C F.model_Model_Put [(get tT_1 0), (get tT_1 1), t45] h23 fun t46 h24 =>
bareK (xbin P .neq T.api_Errno (.tmp 47) (.const (.int .i64 0)) t46 (.int .i64 0)) h24 fun t48 h25 =>
mc t48 (fun k9 => bareK (bldS #[(.int .i64 0), (.int .i64 0)] [(0, 1), (1, 1)] []) h25 fun t49 h26 =>
quietK (stN 2 h26 (get tT_1 6) t49) fun _ h27 =>
k9 .ret [(6, (get tT_1 6)), (7, t46)] h27) (fun k9 =>
k9 .normal [(2, (get tT_1 2)), (6, (get tT_1 6)), (8, (get tT_1 8))] h25) (seqK (fun tT_2 h28 =>
bareK (bldS #[(.int .i64 0), (.int .i64 0)] [(0, 1), (1, 1)] [(0, (get tT_2 8)), (1, (get tT_2 2))]) h28 fun t53 h29 =>
quietK (stN 2 h29 (get tT_2 6) t53) fun _ h30 =>
K0 .ret [(6, (get tT_2 6)), (7, (.int .i64 0))] h30) K0)) K0)) K0)

theorem s_ids_Take_eq (M : CombL) (C : CallF) (LP : LoopH) (a0 : Value) (a1 : Value) (a2 : Value) (H : AHeap) : dBodyL M Tryz.prog hints C LP F.ids_Take [a0, a1, a2] H = s_ids_Take M.b.g M.c M.s Tryz.prog C a0 a1 a2 H (endK Tryz.prog [.cell 6 T.api_Block, .tmp 7]) := by kernel_rfl

/-! (*ticketline.model.Model).at -/

noncomputable def s_model_Model_at (mg : GT) (mc : CT) (ms : ST) (P : Program) (C : CallF) (a0 : Value) (a1 : Value) (a2 : Value) (H : AHeap) (K0 : K) : Res :=
bareK (xbin P .eql T.p_model_Model (.tmp 13) (.const (.pointer none)) a0 (.pointer none)) H fun t14 h1 =>
mc t14 (fun k1 => k1 .ret [(6, (.int .i64 0)), (7, (.bool false)), (8, (.int .i64 1))] h1) (fun k1 =>
k1 .normal [(0, a0), (1, a1), (2, a2)] h1) (seqK (fun tT h2 =>
enterK C F.model_check [(get tT 1), (get tT 2)] h2 fun t17 h3 =>
bareK (xbin P .neq T.api_Errno (.tmp 18) (.const (.int .i64 0)) t17 (.int .i64 0)) h3 fun t19 h4 =>
mc t19 (fun k2 => k2 .ret [(6, (.int .i64 0)), (7, (.bool false)), (8, t17)] h4) (fun k2 =>
k2 .normal [(0, (get tT 0)), (1, (get tT 1))] h4) (seqK (fun tT_1 h5 =>
callK P C (.func (.func F.model_Model_place) #[(get tT_1 0)] #[]) [(get tT_1 1)] h5 fun t26 h6 =>
bareK (xextract t26 0) h6 fun t27 h7 =>
bareK (xextract t26 1) h7 fun t28 h8 =>
K0 .ret [(6, t27), (7, t28), (8, (.int .i64 0))] h8) K0)) K0)

theorem s_model_Model_at_eq (M : CombL) (C : CallF) (LP : LoopH) (a0 : Value) (a1 : Value) (a2 : Value) (H : AHeap) : dBodyL M Tryz.prog hints C LP F.model_Model_at [a0, a1, a2] H = s_model_Model_at M.b.g M.c M.s Tryz.prog C a0 a1 a2 H (endK Tryz.prog [.tmp 6, .tmp 7, .tmp 8]) := by kernel_rfl

/-! (*ticketline.model.Model).set -/

noncomputable def s_model_Model_set (mg : GT) (mc : CT) (ms : ST) (P : Program) (C : CallF) (a0 : Value) (a1 : Value) (a2 : Value) (a3 : Value) (H : AHeap) (K0 : K) : Res :=
bothK (newv T.api_Pair a3 H) fun t7 h1 =>
ms (fun k1 =>
mc a2 (fun k2 => bareK (xnilCheck a0) h1 fun t23 h2 =>
bareK (fad 0 t23) h2 fun t24 h3 =>
bareK (ld1 h3 t24) h3 fun t25 h4 =>
bareK (ldN 2 h4 t7) h4 fun t27 h5 =>
bareK (ixS 2 t25 a1) h5 fun t28 h6 =>
quietK (stN 2 h6 t28 t27) fun _ h7 =>
checkK true <|
k2 .normal [] h7) (fun k2 =>
bareK (xnilCheck a0) h1 fun t31 h8 =>
bareK (fad 0 t31) h8 fun t32 h9 =>
bareK (ld1 h9 t32) h9 fun t33 h10 =>
bareK (lenS t33) h10 fun t34 h11 =>
bareK (xbin P .eql T.int (.tmp 34) (.const (.int .i64 20000)) t34 (.int .i64 20000)) h11 fun t35 h12 =>
mc t35 (fun k3 => k3 .ret [(8, (.int .i64 7))] h12) (fun k3 =>
bareK (xnilCheck a0) h12 fun t11 h13 =>
bareK (fad 0 t11) h13 fun t12 h14 =>
bareK (ld1 h14 t12) h14 fun t13 h15 =>
bareK (ldN 2 h15 t7) h15 fun t15 h16 =>
bothK (bldL T.api_Pair [(.string (mk [])), (.string (mk []))] 1 [(0, t15)] h16) fun t16 h17 =>
enterK C F.slices_Insert_Pair [t13, a1, t16] h17 fun t17 h18 =>
bareK (xnilCheck a0) h18 fun t18 h19 =>
bareK (fad 0 t18) h19 fun t19 h20 =>
quietK (st1 h20 t19 t17) fun _ h21 =>
checkK (okV (some true) none h17 h18 h12 h12 && true) <|
k3 .normal [] h21) (afterK [] k2)) (blkK [] 0 k1)) (seqK (fun tT h22 =>
K0 .ret [(8, (.int .i64 0))] h22) K0)

theorem s_model_Model_set_eq (M : CombL) (C : CallF) (LP : LoopH) (a0 : Value) (a1 : Value) (a2 : Value) (a3 : Value) (H : AHeap) : dBodyL M Tryz.prog hints C LP F.model_Model_set [a0, a1, a2, a3] H = s_model_Model_set M.b.g M.c M.s Tryz.prog C a0 a1 a2 a3 H (endK Tryz.prog [.tmp 8]) := by kernel_rfl

/-! ticketline.ids.Next -/

noncomputable def s_ids_Next (mg : GT) (mc : CT) (ms : ST) (P : Program) (C : CallF) (a0 : Value) (a1 : Value) (H : AHeap) (K0 : K) : Res :=
enterK C F.ids_check [a0, a1] H fun t13 h1 =>
bareK (xbin P .neq T.api_Errno (.tmp 14) (.const (.int .i64 0)) t13 (.int .i64 0)) h1 fun t15 h2 =>
mc t15 (fun k1 => k1 .ret [(4, (.int .i64 0)), (5, t13)] h2) (fun k1 =>
k1 .normal [(0, a0), (1, a1)] h2) (seqK (fun tT h3 =>
enterK C F.model_Model_Get [(get tT 0), (get tT 1)] h3 fun t20 h4 =>
bareK (xextract t20 0) h4 fun t21 h5 =>
bareK (xextract t20 1) h5 fun t22 h6 =>
bareK (xbin P .neq T.api_Errno (.tmp 23) (.const (.int .i64 0)) t22 (.int .i64 0)) h6 fun t24 h7 =>
mc t24 (fun k2 => k2 .ret [(4, (.int .i64 1)), (5, (.int .i64 0))] h7) (fun k2 =>
k2 .normal [(7, t21)] h7) (seqK (fun tT_1 h8 =>
enterK C F.strconv_Atoi [(get tT_1 7)] h8 fun t27 h9 =>
bareK (xextract t27 0) h9 fun t28 h10 =>
bareK (xextract t27 1) h10 fun t29 h11 =>
bareK (xbin P .neq T.error (.tmp 30) (.const .nilIface) t29 .nilIface) h11 fun t31 h12 =>
mg t31 false (fun o3 => o3 t28 h12) h12 fun t33 h13 =>
mg t31 false (fun o4 => bareK (xbin P .lss T.int (.tmp 33) (.const (.int .i64 1)) t33 (.int .i64 1)) h13 o4) h13 fun t34 h14 =>
pickK t31 (.bool true) t34 fun t35 =>
mg t35 false (fun o5 => o5 t28 h14) h14 fun t37 h15 =>
mg t35 false (fun o6 => bareK (xbin P .gtr T.int (.tmp 37) (.const (.int .i64 1099511627776)) t37 (.int .i64 1099511627776)) h15 o6) h15 fun t38 h16 =>
pickK t35 (.bool true) t38 fun t39 =>
mg t39 false (fun o7 => o7 t28 h16) h16 fun t41 h17 =>
mg t39 false (fun o8 => enterK C F.strconv_Itoa [t41] h17 o8) h17 fun t42 h18 =>
mg t39 false (fun o9 => o9 (get tT_1 7) h18) h18 fun t43 h19 =>
mg t39 false (fun o10 => bareK (xbin P .neq T.string (.tmp 42) (.tmp 43) t42 t43) h19 o10) h19 fun t44 h20 =>
pickK t39 (.bool true) t44 fun t45 =>
mc t45 (fun k11 => k11 .ret [(4, (.int .i64 0)), (5, (.int .i64 12))] h20) (fun k11 =>
k11 .normal [(9, t28)] h20) (seqK (fun tT_2 h21 =>
K0 .ret [(4, (get tT_2 9)), (5, (.int .i64 0))] h21) K0)) K0)) K0)

theorem s_ids_Next_eq (M : CombL) (C : CallF) (LP : LoopH) (a0 : Value) (a1 : Value) (H : AHeap) : dBodyL M Tryz.prog hints C LP F.ids_Next [a0, a1] H = s_ids_Next M.b.g M.c M.s Tryz.prog C a0 a1 H (endK Tryz.prog [.tmp 4, .tmp 5]) := by kernel_rfl

/-! (*ticketline.ids.Giver).set -/

noncomputable def s_ids_Giver_set (mg : GT) (mc : CT) (ms : ST) (P : Program) (C : CallF) (a0 : Value) (a1 : Value) (a2 : Value) (H : AHeap) (K0 : K) : Res :=
bothK (newv T.api_Block a2 H) fun t5 h1 =>
bareK (fad 1 t5) h1 fun t6 h2 =>
bareK (ld1 h2 t6) h2 fun t7 h3 =>
bareK (xbin P .eql T.int (.tmp 7) (.const (.int .i64 0)) t7 (.int .i64 0)) h3 fun t8 h4 =>
mc t8 (fun k1 => bareK (xnilCheck a0) h4 fun t10 h5 =>
bareK (fad 1 t10) h5 fun t11 h6 =>
bareK (ld1 h6 t11) h6 fun t12 h7 =>
nextK C h7 (xbuiltin P .delete [T.map_string_api_Block, T.string] [t12, a1] h7) fun _ h8 =>
k1 .ret [] h8) (fun k1 =>
k1 .normal [(0, a0), (1, a1), (5, t5)] h4) (seqK (fun tT h9 =>
bareK (xnilCheck (get tT 0)) h9 fun t15 h10 =>
bareK (fad 1 t15) h10 fun t16 h11 =>
bareK (ld1 h11 t16) h11 fun t17 h12 =>
bareK (ldN 2 h12 (get tT 5)) h12 fun t19 h13 =>
quietK (xmapUpdate P T.map_string_api_Block t17 (get tT 1) t19 h13) fun _ h14 =>
checkK true <|
K0 .normal ((19, t19) :: (18, (get tT 1)) :: (17, t17) :: (16, t16) :: (15, t15) :: (14, (get tT 0)) :: tT) h14) K0)

theorem s_ids_Giver_set_eq (M : CombL) (C : CallF) (LP : LoopH) (a0 : Value) (a1 : Value) (a2 : Value) (H : AHeap) : dBodyL M Tryz.prog hints C LP F.ids_Giver_set [a0, a1, a2] H = s_ids_Giver_set M.b.g M.c M.s Tryz.prog C a0 a1 a2 H (endK Tryz.prog []) := by kernel_rfl

/-! (*ticketline.model.Model).Len -/

noncomputable def s_model_Model_Len (mg : GT) (mc : CT) (ms : ST) (P : Program) (C : CallF) (a0 : Value) (H : AHeap) (K0 : K) : Res :=
bareK (xbin P .eql T.p_model_Model (.tmp 3) (.const (.pointer none)) a0 (.pointer none)) H fun t4 h1 =>
mc t4 (fun k1 => k1 .ret [(2, (.int .i64 0))] h1) (fun k1 =>
k1 .normal [(0, a0)] h1) (seqK (fun tT h2 =>
bareK (xnilCheck (get tT 0)) h2 fun t6 h3 =>
bareK (fad 0 t6) h3 fun t7 h4 =>
bareK (ld1 h4 t7) h4 fun t8 h5 =>
bareK (lenS t8) h5 fun t9 h6 =>
K0 .ret [(2, t9)] h6) K0)

theorem s_model_Model_Len_eq (M : CombL) (C : CallF) (LP : LoopH) (a0 : Value) (H : AHeap) : dBodyL M Tryz.prog hints C LP F.model_Model_Len [a0] H = s_model_Model_Len M.b.g M.c M.s Tryz.prog C a0 H (endK Tryz.prog [.tmp 2]) := by kernel_rfl

/-! slices.Equal[[]ticketline.api.Pair,ticketline.api.Pair] -/

noncomputable def s_slices_Equal_Pair (mg : GT) (mc : CT) (ms : ST) (P : Program) (C : CallF) (L0 : Value → Value → Value → Value → AHeap → K → Res) (a0 : Value) (a1 : Value) (H : AHeap) (K0 : K) : Res :=
bareK (lenS a0) H fun t7 h1 =>
bareK (lenS a1) h1 fun t9 h2 =>
bareK (xbin P .neq T.int (.tmp 7) (.tmp 9) t7 t9) h2 fun t10 h3 =>
mc t10 (fun k1 => k1 .ret [(4, (.bool false))] h3) (fun k1 =>
k1 .normal [(0, a0), (1, a1)] h3) (seqK (fun tT h4 =>
bareK (lenS (get tT 0)) h4 fun t12 h5 =>
ms (fun k2 =>
L0 (get tT 0) (get tT 1) t12 (.int .i64 0) h5 (blkK [] 0 k2)) (seqK (fun tT_1 h6 =>
K0 .ret [(4, (.bool true))] h6) K0)) K0)

noncomputable def s_slices_Equal_Pair_b0 (mg : GT) (mc : CT) (ms : ST) (P : Program) (C : CallF) (L0 : Value → Value → Value → Value → AHeap → K → Res) (v0 : Value) (v1 : Value) (v12 : Value) (v13 : Value) (H : AHeap) (k : K) : Res :=
bareK (xbin P .lss T.int (.tmp 13) (.tmp 12) v13 v12) H fun t14 h6 =>
mc t14 (fun k3 => k3 .normal [(0, v0), (1, v1), (12, v12), (13, v13)] h6) (fun k3 =>
k3 (.exit 0) [(14, t14), (0, v0), (1, v1), (12, v12), (13, v13)] h6) (seqK (fun tT h7 =>
ms (fun k4 =>
bareK (ixS 2 (get tT 0) (get tT 13)) h7 fun t18 h8 =>
bareK (ldN 2 h8 t18) h8 fun t19 h9 =>
bareK (ixS 2 (get tT 1) (get tT 13)) h9 fun t22 h10 =>
bareK (ldN 2 h10 t22) h10 fun t23 h11 =>
bareK (xbin P .neq T.api_Pair (.tmp 19) (.tmp 23) t19 t23) h11 fun t24 h12 =>
checkK true <|
mc t24 (fun k5 => k5 .ret [(4, (.bool false))] h12) (fun k5 =>
k5 .normal [(0, (get tT 0)), (1, (get tT 1)), (12, (get tT 12)), (13, (get tT 13))] h12) (blkK [0, 1, 12, 13] 1 k4)) (seqK (fun tT_1 h13 =>
bareK (xbin P .add T.int (.tmp 13) (.const (.int .i64 1)) (get tT_1 13) (.int .i64 1)) h13 fun t25 h14 =>
k .normal [(0, (get tT_1 0)), (1, (get tT_1 1)), (12, (get tT_1 12)), (13, t25)] h14) (afterK [0, 1, 12, 13] k))) (afterK [0, 1, 12, 13] k))

theorem s_slices_Equal_Pair_eq (M : CombL) (C : CallF) (LP : LoopH) (a0 : Value) (a1 : Value) (H : AHeap) : dBodyL M Tryz.prog hints C LP F.slices_Equal_Pair [a0, a1] H = s_slices_Equal_Pair M.b.g M.c M.s Tryz.prog C (fun v0 v1 v12 v13 H k => loopL M Tryz.prog hints C LP F.slices_Equal_Pair 0 [(0, v0), (1, v1), (12, v12), (13, v13)] H k) a0 a1 H (endK Tryz.prog [.tmp 4]) := by kernel_rfl

theorem s_slices_Equal_Pair_b0_eq (M : CombL) (C : CallF) (LP : LoopH) (v0 : Value) (v1 : Value) (v12 : Value) (v13 : Value) (H : AHeap) (k : K) : bodyL M Tryz.prog hints C LP F.slices_Equal_Pair 0 [(0, v0), (1, v1), (12, v12), (13, v13)] H (afterK [0, 1, 12, 13] k) = s_slices_Equal_Pair_b0 M.b.g M.c M.s Tryz.prog C (fun v0 v1 v12 v13 H k => loopL M Tryz.prog hints C LP F.slices_Equal_Pair 0 [(0, v0), (1, v1), (12, v12), (13, v13)] H k) v0 v1 v12 v13 H k := by kernel_rfl

/-! (*ticketline.model.Model).Pairs -/

noncomputable def s_model_Model_Pairs (mg : GT) (mc : CT) (ms : ST) (P : Program) (C : CallF) (a0 : Value) (H : AHeap) (K0 : K) : Res :=
bareK (xbin P .eql T.p_model_Model (.tmp 3) (.const (.pointer none)) a0 (.pointer none)) H fun t4 h1 =>
mc t4 (fun k1 => k1 .ret [(2, (.slice none 0 0))] h1) (fun k1 =>
k1 .normal [(0, a0)] h1) (seqK (fun tT h2 =>
bareK (xnilCheck (get tT 0)) h2 fun t6 h3 =>
bareK (fad 0 t6) h3 fun t7 h4 =>
bareK (ld1 h4 t7) h4 fun t8 h5 =>
enterK C F.slices_Clone_Pair [t8] h5 fun t9 h6 =>
K0 .ret [(2, t9)] h6) K0)

theorem s_model_Model_Pairs_eq (M : CombL) (C : CallF) (LP : LoopH) (a0 : Value) (H : AHeap) : dBodyL M Tryz.prog hints C LP F.model_Model_Pairs [a0] H = s_model_Model_Pairs M.b.g M.c M.s Tryz.prog C a0 H (endK Tryz.prog [.tmp 2]) := by kernel_rfl

/-! (*ticketline.model.Model).Get -/

noncomputable def s_model_Model_Get (mg : GT) (mc : CT) (ms : ST) (P : Program) (C : CallF) (a0 : Value) (a1 : Value) (H : AHeap) (K0 : K) : Res :=
enterK C F.model_Model_at [a0, a1, (.slice none 0 0)] H fun t12 h1 =>
bareK (xextract t12 0) h1 fun t13 h2 =>
bareK (xextract t12 1) h2 fun t14 h3 =>
bareK (xextract t12 2) h3 fun t15 h4 =>
ms (fun k1 =>
bareK (xbin P .neq T.api_Errno (.tmp 17) (.const (.int .i64 0)) t15 (.int .i64 0)) h4 fun t18 h5 =>
mc t18 (fun k2 => k2 .ret [(4, (.string (mk []))), (5, t15)] h5) (fun k2 =>
bareK (xun P .not t14) h5 fun t22 h6 =>
mc t22 (fun k3 => k3 .ret [(4, (.string (mk []))), (5, (.int .i64 9))] h6) (fun k3 =>
k3 .normal [(0, a0), (6, t13)] h6) (afterK [0, 6] k2)) (blkK [0, 6] 0 k1)) (seqK (fun tT h7 =>
bareK (xnilCheck (get tT 0)) h7 fun t24 h8 =>
bareK (fad 0 t24) h8 fun t25 h9 =>
bareK (ld1 h9 t25) h9 fun t26 h10 =>
bareK (ixS 2 t26 (get tT 6)) h10 fun t28 h11 =>
bareK (fad 1 t28) h11 fun t29 h12 =>
bareK (ld1 h12 t29) h12 fun t30 h13 =>
K0 .ret [(4, t30), (5, (.int .i64 0))] h13) K0)

theorem s_model_Model_Get_eq (M : CombL) (C : CallF) (LP : LoopH) (a0 : Value) (a1 : Value) (H : AHeap) : dBodyL M Tryz.prog hints C LP F.model_Model_Get [a0, a1] H = s_model_Model_Get M.b.g M.c M.s Tryz.prog C a0 a1 H (endK Tryz.prog [.tmp 4, .tmp 5]) := by kernel_rfl

/-! ticketline.ticketlinelaw47.counter -/

noncomputable def s_law_counter (mg : GT) (mc : CT) (ms : ST) (P : Program) (C : CallF) (L0 : Value → Value → Value → AHeap → K → Res) (a0 : Value) (H : AHeap) (K0 : K) : Res :=
ms (fun k1 =>
L0 a0 (.int .i64 0) (.int .i64 0) H (blkK [0, 3] 0 k1)) (seqK (fun tT h1 =>
bareK (xbin P .lss T.int (.tmp 33) (.const (.int .i64 1)) (get tT 3) (.int .i64 1)) h1 fun t34 h2 =>
mg t34 false (fun o2 => o2 (get tT 3) h2) h2 fun t36 h3 =>
mg t34 false (fun o3 => bareK (xbin P .gtr T.int (.tmp 36) (.const (.int .i64 1099511627776)) t36 (.int .i64 1099511627776)) h3 o3) h3 fun t37 h4 =>
pickK t34 (.bool true) t37 fun t38 =>
mg t38 false (fun o4 => o4 (get tT 3) h4) h4 fun t40 h5 =>
mg t38 false (fun o5 => enterK C F.law_decimal [t40] h5 o5) h5 fun t41 h6 =>
mg t38 false (fun o6 => o6 (get tT 0) h6) h6 fun t42 h7 =>
mg t38 false (fun o7 => bareK (xbin P .neq T.string (.tmp 41) (.tmp 42) t41 t42) h7 o7) h7 fun t43 h8 =>
pickK t38 (.bool true) t43 fun t44 =>
mc t44 (fun k8 => k8 .ret [(2, (.int .i64 0))] h8) (fun k8 =>
k8 .normal [(3, (get tT 3))] h8) (seqK (fun tT_1 h9 =>
K0 .ret [(2, (get tT_1 3))] h9) K0)) K0)

noncomputable def s_law_counter_b0 (mg : GT) (mc : CT) (ms : ST) (P : Program) (C : CallF) (L0 : Value → Value → Value → AHeap → K → Res) (v0 : Value) (v3 : Value) (v4 : Value) (H : AHeap) (k : K) : Res :=
bareK (lenT v0) H fun t7 h1 =>
bareK (xbin P .lss T.int (.tmp 5) (.tmp 7) v4 t7) h1 fun t8 h2 =>
mc t8 (fun k2 => k2 .normal [(0, v0), (3, v3), (4, v4)] h2) (fun k2 =>
k2 (.exit 0) [(8, t8), (7, t7), (6, v0), (5, v4), (0, v0), (3, v3), (4, v4)] h2) (seqK (fun tT h3 =>
ms (fun k3 =>
bareK (xindex P T.string (get tT 0) (get tT 4)) h3 fun t13 h4 =>
bareK (xbin P .lss T.uint8 (.tmp 13) (.const (.int .u8 48)) t13 (.int .u8 48)) h4 fun t14 h5 =>
mg t14 false (fun o4 => o4 (get tT 0) h5) h5 fun t16 h6 =>
mg t14 false (fun o5 => o5 (get tT 4) h6) h6 fun t17 h7 =>
mg t14 false (fun o6 => bareK (xindex P T.string t16 t17) h7 o6) h7 fun t18 h8 =>
mg t14 false (fun o7 => bareK (xbin P .gtr T.uint8 (.tmp 18) (.const (.int .u8 57)) t18 (.int .u8 57)) h8 o7) h8 fun t19 h9 =>
pickK t14 (.bool true) t19 fun t20 =>
mg t20 false (fun o8 => o8 (get tT 4) h9) h9 fun t22 h10 =>
mg t20 false (fun o9 => bareK (xbin P .geq T.int (.tmp 22) (.const (.int .i64 13)) t22 (.int .i64 13)) h10 o9) h10 fun t23 h11 =>
pickK t20 (.bool true) t23 fun t24 =>
mc t24 (fun k10 => k10 .ret [(2, (.int .i64 0))] h11) (fun k10 =>
k10 .normal [(0, (get tT 0)), (3, (get tT 3)), (4, (get tT 4))] h11) (seqK (fun tT_1 h12 =>
bareK (xbin P .mul T.int (.const (.int .i64 10)) (.tmp 25) (.int .i64 10) (get tT_1 3)) h12 fun t26 h13 =>
bareK (xindex P T.string (get tT_1 0) (get tT_1 4)) h13 fun t29 h14 =>
bareK (xbin P .sub T.uint8 (.tmp 29) (.const (.int .u8 48)) t29 (.int .u8 48)) h14 fun t30 h15 =>
bothK (xconv P T.uint8 T.int t30 h15) fun t31 h16 =>
bareK (xbin P .add T.int (.tmp 26) (.tmp 31) t26 t31) h16 fun t32 h17 =>
k3 .normal [(0, (get tT_1 0)), (3, t32), (4, (get tT_1 4))] h17) (blkK [0, 3, 4] 1 k3))) (seqK (fun tT_2 h18 =>
bareK (xbin P .add T.int (.tmp 9) (.const (.int .i64 1)) (get tT_2 4) (.int .i64 1)) h18 fun t10 h19 =>
k .normal [(0, (get tT_2 0)), (3, (get tT_2 3)), (4, t10)] h19) (afterK [0, 3, 4] k))) (afterK [0, 3, 4] k))

theorem s_law_counter_eq (M : CombL) (C : CallF) (LP : LoopH) (a0 : Value) (H : AHeap) : dBodyL M Tryz.prog hints C LP F.law_counter [a0] H = s_law_counter M.b.g M.c M.s Tryz.prog C (fun v0 v3 v4 H k => loopL M Tryz.prog hints C LP F.law_counter 0 [(0, v0), (3, v3), (4, v4)] H k) a0 H (endK Tryz.prog [.tmp 2]) := by kernel_rfl

theorem s_law_counter_b0_eq (M : CombL) (C : CallF) (LP : LoopH) (v0 : Value) (v3 : Value) (v4 : Value) (H : AHeap) (k : K) : bodyL M Tryz.prog hints C LP F.law_counter 0 [(0, v0), (3, v3), (4, v4)] H (afterK [0, 3, 4] k) = s_law_counter_b0 M.b.g M.c M.s Tryz.prog C (fun v0 v3 v4 H k => loopL M Tryz.prog hints C LP F.law_counter 0 [(0, v0), (3, v3), (4, v4)] H k) v0 v3 v4 H k := by kernel_rfl

/-! ticketline.model.check -/

noncomputable def s_model_check (mg : GT) (mc : CT) (ms : ST) (P : Program) (C : CallF) (a0 : Value) (a1 : Value) (H : AHeap) (K0 : K) : Res :=
ms (fun k1 =>
bareK (xbin P .eql T.string (.tmp 6) (.const (.string (mk []))) a0 (.string (mk []))) H fun t7 h1 =>
mc t7 (fun k2 => k2 .ret [(4, (.int .i64 2))] h1) (fun k2 =>
bareK (lenT a0) h1 fun t10 h2 =>
bareK (xbin P .gtr T.int (.tmp 10) (.const (.int .i64 24)) t10 (.int .i64 24)) h2 fun t11 h3 =>
mg t11 false (fun o3 => o3 a1 h3) h3 fun t13 h4 =>
mg t11 false (fun o4 => enterK C F.slices_ContainsFunc_string [t13, (.func (.func F.model_check_1) #[] #[])] h4 o4) h4 fun t14 h5 =>
pickK t11 (.bool true) t14 fun t15 =>
mc t15 (fun k5 => k5 .ret [(4, (.int .i64 5))] h5) (fun k5 =>
k5 .normal [] h5) (afterK [] k2)) (blkK [] 0 k1)) (seqK (fun tT h6 =>
K0 .ret [(4, (.int .i64 0))] h6) K0)

theorem s_model_check_eq (M : CombL) (C : CallF) (LP : LoopH) (a0 : Value) (a1 : Value) (H : AHeap) : dBodyL M Tryz.prog hints C LP F.model_check [a0, a1] H = s_model_check M.b.g M.c M.s Tryz.prog C a0 a1 H (endK Tryz.prog [.tmp 4]) := by kernel_rfl

/-! (*ticketline.model.Model).place -/

noncomputable def s_model_Model_place (mg : GT) (mc : CT) (ms : ST) (P : Program) (C : CallF) (a0 : Value) (a1 : Value) (H : AHeap) (K0 : K) : Res :=
bareK (xnilCheck a0) H fun t7 h1 =>
bareK (fad 0 t7) h1 fun t8 h2 =>
bareK (ld1 h2 t8) h2 fun t9 h3 =>
enterK C F.slices_BinarySearchFunc_string [t9, a1, (.func (.func F.model_Model_place_1) #[] #[])] h3 fun t11 h4 =>
bareK (xextract t11 0) h4 fun t12 h5 =>
bareK (xextract t11 1) h5 fun t13 h6 =>
K0 .ret [(4, t12), (5, t13)] h6

theorem s_model_Model_place_eq (M : CombL) (C : CallF) (LP : LoopH) (a0 : Value) (a1 : Value) (H : AHeap) : dBodyL M Tryz.prog hints C LP F.model_Model_place [a0, a1] H = s_model_Model_place M.b.g M.c M.s Tryz.prog C a0 a1 H (endK Tryz.prog [.tmp 4, .tmp 5]) := by kernel_rfl

/-! slices.Insert[[]ticketline.api.Pair,ticketline.api.Pair] -/

noncomputable def s_slices_Insert_Pair (mg : GT) (mc : CT) (ms : ST) (P : Program) (C : CallF) (a0 : Value) (a1 : Value) (a2 : Value) (H : AHeap) (K0 : K) : Res :=
bareK (slS T.api_Pair 2 a0 (some a1) none none H) H fun t12 h1 =>
bareK (lenS a2) h1 fun t14 h2 =>
bareK (xbin P .eql T.int (.tmp 15) (.const (.int .i64 0)) t14 (.int .i64 0)) h2 fun t16 h3 =>
mc t16 (fun k1 => k1 .ret [(6, a0)] h3) (fun k1 =>
k1 .normal [(0, a0), (1, a1), (2, a2), (7, t14)] h3) (seqK (fun tT h4 =>
bareK (lenS (get tT 0)) h4 fun t19 h5 =>
bareK (xbin P .eql T.int (.tmp 20) (.tmp 21) (get tT 1) t19) h5 fun t22 h6 =>
mc t22 (fun k2 => bothK (app T.api_Pair 2 32 (get tT 0) (srcS 2 (get tT 2) h6) h6) fun t25 h7 =>
k2 .ret [(6, t25)] h7) (fun k2 =>
k2 .normal [(0, (get tT 0)), (1, (get tT 1)), (2, (get tT 2)), (7, (get tT 7)), (8, t19)] h6) (seqK (fun tT_1 h8 =>
bareK (xbin P .add T.int (.tmp 26) (.tmp 27) (get tT_1 8) (get tT_1 7)) h8 fun t28 h9 =>
nextK C h9 (xbuiltin P .cap [T.sl_api_Pair] [(get tT_1 0)] h9) fun t30 h10 =>
bareK (xbin P .gtr T.int (.tmp 28) (.tmp 30) t28 t30) h10 fun t31 h11 =>
mc t31 (fun k3 => bareK (slS T.api_Pair 2 (get tT_1 0) none (some (get tT_1 1)) none h11) h11 fun t34 h12 =>
bareK (xbin P .add T.int (.tmp 35) (.tmp 36) (get tT_1 8) (get tT_1 7)) h12 fun t37 h13 =>
bareK (xbin P .sub T.int (.tmp 37) (.tmp 38) t37 (get tT_1 1)) h13 fun t39 h14 =>
bothK (app T.api_Pair 2 32 t34 (srcZ [(.string (mk [])), (.string (mk []))] 32 t39) h14) fun t40 h15 =>
bareK (slS T.api_Pair 2 t40 (some (get tT_1 1)) none none h15) h15 fun t43 h16 =>
bothK (cpy 2 t43 (get tT_1 2) h16) fun t45 h17 =>
bareK (xbin P .add T.int (.tmp 47) (.tmp 48) (get tT_1 1) (get tT_1 7)) h17 fun t49 h18 =>
bareK (slS T.api_Pair 2 t40 (some t49) none none h18) h18 fun t50 h19 =>
bareK (slS T.api_Pair 2 (get tT_1 0) (some (get tT_1 1)) none none h19) h19 fun t53 h20 =>
bothK (cpy 2 t50 t53 h20) fun t54 h21 =>
checkK true <|
k3 .ret [(6, t40)] h21) (fun k3 =>
k3 .normal [(0, (get tT_1 0)), (1, (get tT_1 1)), (2, (get tT_1 2)), (7, (get tT_1 7)), (8, (get tT_1 8))] h11) (seqK (fun tT_2 h22 =>
bareK (xbin P .add T.int (.tmp 57) (.tmp 58) (get tT_2 8) (get tT_2 7)) h22 fun t59 h23 =>
bareK (slS T.api_Pair 2 (get tT_2 0) none (some t59) none h23) h23 fun t60 h24 =>
bareK (xbin P .add T.int (.tmp 63) (.tmp 64) (get tT_2 1) (get tT_2 7)) h24 fun t65 h25 =>
bareK (slS T.api_Pair 2 t60 (some t65) none none h25) h25 fun t66 h26 =>
bareK (xext P Tryz.f56 [(get tT_2 2), t66] h26) h26 fun t67 h27 =>
bareK (xun P .not t67) h27 fun t68 h28 =>
mc t68 (fun k4 => bareK (xbin P .add T.int (.tmp 70) (.tmp 71) (get tT_2 1) (get tT_2 7)) h28 fun t72 h29 =>
bareK (slS T.api_Pair 2 t60 (some t72) none none h29) h29 fun t73 h30 =>
bareK (slS T.api_Pair 2 t60 (some (get tT_2 1)) none none h30) h30 fun t76 h31 =>
bothK (cpy 2 t73 t76 h31) fun t77 h32 =>
checkK true <|
bareK (slS T.api_Pair 2 t60 (some (get tT_2 1)) none none h32) h32 fun t80 h33 =>
bothK (cpy 2 t80 (get tT_2 2) h33) fun t82 h34 =>
k4 .ret [(6, t60)] h34) (fun k4 =>
k4 .normal [(0, t60), (1, (get tT_2 1)), (2, (get tT_2 2)), (7, (get tT_2 7)), (8, (get tT_2 8))] h28) (seqK (fun tT_3 h35 =>
bareK (slS T.api_Pair 2 (get tT_3 0) (some (get tT_3 8)) none none h35) h35 fun t86 h36 =>
bothK (cpy 2 t86 (get tT_3 2) h36) fun t88 h37 =>
bareK (slS T.api_Pair 2 (get tT_3 0) (some (get tT_3 1)) none none h37) h37 fun t91 h38 =>
enterK C F.slices_rotateRight_Pair [t91, (get tT_3 7)] h38 fun t93 h39 =>
K0 .ret [(6, (get tT_3 0))] h39) K0)) K0)) K0)) K0)

theorem s_slices_Insert_Pair_eq (M : CombL) (C : CallF) (LP : LoopH) (a0 : Value) (a1 : Value) (a2 : Value) (H : AHeap) : dBodyL M Tryz.prog hints C LP F.slices_Insert_Pair [a0, a1, a2] H = s_slices_Insert_Pair M.b.g M.c M.s Tryz.prog C a0 a1 a2 H (endK Tryz.prog [.tmp 6]) := by kernel_rfl

/-! ticketline.ids.check -/

noncomputable def s_ids_check (mg : GT) (mc : CT) (ms : ST) (P : Program) (C : CallF) (a0 : Value) (a1 : Value) (H : AHeap) (K0 : K) : Res :=
bareK (xbin P .eql T.p_model_Model (.tmp 6) (.const (.pointer none)) a0 (.pointer none)) H fun t7 h1 =>
mc t7 (fun k1 => k1 .ret [(4, (.int .i64 1))] h1) (fun k1 =>
k1 .normal [(1, a1)] h1) (seqK (fun tT h2 =>
bothK (newv T.model_Model (.agg #[(.slice none 0 0)]) h2) fun t5 h3 =>
enterK C F.model_Model_Put [t5, (get tT 1), (.string (mk []))] h3 fun t9 h4 =>
K0 .ret [(4, t9)] h4) K0)

theorem s_ids_check_eq (M : CombL) (C : CallF) (LP : LoopH) (a0 : Value) (a1 : Value) (H : AHeap) : dBodyL M Tryz.prog hints C LP F.ids_check [a0, a1] H = s_ids_check M.b.g M.c M.s Tryz.prog C a0 a1 H (endK Tryz.prog [.tmp 4]) := by kernel_rfl

/-! slices.Clone[[]ticketline.api.Pair,ticketline.api.Pair] -/

noncomputable def s_slices_Clone_Pair (mg : GT) (mc : CT) (ms : ST) (P : Program) (C : CallF) (a0 : Value) (H : AHeap) (K0 : K) : Res :=
bareK (xbin P .eql T.sl_api_Pair (.tmp 3) (.const (.slice none 0 0)) a0 (.slice none 0 0)) H fun t4 h1 =>
mc t4 (fun k1 => k1 .ret [(2, (.slice none 0 0))] h1) (fun k1 =>
k1 .normal [(0, a0)] h1) (seqK (fun tT h2 =>
bothK (bldL T.api_Pair [(.string (mk [])), (.string (mk []))] 0 [] h2) fun t5 h3 =>
bothK (app T.api_Pair 2 32 t5 (srcS 2 (get tT 0) h3) h3) fun t7 h4 =>
K0 .ret [(2, t7)] h4) K0)

theorem s_slices_Clone_Pair_eq (M : CombL) (C : CallF) (LP : LoopH) (a0 : Value) (H : AHeap) : dBodyL M Tryz.prog hints C LP F.slices_Clone_Pair [a0] H = s_slices_Clone_Pair M.b.g M.c M.s Tryz.prog C a0 H (endK Tryz.prog [.tmp 2]) := by kernel_rfl

/-! slices.ContainsFunc[[]string,string] -/

noncomputable def s_slices_ContainsFunc_string (mg : GT) (mc : CT) (ms : ST) (P : Program) (C : CallF) (a0 : Value) (a1 : Value) (H : AHeap) (K0 : K) : Res :=
enterK C F.slices_IndexFunc_string [a0, a1] H fun t7 h1 =>
bareK (xbin P .geq T.int (.tmp 7) (.const (.int .i64 0)) t7 (.int .i64 0)) h1 fun t8 h2 =>
K0 .ret [(4, t8)] h2

theorem s_slices_ContainsFunc_string_eq (M : CombL) (C : CallF) (LP : LoopH) (a0 : Value) (a1 : Value) (H : AHeap) : dBodyL M Tryz.prog hints C LP F.slices_ContainsFunc_string [a0, a1] H = s_slices_ContainsFunc_string M.b.g M.c M.s Tryz.prog C a0 a1 H (endK Tryz.prog [.tmp 4]) := by kernel_rfl

/-! ticketline.model.check$1 -/

noncomputable def s_model_check_1 (mg : GT) (mc : CT) (ms : ST) (P : Program) (C : CallF) (a0 : Value) (H : AHeap) (K0 : K) : Res :=
bareK (lenT a0) H fun t4 h1 =>
bareK (xbin P .gtr T.int (.tmp 4) (.const (.int .i64 40)) t4 (.int .i64 40)) h1 fun t5 h2 =>
K0 .ret [(2, t5)] h2

theorem s_model_check_1_eq (M : CombL) (C : CallF) (LP : LoopH) (a0 : Value) (H : AHeap) : dBodyL M Tryz.prog hints C LP F.model_check_1 [a0] H = s_model_check_1 M.b.g M.c M.s Tryz.prog C a0 H (endK Tryz.prog [.tmp 2]) := by kernel_rfl

/-! slices.BinarySearchFunc[[]ticketline.api.Pair,ticketline.api.Pair,string] -/

noncomputable def s_slices_BinarySearchFunc_string (mg : GT) (mc : CT) (ms : ST) (P : Program) (C : CallF) (L0 : Value → Value → Value → Value → Value → Value → AHeap → K → Res) (a0 : Value) (a1 : Value) (a2 : Value) (H : AHeap) (K0 : K) : Res :=
bareK (lenS a0) H fun t13 h1 =>
ms (fun k1 =>
L0 a0 a1 a2 t13 (.int .i64 0) t13 h1 (blkK [0, 1, 2, 8, 9] 0 k1)) (seqK (fun tT h2 =>
bareK (xbin P .lss T.int (.tmp 36) (.tmp 37) (get tT 9) (get tT 8)) h2 fun t38 h3 =>
mg t38 true (fun o2 => o2 (get tT 2) h3) h3 fun t40 h4 =>
mg t38 true (fun o3 => o3 (get tT 0) h4) h4 fun t41 h5 =>
mg t38 true (fun o4 => o4 (get tT 9) h5) h5 fun t42 h6 =>
mg t38 true (fun o5 => bareK (ixS 2 t41 t42) h6 o5) h6 fun t43 h7 =>
mg t38 true (fun o6 => bareK (ldN 2 h7 t43) h7 o6) h7 fun t44 h8 =>
mg t38 true (fun o7 => o7 (get tT 1) h8) h8 fun t45 h9 =>
mg t38 true (fun o8 => callK P C t40 [t44, t45] h9 o8) h9 fun t46 h10 =>
mg t38 true (fun o9 => bareK (xbin P .eql T.int (.tmp 46) (.const (.int .i64 0)) t46 (.int .i64 0)) h10 o9) h10 fun t47 h11 =>
pickK t38 t47 (.bool false) fun t48 =>
K0 .ret [(6, (get tT 9)), (7, t48)] h11) K0)

noncomputable def s_slices_BinarySearchFunc_string_b0 (mg : GT) (mc : CT) (ms : ST) (P : Program) (C : CallF) (L0 : Value → Value → Value → Value → Value → Value → AHeap → K → Res) (v0 : Value) (v1 : Value) (v2 : Value) (v8 : Value) (v9 : Value) (v10 : Value) (H : AHeap) (k : K) : Res :=
bareK (xbin P .lss T.int (.tmp 15) (.tmp 16) v9 v10) H fun t17 h2 =>
mc t17 (fun k2 => k2 .normal [(0, v0), (1, v1), (2, v2), (8, v8), (9, v9), (10, v10)] h2) (fun k2 =>
k2 (.exit 0) [(17, t17), (16, v10), (15, v9), (0, v0), (1, v1), (2, v2), (8, v8), (9, v9), (10, v10)] h2) (seqK (fun tT h3 =>
ms (fun k3 =>
bareK (xbin P .add T.int (.tmp 18) (.tmp 19) (get tT 9) (get tT 10)) h3 fun t20 h4 =>
bothK (xconv P T.int T.uint t20 h4) fun t21 h5 =>
bareK (xbin P .shr T.uint (.tmp 21) (.const (.int .u64 1)) t21 (.int .u64 1)) h5 fun t22 h6 =>
bothK (xconv P T.uint T.int t22 h6) fun t23 h7 =>
bareK (ixS 2 (get tT 0) t23) h7 fun t27 h8 =>
bareK (ldN 2 h8 t27) h8 fun t28 h9 =>
callK P C (get tT 2) [t28, (get tT 1)] h9 fun t30 h10 =>
bareK (xbin P .lss T.int (.tmp 30) (.const (.int .i64 0)) t30 (.int .i64 0)) h10 fun t31 h11 =>
mc t31 (fun k4 => bareK (xbin P .add T.int (.tmp 32) (.const (.int .i64 1)) t23 (.int .i64 1)) h11 fun t33 h12 =>
k4 .normal [(0, (get tT 0)), (1, (get tT 1)), (2, (get tT 2)), (8, (get tT 8)), (9, t33), (10, (get tT 10))] h12) (fun k4 =>
k4 .normal [(0, (get tT 0)), (1, (get tT 1)), (2, (get tT 2)), (8, (get tT 8)), (9, (get tT 9)), (10, t23)] h11) (blkK [0, 1, 2, 8, 9, 10] 1 k3)) (afterK [0, 1, 2, 8, 9, 10] k)) (afterK [0, 1, 2, 8, 9, 10] k))

theorem s_slices_BinarySearchFunc_string_eq (M : CombL) (C : CallF) (LP : LoopH) (a0 : Value) (a1 : Value) (a2 : Value) (H : AHeap) : dBodyL M Tryz.prog hints C LP F.slices_BinarySearchFunc_string [a0, a1, a2] H = s_slices_BinarySearchFunc_string M.b.g M.c M.s Tryz.prog C (fun v0 v1 v2 v8 v9 v10 H k => loopL M Tryz.prog hints C LP F.slices_BinarySearchFunc_string 0 [(0, v0), (1, v1), (2, v2), (8, v8), (9, v9), (10, v10)] H k) a0 a1 a2 H (endK Tryz.prog [.tmp 6, .tmp 7]) := by kernel_rfl

theorem s_slices_BinarySearchFunc_string_b0_eq (M : CombL) (C : CallF) (LP : LoopH) (v0 : Value) (v1 : Value) (v2 : Value) (v8 : Value) (v9 : Value) (v10 : Value) (H : AHeap) (k : K) : bodyL M Tryz.prog hints C LP F.slices_BinarySearchFunc_string 0 [(0, v0), (1, v1), (2, v2), (8, v8), (9, v9), (10, v10)] H (afterK [0, 1, 2, 8, 9, 10] k) = s_slices_BinarySearchFunc_string_b0 M.b.g M.c M.s Tryz.prog C (fun v0 v1 v2 v8 v9 v10 H k => loopL M Tryz.prog hints C LP F.slices_BinarySearchFunc_string 0 [(0, v0), (1, v1), (2, v2), (8, v8), (9, v9), (10, v10)] H k) v0 v1 v2 v8 v9 v10 H k := by kernel_rfl

/-! (*ticketline.model.Model).place$1 -/

noncomputable def s_model_Model_place_1 (mg : GT) (mc : CT) (ms : ST) (P : Program) (C : CallF) (a0 : Value) (a1 : Value) (H : AHeap) (K0 : K) : Res :=
bothK (newv T.api_Pair a0 H) fun t2 h1 =>
bareK (fad 0 t2) h1 fun t5 h2 =>
bareK (ld1 h2 t5) h2 fun t6 h3 =>
enterK C F.keys_Compare [t6, a1] h3 fun t8 h4 =>
K0 .ret [(4, t8)] h4

theorem s_model_Model_place_1_eq (M : CombL) (C : CallF) (LP : LoopH) (a0 : Value) (a1 : Value) (H : AHeap) : dBodyL M Tryz.prog hints C LP F.model_Model_place_1 [a0, a1] H = s_model_Model_place_1 M.b.g M.c M.s Tryz.prog C a0 a1 H (endK Tryz.prog [.tmp 4]) := by kernel_rfl

/-! ticketline.keys.Compare -/

noncomputable def s_keys_Compare (mg : GT) (mc : CT) (ms : ST) (P : Program) (C : CallF) (a0 : Value) (a1 : Value) (H : AHeap) (K0 : K) : Res :=
enterK C F.strings_Compare [a0, a1] H fun t7 h1 =>
K0 .ret [(4, t7)] h1

theorem s_keys_Compare_eq (M : CombL) (C : CallF) (LP : LoopH) (a0 : Value) (a1 : Value) (H : AHeap) : dBodyL M Tryz.prog hints C LP F.keys_Compare [a0, a1] H = s_keys_Compare M.b.g M.c M.s Tryz.prog C a0 a1 H (endK Tryz.prog [.tmp 4]) := by kernel_rfl

/-! slices.IndexFunc[[]string,string] -/

noncomputable def s_slices_IndexFunc_string (mg : GT) (mc : CT) (ms : ST) (P : Program) (C : CallF) (L0 : Value → Value → Value → Value → AHeap → K → Res) (a0 : Value) (a1 : Value) (H : AHeap) (K0 : K) : Res :=
bareK (lenS a0) H fun t7 h1 =>
ms (fun k1 =>
L0 a0 a1 t7 (.int .i64 0) h1 (blkK [] 0 k1)) (seqK (fun tT h2 =>
K0 .ret [(4, (.int .i64 (-1)))] h2) K0)

noncomputable def s_slices_IndexFunc_string_b0 (mg : GT) (mc : CT) (ms : ST) (P : Program) (C : CallF) (L0 : Value → Value → Value → Value → AHeap → K → Res) (v0 : Value) (v1 : Value) (v7 : Value) (v8 : Value) (H : AHeap) (k : K) : Res :=
bareK (xbin P .lss T.int (.tmp 8) (.tmp 7) v8 v7) H fun t9 h2 =>
mc t9 (fun k2 => k2 .normal [(0, v0), (1, v1), (7, v7), (8, v8)] h2) (fun k2 =>
k2 (.exit 0) [(9, t9), (0, v0), (1, v1), (7, v7), (8, v8)] h2) (seqK (fun tT h3 =>
ms (fun k3 =>
bareK (ixS 1 (get tT 0) (get tT 8)) h3 fun t14 h4 =>
bareK (ld1 h4 t14) h4 fun t15 h5 =>
callK P C (get tT 1) [t15] h5 fun t16 h6 =>
mc t16 (fun k4 => k4 .ret [(4, (get tT 8))] h6) (fun k4 =>
k4 .normal [(0, (get tT 0)), (1, (get tT 1)), (7, (get tT 7)), (8, (get tT 8))] h6) (blkK [0, 1, 7, 8] 1 k3)) (seqK (fun tT_1 h7 =>
bareK (xbin P .add T.int (.tmp 8) (.const (.int .i64 1)) (get tT_1 8) (.int .i64 1)) h7 fun t18 h8 =>
k .normal [(0, (get tT_1 0)), (1, (get tT_1 1)), (7, (get tT_1 7)), (8, t18)] h8) (afterK [0, 1, 7, 8] k))) (afterK [0, 1, 7, 8] k))

theorem s_slices_IndexFunc_string_eq (M : CombL) (C : CallF) (LP : LoopH) (a0 : Value) (a1 : Value) (H : AHeap) : dBodyL M Tryz.prog hints C LP F.slices_IndexFunc_string [a0, a1] H = s_slices_IndexFunc_string M.b.g M.c M.s Tryz.prog C (fun v0 v1 v7 v8 H k => loopL M Tryz.prog hints C LP F.slices_IndexFunc_string 0 [(0, v0), (1, v1), (7, v7), (8, v8)] H k) a0 a1 H (endK Tryz.prog [.tmp 4]) := by kernel_rfl

theorem s_slices_IndexFunc_string_b0_eq (M : CombL) (C : CallF) (LP : LoopH) (v0 : Value) (v1 : Value) (v7 : Value) (v8 : Value) (H : AHeap) (k : K) : bodyL M Tryz.prog hints C LP F.slices_IndexFunc_string 0 [(0, v0), (1, v1), (7, v7), (8, v8)] H (afterK [0, 1, 7, 8] k) = s_slices_IndexFunc_string_b0 M.b.g M.c M.s Tryz.prog C (fun v0 v1 v7 v8 H k => loopL M Tryz.prog hints C LP F.slices_IndexFunc_string 0 [(0, v0), (1, v1), (7, v7), (8, v8)] H k) v0 v1 v7 v8 H k := by kernel_rfl

/-! strings.Compare -/

noncomputable def s_strings_Compare (mg : GT) (mc : CT) (ms : ST) (P : Program) (C : CallF) (a0 : Value) (a1 : Value) (H : AHeap) (K0 : K) : Res :=
enterK C F.internal_bytealg_CompareString [a0, a1] H fun t7 h1 =>
K0 .ret [(4, t7)] h1

theorem s_strings_Compare_eq (M : CombL) (C : CallF) (LP : LoopH) (a0 : Value) (a1 : Value) (H : AHeap) : dBodyL M Tryz.prog hints C LP F.strings_Compare [a0, a1] H = s_strings_Compare M.b.g M.c M.s Tryz.prog C a0 a1 H (endK Tryz.prog [.tmp 4]) := by kernel_rfl

/-! internal.bytealg.CompareString -/

noncomputable def s_internal_bytealg_CompareString (mg : GT) (mc : CT) (ms : ST) (P : Program) (C : CallF) (a0 : Value) (a1 : Value) (H : AHeap) (K0 : K) : Res :=
bareK (xext P Tryz.f102 [a0, a1] H) H fun t7 h1 =>
K0 .ret [(4, t7)] h1

theorem s_internal_bytealg_CompareString_eq (M : CombL) (C : CallF) (LP : LoopH) (a0 : Value) (a1 : Value) (H : AHeap) : dBodyL M Tryz.prog hints C LP F.internal_bytealg_CompareString [a0, a1] H = s_internal_bytealg_CompareString M.b.g M.c M.s Tryz.prog C a0 a1 H (endK Tryz.prog [.tmp 4]) := by kernel_rfl



end Go.Proofs.YtlfpjndbpclnnaaGreatDoor

/-
  The equations of the seat's functions over calls in the limit (a program of ours printed it).
  Conditions: none. By an AI agent.
-/
set_option linter.unusedVariables false
namespace Go.Proofs.YtlfpjndbpclnnaaGreatDoor
open Go Eng

theorem u_int64 : Tryz.prog.underlying T.int64 = Tryz.prog.underlying 2 := rfl
theorem u_int : Tryz.prog.underlying T.int = Tryz.prog.underlying 3 := rfl
theorem u_bool : Tryz.prog.underlying T.bool = Tryz.prog.underlying 4 := rfl
theorem u_uint8 : Tryz.prog.underlying T.uint8 = Tryz.prog.underlying 5 := rfl
theorem u_string : Tryz.prog.underlying T.string = Tryz.prog.underlying 9 := rfl
theorem u_int32 : Tryz.prog.underlying T.int32 = Tryz.prog.underlying 21 := rfl
theorem u_p_model_Model : Tryz.prog.underlying T.p_model_Model = Tryz.prog.underlying 26 := rfl
theorem u_sl_api_Pair : Tryz.prog.underlying T.sl_api_Pair = Tryz.prog.underlying 27 := rfl
theorem u_model_Model : Tryz.prog.underlying T.model_Model = Tryz.prog.underlying 29 := rfl
theorem u_p_ids_Giver : Tryz.prog.underlying T.p_ids_Giver = Tryz.prog.underlying 30 := rfl
theorem u_api_Errno : Tryz.prog.underlying T.api_Errno = Tryz.prog.underlying 34 := rfl
theorem u_map_string_int : Tryz.prog.underlying T.map_string_int = Tryz.prog.underlying 37 := rfl
theorem u_sl_string : Tryz.prog.underlying T.sl_string = Tryz.prog.underlying 40 := rfl
theorem u_api_Block : Tryz.prog.underlying T.api_Block = Tryz.prog.underlying 50 := rfl
theorem u_map_string_api_Block : Tryz.prog.underlying T.map_string_api_Block = Tryz.prog.underlying 63 := rfl
theorem u_ids_Giver : Tryz.prog.underlying T.ids_Giver = Tryz.prog.underlying 65 := rfl
theorem u_api_Pair : Tryz.prog.underlying T.api_Pair = Tryz.prog.underlying 75 := rfl
theorem u_sl_uint8 : Tryz.prog.underlying T.sl_uint8 = Tryz.prog.underlying 85 := rfl
theorem u_error : Tryz.prog.underlying T.error = Tryz.prog.underlying 97 := rfl
theorem u_uint : Tryz.prog.underlying T.uint = Tryz.prog.underlying 112 := rfl
theorem u_internal_strconv_Error : Tryz.prog.underlying T.internal_strconv_Error = Tryz.prog.underlying 115 := rfl
theorem u_p_strconv_NumError : Tryz.prog.underlying T.p_strconv_NumError = Tryz.prog.underlying 118 := rfl
theorem u_slices_sortedHint : Tryz.prog.underlying T.slices_sortedHint = Tryz.prog.underlying 122 := rfl
theorem u_uint32 : Tryz.prog.underlying T.uint32 = Tryz.prog.underlying 130 := rfl
theorem u_uint64 : Tryz.prog.underlying T.uint64 = Tryz.prog.underlying 132 := rfl
theorem u_n24_uint8 : Tryz.prog.underlying T.n24_uint8 = Tryz.prog.underlying 133 := rfl
theorem u_strconv_NumError : Tryz.prog.underlying T.strconv_NumError = Tryz.prog.underlying 142 := rfl
theorem u_slices_xorshift : Tryz.prog.underlying T.slices_xorshift = Tryz.prog.underlying 144 := rfl
theorem u_n65_uint8 : Tryz.prog.underlying T.n65_uint8 = Tryz.prog.underlying 153 := rfl
theorem u_p_uint8 : Tryz.prog.underlying T.p_uint8 = Tryz.prog.underlying 156 := rfl
theorem u_p_errors_errorString : Tryz.prog.underlying T.p_errors_errorString = Tryz.prog.underlying 157 := rfl
theorem u_errors_errorString : Tryz.prog.underlying T.errors_errorString = Tryz.prog.underlying 159 := rfl
@[go_sem] theorem x_int64_uint64 {n : Int} {H : AHeap} : xconv Tryz.prog T.int64 T.uint64 (.int .i64 n) H = some (.int .u64 (IntKind.wrap .u64 n), H) := xconv_int (P := Tryz.prog) (s := 2) (t := 132) Tryz.underlying2 Tryz.underlying132
@[go_sem] theorem x_int_uint8 {n : Int} {H : AHeap} : xconv Tryz.prog T.int T.uint8 (.int .i64 n) H = some (.int .u8 (IntKind.wrap .u8 n), H) := xconv_int (P := Tryz.prog) (s := 3) (t := 5) Tryz.underlying3 Tryz.underlying5
@[go_sem] theorem x_int_uint {n : Int} {H : AHeap} : xconv Tryz.prog T.int T.uint (.int .i64 n) H = some (.int .u64 (IntKind.wrap .u64 n), H) := xconv_int (P := Tryz.prog) (s := 3) (t := 112) Tryz.underlying3 Tryz.underlying112
@[go_sem] theorem x_int_uint64 {n : Int} {H : AHeap} : xconv Tryz.prog T.int T.uint64 (.int .i64 n) H = some (.int .u64 (IntKind.wrap .u64 n), H) := xconv_int (P := Tryz.prog) (s := 3) (t := 132) Tryz.underlying3 Tryz.underlying132
@[go_sem] theorem x_int_slices_xorshift {n : Int} {H : AHeap} : xconv Tryz.prog T.int T.slices_xorshift (.int .i64 n) H = some (.int .u64 (IntKind.wrap .u64 n), H) := xconv_int (P := Tryz.prog) (s := 3) (t := 144) Tryz.underlying3 Tryz.underlying144
@[go_sem] theorem x_uint8_int {n : Int} {H : AHeap} : xconv Tryz.prog T.uint8 T.int (.int .u8 n) H = some (.int .i64 (IntKind.wrap .i64 n), H) := xconv_int (P := Tryz.prog) (s := 5) (t := 3) Tryz.underlying5 Tryz.underlying3
@[go_sem] theorem x_uint8_uint64 {n : Int} {H : AHeap} : xconv Tryz.prog T.uint8 T.uint64 (.int .u8 n) H = some (.int .u64 (IntKind.wrap .u64 n), H) := xconv_int (P := Tryz.prog) (s := 5) (t := 132) Tryz.underlying5 Tryz.underlying132
@[go_sem] theorem x_uint_int {n : Int} {H : AHeap} : xconv Tryz.prog T.uint T.int (.int .u64 n) H = some (.int .i64 (IntKind.wrap .i64 n), H) := xconv_int (P := Tryz.prog) (s := 112) (t := 3) Tryz.underlying112 Tryz.underlying3
@[go_sem] theorem x_uint_uint32 {n : Int} {H : AHeap} : xconv Tryz.prog T.uint T.uint32 (.int .u64 n) H = some (.int .u32 (IntKind.wrap .u32 n), H) := xconv_int (P := Tryz.prog) (s := 112) (t := 130) Tryz.underlying112 Tryz.underlying130
@[go_sem] theorem x_uint32_uint8 {n : Int} {H : AHeap} : xconv Tryz.prog T.uint32 T.uint8 (.int .u32 n) H = some (.int .u8 (IntKind.wrap .u8 n), H) := xconv_int (P := Tryz.prog) (s := 130) (t := 5) Tryz.underlying130 Tryz.underlying5
@[go_sem] theorem x_uint64_int64 {n : Int} {H : AHeap} : xconv Tryz.prog T.uint64 T.int64 (.int .u64 n) H = some (.int .i64 (IntKind.wrap .i64 n), H) := xconv_int (P := Tryz.prog) (s := 132) (t := 2) Tryz.underlying132 Tryz.underlying2
@[go_sem] theorem x_uint64_uint8 {n : Int} {H : AHeap} : xconv Tryz.prog T.uint64 T.uint8 (.int .u64 n) H = some (.int .u8 (IntKind.wrap .u8 n), H) := xconv_int (P := Tryz.prog) (s := 132) (t := 5) Tryz.underlying132 Tryz.underlying5
@[go_sem] theorem x_uint64_uint32 {n : Int} {H : AHeap} : xconv Tryz.prog T.uint64 T.uint32 (.int .u64 n) H = some (.int .u32 (IntKind.wrap .u32 n), H) := xconv_int (P := Tryz.prog) (s := 132) (t := 130) Tryz.underlying132 Tryz.underlying130
theorem c_model_Model_Len {call : CallF} {x c : Array Value} {args : List Value} {H : AHeap} {k : Value → AHeap → Res} : callK Tryz.prog call (.func (.func F.model_Model_Len) x c) args H k = enterK call F.model_Model_Len (x.toList ++ args ++ c.toList) H k := by kernel_rfl
theorem c_model_Model_place {call : CallF} {x c : Array Value} {args : List Value} {H : AHeap} {k : Value → AHeap → Res} : callK Tryz.prog call (.func (.func F.model_Model_place) x c) args H k = enterK call F.model_Model_place (x.toList ++ args ++ c.toList) H k := by kernel_rfl
theorem c_model_check_1 {call : CallF} {x c : Array Value} {args : List Value} {H : AHeap} {k : Value → AHeap → Res} : callK Tryz.prog call (.func (.func F.model_check_1) x c) args H k = enterK call F.model_check_1 (x.toList ++ args ++ c.toList) H k := by kernel_rfl
theorem c_model_Model_place_1 {call : CallF} {x c : Array Value} {args : List Value} {H : AHeap} {k : Value → AHeap → Res} : callK Tryz.prog call (.func (.func F.model_Model_place_1) x c) args H k = enterK call F.model_Model_place_1 (x.toList ++ args ++ c.toList) H k := by kernel_rfl

noncomputable def l_law_small_0 (v0 : Value) (v1 : Value) (v5 : Value) (H : AHeap) (k : K) : Res := loopL stdL Tryz.prog hints CC limLP F.law_small 0 [(0, v0), (1, v1), (5, v5)] H k
theorem r_law_small_0 (v0 : Value) (v1 : Value) (v5 : Value) (H : AHeap) (k : K) : l_law_small_0 v0 v1 v5 H k = s_law_small_b0 guardK condL shareL Tryz.prog CC l_law_small_0 v0 v1 v5 H (seqK (fun T H => l_law_small_0 (get T 0) (get T 1) (get T 5) H k) k) := ((loopL_next (by kernel_rfl) rfl H k).trans (s_law_small_b0_eq stdL CC limLP v0 v1 v5 H _)).trans (by kernel_rfl)
theorem d_law_small (a0 : Value) (a1 : Value) (H : AHeap) {r : Value × AHeap} (h : s_law_small guardK condL shareL Tryz.prog CC l_law_small_0 a0 a1 H (endK Tryz.prog [.tmp 4]) = some r) : CC F.law_small [a0, a1] H = some (tidy H r) := D_body (by kernel_rfl) ((s_law_small_eq stdL CC limLP a0 a1 H).trans (Eq.trans (show s_law_small stdL.b.g stdL.c stdL.s Tryz.prog CC (fun v0 v1 v5 H k => loopL stdL Tryz.prog hints CC limLP F.law_small 0 [(0, v0), (1, v1), (5, v5)] H k) a0 a1 H (endK Tryz.prog [.tmp 4]) = s_law_small guardK condL shareL Tryz.prog CC l_law_small_0 a0 a1 H (endK Tryz.prog [.tmp 4]) by kernel_rfl) h))

theorem d_ids_New (a0 : Value) (H : AHeap) {r : Value × AHeap} (h : s_ids_New guardK condL shareL Tryz.prog CC a0 H (endK Tryz.prog [.tmp 2, .tmp 3]) = some r) : CC F.ids_New [a0] H = some (tidy H r) := D_body (by kernel_rfl) ((s_ids_New_eq stdL CC limLP a0 H).trans (Eq.trans (show s_ids_New stdL.b.g stdL.c stdL.s Tryz.prog CC a0 H (endK Tryz.prog [.tmp 2, .tmp 3]) = s_ids_New guardK condL shareL Tryz.prog CC a0 H (endK Tryz.prog [.tmp 2, .tmp 3]) by kernel_rfl) h))

noncomputable def l_law_names_0 (v0 : Value) (v3 : Value) (v4 : Value) (H : AHeap) (k : K) : Res := loopL stdL Tryz.prog hints CC limLP F.law_names 0 [(0, v0), (3, v3), (4, v4)] H k
noncomputable def l_law_names_1 (v0 : Value) (v3 : Value) (v4 : Value) (v5 : Value) (H : AHeap) (k : K) : Res := loopL stdL Tryz.prog hints CC limLP F.law_names 1 [(0, v0), (3, v3), (4, v4), (5, v5)] H k
theorem r_law_names_0 (v0 : Value) (v3 : Value) (v4 : Value) (H : AHeap) (k : K) : l_law_names_0 v0 v3 v4 H k = s_law_names_b0 guardK condL shareL Tryz.prog CC l_law_names_0 l_law_names_1 v0 v3 v4 H (seqK (fun T H => l_law_names_0 (get T 0) (get T 3) (get T 4) H k) k) := ((loopL_next (by kernel_rfl) rfl H k).trans (s_law_names_b0_eq stdL CC limLP v0 v3 v4 H _)).trans (by kernel_rfl)
theorem r_law_names_1 (v0 : Value) (v3 : Value) (v4 : Value) (v5 : Value) (H : AHeap) (k : K) : l_law_names_1 v0 v3 v4 v5 H k = s_law_names_b1 guardK condL shareL Tryz.prog CC l_law_names_0 l_law_names_1 v0 v3 v4 v5 H (seqK (fun T H => l_law_names_1 (get T 0) (get T 3) (get T 4) (get T 5) H k) k) := ((loopL_next (by kernel_rfl) rfl H k).trans (s_law_names_b1_eq stdL CC limLP v0 v3 v4 v5 H _)).trans (by kernel_rfl)
theorem d_law_names (a0 : Value) (H : AHeap) {r : Value × AHeap} (h : s_law_names guardK condL shareL Tryz.prog CC l_law_names_0 l_law_names_1 a0 H (endK Tryz.prog [.tmp 2]) = some r) : CC F.law_names [a0] H = some (tidy H r) := D_body (by kernel_rfl) ((s_law_names_eq stdL CC limLP a0 H).trans (Eq.trans (show s_law_names stdL.b.g stdL.c stdL.s Tryz.prog CC (fun v0 v3 v4 H k => loopL stdL Tryz.prog hints CC limLP F.law_names 0 [(0, v0), (3, v3), (4, v4)] H k) (fun v0 v3 v4 v5 H k => loopL stdL Tryz.prog hints CC limLP F.law_names 1 [(0, v0), (3, v3), (4, v4), (5, v5)] H k) a0 H (endK Tryz.prog [.tmp 2]) = s_law_names guardK condL shareL Tryz.prog CC l_law_names_0 l_law_names_1 a0 H (endK Tryz.prog [.tmp 2]) by kernel_rfl) h))

noncomputable def l_law_Giver_give_0 (v0 : Value) (v2 : Value) (v10 : Value) (v12 : Value) (H : AHeap) (k : K) : Res := loopL stdL Tryz.prog hints CC limLP F.law_Giver_give 0 [(0, v0), (2, v2), (10, v10), (12, v12)] H k
theorem r_law_Giver_give_0 (v0 : Value) (v2 : Value) (v10 : Value) (v12 : Value) (H : AHeap) (k : K) : l_law_Giver_give_0 v0 v2 v10 v12 H k = s_law_Giver_give_b0 guardK condL shareL Tryz.prog CC l_law_Giver_give_0 v0 v2 v10 v12 H (seqK (fun T H => l_law_Giver_give_0 (get T 0) (get T 2) (get T 10) (get T 12) H k) k) := ((loopL_next (by kernel_rfl) rfl H k).trans (s_law_Giver_give_b0_eq stdL CC limLP v0 v2 v10 v12 H _)).trans (by kernel_rfl)
theorem d_law_Giver_give (a0 : Value) (a1 : Value) (a2 : Value) (H : AHeap) {r : Value × AHeap} (h : s_law_Giver_give guardK condL shareL Tryz.prog CC l_law_Giver_give_0 a0 a1 a2 H (endK Tryz.prog [.tmp 6, .tmp 7]) = some r) : CC F.law_Giver_give [a0, a1, a2] H = some (tidy H r) := D_body (by kernel_rfl) ((s_law_Giver_give_eq stdL CC limLP a0 a1 a2 H).trans (Eq.trans (show s_law_Giver_give stdL.b.g stdL.c stdL.s Tryz.prog CC (fun v0 v2 v10 v12 H k => loopL stdL Tryz.prog hints CC limLP F.law_Giver_give 0 [(0, v0), (2, v2), (10, v10), (12, v12)] H k) a0 a1 a2 H (endK Tryz.prog [.tmp 6, .tmp 7]) = s_law_Giver_give guardK condL shareL Tryz.prog CC l_law_Giver_give_0 a0 a1 a2 H (endK Tryz.prog [.tmp 6, .tmp 7]) by kernel_rfl) h))

theorem d_law_gives (a0 : Value) (a1 : Value) (a2 : Value) (a3 : Value) (a4 : Value) (H : AHeap) {r : Value × AHeap} (h : s_law_gives guardK condL shareL Tryz.prog CC a0 a1 a2 a3 a4 H (endK Tryz.prog [.tmp 10]) = some r) : CC F.law_gives [a0, a1, a2, a3, a4] H = some (tidy H r) := D_body (by kernel_rfl) ((s_law_gives_eq stdL CC limLP a0 a1 a2 a3 a4 H).trans (Eq.trans (show s_law_gives stdL.b.g stdL.c stdL.s Tryz.prog CC a0 a1 a2 a3 a4 H (endK Tryz.prog [.tmp 10]) = s_law_gives guardK condL shareL Tryz.prog CC a0 a1 a2 a3 a4 H (endK Tryz.prog [.tmp 10]) by kernel_rfl) h))

theorem d_ids_Giver_Lose (a0 : Value) (H : AHeap) {r : Value × AHeap} (h : s_ids_Giver_Lose guardK condL shareL Tryz.prog CC a0 H (endK Tryz.prog []) = some r) : CC F.ids_Giver_Lose [a0] H = some (tidy H r) := D_body (by kernel_rfl) ((s_ids_Giver_Lose_eq stdL CC limLP a0 H).trans (Eq.trans (show s_ids_Giver_Lose stdL.b.g stdL.c stdL.s Tryz.prog CC a0 H (endK Tryz.prog []) = s_ids_Giver_Lose guardK condL shareL Tryz.prog CC a0 H (endK Tryz.prog []) by kernel_rfl) h))

noncomputable def l_law_Giver_back_0 (v0 : Value) (v1 : Value) (v2 : Value) (v8 : Value) (v9 : Value) (H : AHeap) (k : K) : Res := loopL stdL Tryz.prog hints CC limLP F.law_Giver_back 0 [(0, v0), (1, v1), (2, v2), (8, v8), (9, v9)] H k
noncomputable def l_law_Giver_back_1 (v0 : Value) (v1 : Value) (v8 : Value) (v13 : Value) (H : AHeap) (k : K) : Res := loopL stdL Tryz.prog hints CC limLP F.law_Giver_back 1 [(0, v0), (1, v1), (8, v8), (13, v13)] H k
theorem r_law_Giver_back_0 (v0 : Value) (v1 : Value) (v2 : Value) (v8 : Value) (v9 : Value) (H : AHeap) (k : K) : l_law_Giver_back_0 v0 v1 v2 v8 v9 H k = s_law_Giver_back_b0 guardK condL shareL Tryz.prog CC l_law_Giver_back_0 l_law_Giver_back_1 v0 v1 v2 v8 v9 H (seqK (fun T H => l_law_Giver_back_0 (get T 0) (get T 1) (get T 2) (get T 8) (get T 9) H k) k) := ((loopL_next (by kernel_rfl) rfl H k).trans (s_law_Giver_back_b0_eq stdL CC limLP v0 v1 v2 v8 v9 H _)).trans (by kernel_rfl)
theorem r_law_Giver_back_1 (v0 : Value) (v1 : Value) (v8 : Value) (v13 : Value) (H : AHeap) (k : K) : l_law_Giver_back_1 v0 v1 v8 v13 H k = s_law_Giver_back_b1 guardK condL shareL Tryz.prog CC l_law_Giver_back_0 l_law_Giver_back_1 v0 v1 v8 v13 H (seqK (fun T H => l_law_Giver_back_1 (get T 0) (get T 1) (get T 8) (get T 13) H k) k) := ((loopL_next (by kernel_rfl) rfl H k).trans (s_law_Giver_back_b1_eq stdL CC limLP v0 v1 v8 v13 H _)).trans (by kernel_rfl)
theorem d_law_Giver_back (a0 : Value) (a1 : Value) (a2 : Value) (H : AHeap) {r : Value × AHeap} (h : s_law_Giver_back guardK condL shareL Tryz.prog CC l_law_Giver_back_0 l_law_Giver_back_1 a0 a1 a2 H (endK Tryz.prog [.tmp 6, .tmp 7]) = some r) : CC F.law_Giver_back [a0, a1, a2] H = some (tidy H r) := D_body (by kernel_rfl) ((s_law_Giver_back_eq stdL CC limLP a0 a1 a2 H).trans (Eq.trans (show s_law_Giver_back stdL.b.g stdL.c stdL.s Tryz.prog CC (fun v0 v1 v2 v8 v9 H k => loopL stdL Tryz.prog hints CC limLP F.law_Giver_back 0 [(0, v0), (1, v1), (2, v2), (8, v8), (9, v9)] H k) (fun v0 v1 v8 v13 H k => loopL stdL Tryz.prog hints CC limLP F.law_Giver_back 1 [(0, v0), (1, v1), (8, v8), (13, v13)] H k) a0 a1 a2 H (endK Tryz.prog [.tmp 6, .tmp 7]) = s_law_Giver_back guardK condL shareL Tryz.prog CC l_law_Giver_back_0 l_law_Giver_back_1 a0 a1 a2 H (endK Tryz.prog [.tmp 6, .tmp 7]) by kernel_rfl) h))

theorem d_law_returns (a0 : Value) (a1 : Value) (a2 : Value) (a3 : Value) (H : AHeap) {r : Value × AHeap} (h : s_law_returns guardK condL shareL Tryz.prog CC a0 a1 a2 a3 H (endK Tryz.prog [.tmp 8]) = some r) : CC F.law_returns [a0, a1, a2, a3] H = some (tidy H r) := D_body (by kernel_rfl) ((s_law_returns_eq stdL CC limLP a0 a1 a2 a3 H).trans (Eq.trans (show s_law_returns stdL.b.g stdL.c stdL.s Tryz.prog CC a0 a1 a2 a3 H (endK Tryz.prog [.tmp 8]) = s_law_returns guardK condL shareL Tryz.prog CC a0 a1 a2 a3 H (endK Tryz.prog [.tmp 8]) by kernel_rfl) h))

theorem d_law_take (a0 : Value) (a1 : Value) (a2 : Value) (H : AHeap) {r : Value × AHeap} (h : s_law_take guardK condL shareL Tryz.prog CC a0 a1 a2 H (endK Tryz.prog [.cell 6 T.api_Block, .tmp 7]) = some r) : CC F.law_take [a0, a1, a2] H = some (tidy H r) := D_body (by kernel_rfl) ((s_law_take_eq stdL CC limLP a0 a1 a2 H).trans (Eq.trans (show s_law_take stdL.b.g stdL.c stdL.s Tryz.prog CC a0 a1 a2 H (endK Tryz.prog [.cell 6 T.api_Block, .tmp 7]) = s_law_take guardK condL shareL Tryz.prog CC a0 a1 a2 H (endK Tryz.prog [.cell 6 T.api_Block, .tmp 7]) by kernel_rfl) h))

theorem d_law_takes (a0 : Value) (a1 : Value) (a2 : Value) (a3 : Value) (a4 : Value) (H : AHeap) {r : Value × AHeap} (h : s_law_takes guardK condL shareL Tryz.prog CC a0 a1 a2 a3 a4 H (endK Tryz.prog [.tmp 10]) = some r) : CC F.law_takes [a0, a1, a2, a3, a4] H = some (tidy H r) := D_body (by kernel_rfl) ((s_law_takes_eq stdL CC limLP a0 a1 a2 a3 a4 H).trans (Eq.trans (show s_law_takes stdL.b.g stdL.c stdL.s Tryz.prog CC a0 a1 a2 a3 a4 H (endK Tryz.prog [.tmp 10]) = s_law_takes guardK condL shareL Tryz.prog CC a0 a1 a2 a3 a4 H (endK Tryz.prog [.tmp 10]) by kernel_rfl) h))

theorem d_model_Model_Put (a0 : Value) (a1 : Value) (a2 : Value) (H : AHeap) {r : Value × AHeap} (h : s_model_Model_Put guardK condL shareL Tryz.prog CC a0 a1 a2 H (endK Tryz.prog [.tmp 6]) = some r) : CC F.model_Model_Put [a0, a1, a2] H = some (tidy H r) := D_body (by kernel_rfl) ((s_model_Model_Put_eq stdL CC limLP a0 a1 a2 H).trans (Eq.trans (show s_model_Model_Put stdL.b.g stdL.c stdL.s Tryz.prog CC a0 a1 a2 H (endK Tryz.prog [.tmp 6]) = s_model_Model_Put guardK condL shareL Tryz.prog CC a0 a1 a2 H (endK Tryz.prog [.tmp 6]) by kernel_rfl) h))

theorem d_ids_Giver_Copy (a0 : Value) (H : AHeap) {r : Value × AHeap} (h : s_ids_Giver_Copy guardK condL shareL Tryz.prog CC a0 H (endK Tryz.prog [.tmp 2]) = some r) : CC F.ids_Giver_Copy [a0] H = some (tidy H r) := D_body (by kernel_rfl) ((s_ids_Giver_Copy_eq stdL CC limLP a0 H).trans (Eq.trans (show s_ids_Giver_Copy stdL.b.g stdL.c stdL.s Tryz.prog CC a0 H (endK Tryz.prog [.tmp 2]) = s_ids_Giver_Copy guardK condL shareL Tryz.prog CC a0 H (endK Tryz.prog [.tmp 2]) by kernel_rfl) h))

theorem d_ids_Giver_Give (a0 : Value) (a1 : Value) (a2 : Value) (H : AHeap) {r : Value × AHeap} (h : s_ids_Giver_Give guardK condL shareL Tryz.prog CC a0 a1 a2 H (endK Tryz.prog [.tmp 6, .tmp 7]) = some r) : CC F.ids_Giver_Give [a0, a1, a2] H = some (tidy H r) := D_body (by kernel_rfl) ((s_ids_Giver_Give_eq stdL CC limLP a0 a1 a2 H).trans (Eq.trans (show s_ids_Giver_Give stdL.b.g stdL.c stdL.s Tryz.prog CC a0 a1 a2 H (endK Tryz.prog [.tmp 6, .tmp 7]) = s_ids_Giver_Give guardK condL shareL Tryz.prog CC a0 a1 a2 H (endK Tryz.prog [.tmp 6, .tmp 7]) by kernel_rfl) h))

noncomputable def l_law_alike_0 (v0 : Value) (v1 : Value) (v2 : Value) (v7 : Value) (H : AHeap) (k : K) : Res := loopL stdL Tryz.prog hints CC limLP F.law_alike 0 [(0, v0), (1, v1), (2, v2), (7, v7)] H k
theorem r_law_alike_0 (v0 : Value) (v1 : Value) (v2 : Value) (v7 : Value) (H : AHeap) (k : K) : l_law_alike_0 v0 v1 v2 v7 H k = s_law_alike_b0 guardK condL shareL Tryz.prog CC l_law_alike_0 v0 v1 v2 v7 H (seqK (fun T H => l_law_alike_0 (get T 0) (get T 1) (get T 2) (get T 7) H k) k) := ((loopL_next (by kernel_rfl) rfl H k).trans (s_law_alike_b0_eq stdL CC limLP v0 v1 v2 v7 H _)).trans (by kernel_rfl)
theorem d_law_alike (a0 : Value) (a1 : Value) (a2 : Value) (H : AHeap) {r : Value × AHeap} (h : s_law_alike guardK condL shareL Tryz.prog CC l_law_alike_0 a0 a1 a2 H (endK Tryz.prog [.tmp 6]) = some r) : CC F.law_alike [a0, a1, a2] H = some (tidy H r) := D_body (by kernel_rfl) ((s_law_alike_eq stdL CC limLP a0 a1 a2 H).trans (Eq.trans (show s_law_alike stdL.b.g stdL.c stdL.s Tryz.prog CC (fun v0 v1 v2 v7 H k => loopL stdL Tryz.prog hints CC limLP F.law_alike 0 [(0, v0), (1, v1), (2, v2), (7, v7)] H k) a0 a1 a2 H (endK Tryz.prog [.tmp 6]) = s_law_alike guardK condL shareL Tryz.prog CC l_law_alike_0 a0 a1 a2 H (endK Tryz.prog [.tmp 6]) by kernel_rfl) h))

theorem d_model_Equal (a0 : Value) (a1 : Value) (H : AHeap) {r : Value × AHeap} (h : s_model_Equal guardK condL shareL Tryz.prog CC a0 a1 H (endK Tryz.prog [.tmp 4]) = some r) : CC F.model_Equal [a0, a1] H = some (tidy H r) := D_body (by kernel_rfl) ((s_model_Equal_eq stdL CC limLP a0 a1 H).trans (Eq.trans (show s_model_Equal stdL.b.g stdL.c stdL.s Tryz.prog CC a0 a1 H (endK Tryz.prog [.tmp 4]) = s_model_Equal guardK condL shareL Tryz.prog CC a0 a1 H (endK Tryz.prog [.tmp 4]) by kernel_rfl) h))

theorem d_law_nexts (a0 : Value) (a1 : Value) (a2 : Value) (a3 : Value) (H : AHeap) {r : Value × AHeap} (h : s_law_nexts guardK condL shareL Tryz.prog CC a0 a1 a2 a3 H (endK Tryz.prog [.tmp 8]) = some r) : CC F.law_nexts [a0, a1, a2, a3] H = some (tidy H r) := D_body (by kernel_rfl) ((s_law_nexts_eq stdL CC limLP a0 a1 a2 a3 H).trans (Eq.trans (show s_law_nexts stdL.b.g stdL.c stdL.s Tryz.prog CC a0 a1 a2 a3 H (endK Tryz.prog [.tmp 8]) = s_law_nexts guardK condL shareL Tryz.prog CC a0 a1 a2 a3 H (endK Tryz.prog [.tmp 8]) by kernel_rfl) h))

theorem d_ids_Giver_Left (a0 : Value) (a1 : Value) (H : AHeap) {r : Value × AHeap} (h : s_ids_Giver_Left guardK condL shareL Tryz.prog CC a0 a1 H (endK Tryz.prog [.cell 4 T.api_Block]) = some r) : CC F.ids_Giver_Left [a0, a1] H = some (tidy H r) := D_body (by kernel_rfl) ((s_ids_Giver_Left_eq stdL CC limLP a0 a1 H).trans (Eq.trans (show s_ids_Giver_Left stdL.b.g stdL.c stdL.s Tryz.prog CC a0 a1 H (endK Tryz.prog [.cell 4 T.api_Block]) = s_ids_Giver_Left guardK condL shareL Tryz.prog CC a0 a1 H (endK Tryz.prog [.cell 4 T.api_Block]) by kernel_rfl) h))

theorem d_law_next (a0 : Value) (a1 : Value) (H : AHeap) {r : Value × AHeap} (h : s_law_next guardK condL shareL Tryz.prog CC a0 a1 H (endK Tryz.prog [.tmp 4, .tmp 5]) = some r) : CC F.law_next [a0, a1] H = some (tidy H r) := D_body (by kernel_rfl) ((s_law_next_eq stdL CC limLP a0 a1 H).trans (Eq.trans (show s_law_next stdL.b.g stdL.c stdL.s Tryz.prog CC a0 a1 H (endK Tryz.prog [.tmp 4, .tmp 5]) = s_law_next guardK condL shareL Tryz.prog CC a0 a1 H (endK Tryz.prog [.tmp 4, .tmp 5]) by kernel_rfl) h))

theorem d_ids_Giver_none (a0 : Value) (H : AHeap) {r : Value × AHeap} (h : s_ids_Giver_none guardK condL shareL Tryz.prog CC a0 H (endK Tryz.prog [.tmp 2]) = some r) : CC F.ids_Giver_none [a0] H = some (tidy H r) := D_body (by kernel_rfl) ((s_ids_Giver_none_eq stdL CC limLP a0 H).trans (Eq.trans (show s_ids_Giver_none stdL.b.g stdL.c stdL.s Tryz.prog CC a0 H (endK Tryz.prog [.tmp 2]) = s_ids_Giver_none guardK condL shareL Tryz.prog CC a0 H (endK Tryz.prog [.tmp 2]) by kernel_rfl) h))

theorem d_law_decimal (a0 : Value) (H : AHeap) {r : Value × AHeap} (h : s_law_decimal guardK condL shareL Tryz.prog CC a0 H (endK Tryz.prog [.tmp 2]) = some r) : CC F.law_decimal [a0] H = some (tidy H r) := D_body (by kernel_rfl) ((s_law_decimal_eq stdL CC limLP a0 H).trans (Eq.trans (show s_law_decimal stdL.b.g stdL.c stdL.s Tryz.prog CC a0 H (endK Tryz.prog [.tmp 2]) = s_law_decimal guardK condL shareL Tryz.prog CC a0 H (endK Tryz.prog [.tmp 2]) by kernel_rfl) h))

noncomputable def l_ids_Giver_Return_0 (v0 : Value) (v1 : Value) (v6 : Value) (v25 : Value) (v26 : Value) (v27 : Value) (H : AHeap) (k : K) : Res := loopL stdL Tryz.prog hints CC limLP F.ids_Giver_Return 0 [(0, v0), (1, v1), (6, v6), (25, v25), (26, v26), (27, v27)] H k
noncomputable def l_ids_Giver_Return_1 (v0 : Value) (v1 : Value) (v6 : Value) (v58 : Value) (v59 : Value) (v60 : Value) (H : AHeap) (k : K) : Res := loopL stdL Tryz.prog hints CC limLP F.ids_Giver_Return 1 [(0, v0), (1, v1), (6, v6), (58, v58), (59, v59), (60, v60)] H k
theorem r_ids_Giver_Return_0 (v0 : Value) (v1 : Value) (v6 : Value) (v25 : Value) (v26 : Value) (v27 : Value) (H : AHeap) (k : K) : l_ids_Giver_Return_0 v0 v1 v6 v25 v26 v27 H k = s_ids_Giver_Return_b0 guardK condL shareL Tryz.prog CC l_ids_Giver_Return_0 l_ids_Giver_Return_1 v0 v1 v6 v25 v26 v27 H (seqK (fun T H => l_ids_Giver_Return_0 (get T 0) (get T 1) (get T 6) (get T 25) (get T 26) (get T 27) H k) k) := ((loopL_next (by kernel_rfl) rfl H k).trans (s_ids_Giver_Return_b0_eq stdL CC limLP v0 v1 v6 v25 v26 v27 H _)).trans (by kernel_rfl)
theorem r_ids_Giver_Return_1 (v0 : Value) (v1 : Value) (v6 : Value) (v58 : Value) (v59 : Value) (v60 : Value) (H : AHeap) (k : K) : l_ids_Giver_Return_1 v0 v1 v6 v58 v59 v60 H k = s_ids_Giver_Return_b1 guardK condL shareL Tryz.prog CC l_ids_Giver_Return_0 l_ids_Giver_Return_1 v0 v1 v6 v58 v59 v60 H (seqK (fun T H => l_ids_Giver_Return_1 (get T 0) (get T 1) (get T 6) (get T 58) (get T 59) (get T 60) H k) k) := ((loopL_next (by kernel_rfl) rfl H k).trans (s_ids_Giver_Return_b1_eq stdL CC limLP v0 v1 v6 v58 v59 v60 H _)).trans (by kernel_rfl)
theorem d_ids_Giver_Return (a0 : Value) (a1 : Value) (H : AHeap) {r : Value × AHeap} (h : s_ids_Giver_Return guardK condL shareL Tryz.prog CC l_ids_Giver_Return_0 l_ids_Giver_Return_1 a0 a1 H (endK Tryz.prog [.tmp 4, .tmp 5]) = some r) : CC F.ids_Giver_Return [a0, a1] H = some (tidy H r) := D_body (by kernel_rfl) ((s_ids_Giver_Return_eq stdL CC limLP a0 a1 H).trans (Eq.trans (show s_ids_Giver_Return stdL.b.g stdL.c stdL.s Tryz.prog CC (fun v0 v1 v6 v25 v26 v27 H k => loopL stdL Tryz.prog hints CC limLP F.ids_Giver_Return 0 [(0, v0), (1, v1), (6, v6), (25, v25), (26, v26), (27, v27)] H k) (fun v0 v1 v6 v58 v59 v60 H k => loopL stdL Tryz.prog hints CC limLP F.ids_Giver_Return 1 [(0, v0), (1, v1), (6, v6), (58, v58), (59, v59), (60, v60)] H k) a0 a1 H (endK Tryz.prog [.tmp 4, .tmp 5]) = s_ids_Giver_Return guardK condL shareL Tryz.prog CC l_ids_Giver_Return_0 l_ids_Giver_Return_1 a0 a1 H (endK Tryz.prog [.tmp 4, .tmp 5]) by kernel_rfl) h))

theorem d_ids_Take (a0 : Value) (a1 : Value) (a2 : Value) (H : AHeap) {r : Value × AHeap} (h : s_ids_Take guardK condL shareL Tryz.prog CC a0 a1 a2 H (endK Tryz.prog [.cell 6 T.api_Block, .tmp 7]) = some r) : CC F.ids_Take [a0, a1, a2] H = some (tidy H r) := D_body (by kernel_rfl) ((s_ids_Take_eq stdL CC limLP a0 a1 a2 H).trans (Eq.trans (show s_ids_Take stdL.b.g stdL.c stdL.s Tryz.prog CC a0 a1 a2 H (endK Tryz.prog [.cell 6 T.api_Block, .tmp 7]) = s_ids_Take guardK condL shareL Tryz.prog CC a0 a1 a2 H (endK Tryz.prog [.cell 6 T.api_Block, .tmp 7]) by kernel_rfl) h))

theorem d_model_Model_at (a0 : Value) (a1 : Value) (a2 : Value) (H : AHeap) {r : Value × AHeap} (h : s_model_Model_at guardK condL shareL Tryz.prog CC a0 a1 a2 H (endK Tryz.prog [.tmp 6, .tmp 7, .tmp 8]) = some r) : CC F.model_Model_at [a0, a1, a2] H = some (tidy H r) := D_body (by kernel_rfl) ((s_model_Model_at_eq stdL CC limLP a0 a1 a2 H).trans (Eq.trans (show s_model_Model_at stdL.b.g stdL.c stdL.s Tryz.prog CC a0 a1 a2 H (endK Tryz.prog [.tmp 6, .tmp 7, .tmp 8]) = s_model_Model_at guardK condL shareL Tryz.prog CC a0 a1 a2 H (endK Tryz.prog [.tmp 6, .tmp 7, .tmp 8]) by kernel_rfl) h))

theorem d_model_Model_set (a0 : Value) (a1 : Value) (a2 : Value) (a3 : Value) (H : AHeap) {r : Value × AHeap} (h : s_model_Model_set guardK condL shareL Tryz.prog CC a0 a1 a2 a3 H (endK Tryz.prog [.tmp 8]) = some r) : CC F.model_Model_set [a0, a1, a2, a3] H = some (tidy H r) := D_body (by kernel_rfl) ((s_model_Model_set_eq stdL CC limLP a0 a1 a2 a3 H).trans (Eq.trans (show s_model_Model_set stdL.b.g stdL.c stdL.s Tryz.prog CC a0 a1 a2 a3 H (endK Tryz.prog [.tmp 8]) = s_model_Model_set guardK condL shareL Tryz.prog CC a0 a1 a2 a3 H (endK Tryz.prog [.tmp 8]) by kernel_rfl) h))

theorem d_ids_Next (a0 : Value) (a1 : Value) (H : AHeap) {r : Value × AHeap} (h : s_ids_Next guardK condL shareL Tryz.prog CC a0 a1 H (endK Tryz.prog [.tmp 4, .tmp 5]) = some r) : CC F.ids_Next [a0, a1] H = some (tidy H r) := D_body (by kernel_rfl) ((s_ids_Next_eq stdL CC limLP a0 a1 H).trans (Eq.trans (show s_ids_Next stdL.b.g stdL.c stdL.s Tryz.prog CC a0 a1 H (endK Tryz.prog [.tmp 4, .tmp 5]) = s_ids_Next guardK condL shareL Tryz.prog CC a0 a1 H (endK Tryz.prog [.tmp 4, .tmp 5]) by kernel_rfl) h))

theorem d_ids_Giver_set (a0 : Value) (a1 : Value) (a2 : Value) (H : AHeap) {r : Value × AHeap} (h : s_ids_Giver_set guardK condL shareL Tryz.prog CC a0 a1 a2 H (endK Tryz.prog []) = some r) : CC F.ids_Giver_set [a0, a1, a2] H = some (tidy H r) := D_body (by kernel_rfl) ((s_ids_Giver_set_eq stdL CC limLP a0 a1 a2 H).trans (Eq.trans (show s_ids_Giver_set stdL.b.g stdL.c stdL.s Tryz.prog CC a0 a1 a2 H (endK Tryz.prog []) = s_ids_Giver_set guardK condL shareL Tryz.prog CC a0 a1 a2 H (endK Tryz.prog []) by kernel_rfl) h))

theorem d_model_Model_Len (a0 : Value) (H : AHeap) {r : Value × AHeap} (h : s_model_Model_Len guardK condL shareL Tryz.prog CC a0 H (endK Tryz.prog [.tmp 2]) = some r) : CC F.model_Model_Len [a0] H = some (tidy H r) := D_body (by kernel_rfl) ((s_model_Model_Len_eq stdL CC limLP a0 H).trans (Eq.trans (show s_model_Model_Len stdL.b.g stdL.c stdL.s Tryz.prog CC a0 H (endK Tryz.prog [.tmp 2]) = s_model_Model_Len guardK condL shareL Tryz.prog CC a0 H (endK Tryz.prog [.tmp 2]) by kernel_rfl) h))

noncomputable def l_slices_Equal_Pair_0 (v0 : Value) (v1 : Value) (v12 : Value) (v13 : Value) (H : AHeap) (k : K) : Res := loopL stdL Tryz.prog hints CC limLP F.slices_Equal_Pair 0 [(0, v0), (1, v1), (12, v12), (13, v13)] H k
theorem r_slices_Equal_Pair_0 (v0 : Value) (v1 : Value) (v12 : Value) (v13 : Value) (H : AHeap) (k : K) : l_slices_Equal_Pair_0 v0 v1 v12 v13 H k = s_slices_Equal_Pair_b0 guardK condL shareL Tryz.prog CC l_slices_Equal_Pair_0 v0 v1 v12 v13 H (seqK (fun T H => l_slices_Equal_Pair_0 (get T 0) (get T 1) (get T 12) (get T 13) H k) k) := ((loopL_next (by kernel_rfl) rfl H k).trans (s_slices_Equal_Pair_b0_eq stdL CC limLP v0 v1 v12 v13 H _)).trans (by kernel_rfl)
theorem d_slices_Equal_Pair (a0 : Value) (a1 : Value) (H : AHeap) {r : Value × AHeap} (h : s_slices_Equal_Pair guardK condL shareL Tryz.prog CC l_slices_Equal_Pair_0 a0 a1 H (endK Tryz.prog [.tmp 4]) = some r) : CC F.slices_Equal_Pair [a0, a1] H = some (tidy H r) := D_body (by kernel_rfl) ((s_slices_Equal_Pair_eq stdL CC limLP a0 a1 H).trans (Eq.trans (show s_slices_Equal_Pair stdL.b.g stdL.c stdL.s Tryz.prog CC (fun v0 v1 v12 v13 H k => loopL stdL Tryz.prog hints CC limLP F.slices_Equal_Pair 0 [(0, v0), (1, v1), (12, v12), (13, v13)] H k) a0 a1 H (endK Tryz.prog [.tmp 4]) = s_slices_Equal_Pair guardK condL shareL Tryz.prog CC l_slices_Equal_Pair_0 a0 a1 H (endK Tryz.prog [.tmp 4]) by kernel_rfl) h))

theorem d_model_Model_Pairs (a0 : Value) (H : AHeap) {r : Value × AHeap} (h : s_model_Model_Pairs guardK condL shareL Tryz.prog CC a0 H (endK Tryz.prog [.tmp 2]) = some r) : CC F.model_Model_Pairs [a0] H = some (tidy H r) := D_body (by kernel_rfl) ((s_model_Model_Pairs_eq stdL CC limLP a0 H).trans (Eq.trans (show s_model_Model_Pairs stdL.b.g stdL.c stdL.s Tryz.prog CC a0 H (endK Tryz.prog [.tmp 2]) = s_model_Model_Pairs guardK condL shareL Tryz.prog CC a0 H (endK Tryz.prog [.tmp 2]) by kernel_rfl) h))

theorem d_model_Model_Get (a0 : Value) (a1 : Value) (H : AHeap) {r : Value × AHeap} (h : s_model_Model_Get guardK condL shareL Tryz.prog CC a0 a1 H (endK Tryz.prog [.tmp 4, .tmp 5]) = some r) : CC F.model_Model_Get [a0, a1] H = some (tidy H r) := D_body (by kernel_rfl) ((s_model_Model_Get_eq stdL CC limLP a0 a1 H).trans (Eq.trans (show s_model_Model_Get stdL.b.g stdL.c stdL.s Tryz.prog CC a0 a1 H (endK Tryz.prog [.tmp 4, .tmp 5]) = s_model_Model_Get guardK condL shareL Tryz.prog CC a0 a1 H (endK Tryz.prog [.tmp 4, .tmp 5]) by kernel_rfl) h))

noncomputable def l_law_counter_0 (v0 : Value) (v3 : Value) (v4 : Value) (H : AHeap) (k : K) : Res := loopL stdL Tryz.prog hints CC limLP F.law_counter 0 [(0, v0), (3, v3), (4, v4)] H k
theorem r_law_counter_0 (v0 : Value) (v3 : Value) (v4 : Value) (H : AHeap) (k : K) : l_law_counter_0 v0 v3 v4 H k = s_law_counter_b0 guardK condL shareL Tryz.prog CC l_law_counter_0 v0 v3 v4 H (seqK (fun T H => l_law_counter_0 (get T 0) (get T 3) (get T 4) H k) k) := ((loopL_next (by kernel_rfl) rfl H k).trans (s_law_counter_b0_eq stdL CC limLP v0 v3 v4 H _)).trans (by kernel_rfl)
theorem d_law_counter (a0 : Value) (H : AHeap) {r : Value × AHeap} (h : s_law_counter guardK condL shareL Tryz.prog CC l_law_counter_0 a0 H (endK Tryz.prog [.tmp 2]) = some r) : CC F.law_counter [a0] H = some (tidy H r) := D_body (by kernel_rfl) ((s_law_counter_eq stdL CC limLP a0 H).trans (Eq.trans (show s_law_counter stdL.b.g stdL.c stdL.s Tryz.prog CC (fun v0 v3 v4 H k => loopL stdL Tryz.prog hints CC limLP F.law_counter 0 [(0, v0), (3, v3), (4, v4)] H k) a0 H (endK Tryz.prog [.tmp 2]) = s_law_counter guardK condL shareL Tryz.prog CC l_law_counter_0 a0 H (endK Tryz.prog [.tmp 2]) by kernel_rfl) h))

theorem d_model_check (a0 : Value) (a1 : Value) (H : AHeap) {r : Value × AHeap} (h : s_model_check guardK condL shareL Tryz.prog CC a0 a1 H (endK Tryz.prog [.tmp 4]) = some r) : CC F.model_check [a0, a1] H = some (tidy H r) := D_body (by kernel_rfl) ((s_model_check_eq stdL CC limLP a0 a1 H).trans (Eq.trans (show s_model_check stdL.b.g stdL.c stdL.s Tryz.prog CC a0 a1 H (endK Tryz.prog [.tmp 4]) = s_model_check guardK condL shareL Tryz.prog CC a0 a1 H (endK Tryz.prog [.tmp 4]) by kernel_rfl) h))

theorem d_model_Model_place (a0 : Value) (a1 : Value) (H : AHeap) {r : Value × AHeap} (h : s_model_Model_place guardK condL shareL Tryz.prog CC a0 a1 H (endK Tryz.prog [.tmp 4, .tmp 5]) = some r) : CC F.model_Model_place [a0, a1] H = some (tidy H r) := D_body (by kernel_rfl) ((s_model_Model_place_eq stdL CC limLP a0 a1 H).trans (Eq.trans (show s_model_Model_place stdL.b.g stdL.c stdL.s Tryz.prog CC a0 a1 H (endK Tryz.prog [.tmp 4, .tmp 5]) = s_model_Model_place guardK condL shareL Tryz.prog CC a0 a1 H (endK Tryz.prog [.tmp 4, .tmp 5]) by kernel_rfl) h))

theorem d_ids_check (a0 : Value) (a1 : Value) (H : AHeap) {r : Value × AHeap} (h : s_ids_check guardK condL shareL Tryz.prog CC a0 a1 H (endK Tryz.prog [.tmp 4]) = some r) : CC F.ids_check [a0, a1] H = some (tidy H r) := D_body (by kernel_rfl) ((s_ids_check_eq stdL CC limLP a0 a1 H).trans (Eq.trans (show s_ids_check stdL.b.g stdL.c stdL.s Tryz.prog CC a0 a1 H (endK Tryz.prog [.tmp 4]) = s_ids_check guardK condL shareL Tryz.prog CC a0 a1 H (endK Tryz.prog [.tmp 4]) by kernel_rfl) h))

theorem d_slices_Clone_Pair (a0 : Value) (H : AHeap) {r : Value × AHeap} (h : s_slices_Clone_Pair guardK condL shareL Tryz.prog CC a0 H (endK Tryz.prog [.tmp 2]) = some r) : CC F.slices_Clone_Pair [a0] H = some (tidy H r) := D_body (by kernel_rfl) ((s_slices_Clone_Pair_eq stdL CC limLP a0 H).trans (Eq.trans (show s_slices_Clone_Pair stdL.b.g stdL.c stdL.s Tryz.prog CC a0 H (endK Tryz.prog [.tmp 2]) = s_slices_Clone_Pair guardK condL shareL Tryz.prog CC a0 H (endK Tryz.prog [.tmp 2]) by kernel_rfl) h))

theorem d_slices_ContainsFunc_string (a0 : Value) (a1 : Value) (H : AHeap) {r : Value × AHeap} (h : s_slices_ContainsFunc_string guardK condL shareL Tryz.prog CC a0 a1 H (endK Tryz.prog [.tmp 4]) = some r) : CC F.slices_ContainsFunc_string [a0, a1] H = some (tidy H r) := D_body (by kernel_rfl) ((s_slices_ContainsFunc_string_eq stdL CC limLP a0 a1 H).trans (Eq.trans (show s_slices_ContainsFunc_string stdL.b.g stdL.c stdL.s Tryz.prog CC a0 a1 H (endK Tryz.prog [.tmp 4]) = s_slices_ContainsFunc_string guardK condL shareL Tryz.prog CC a0 a1 H (endK Tryz.prog [.tmp 4]) by kernel_rfl) h))

theorem d_model_check_1 (a0 : Value) (H : AHeap) {r : Value × AHeap} (h : s_model_check_1 guardK condL shareL Tryz.prog CC a0 H (endK Tryz.prog [.tmp 2]) = some r) : CC F.model_check_1 [a0] H = some (tidy H r) := D_body (by kernel_rfl) ((s_model_check_1_eq stdL CC limLP a0 H).trans (Eq.trans (show s_model_check_1 stdL.b.g stdL.c stdL.s Tryz.prog CC a0 H (endK Tryz.prog [.tmp 2]) = s_model_check_1 guardK condL shareL Tryz.prog CC a0 H (endK Tryz.prog [.tmp 2]) by kernel_rfl) h))

noncomputable def l_slices_BinarySearchFunc_string_0 (v0 : Value) (v1 : Value) (v2 : Value) (v8 : Value) (v9 : Value) (v10 : Value) (H : AHeap) (k : K) : Res := loopL stdL Tryz.prog hints CC limLP F.slices_BinarySearchFunc_string 0 [(0, v0), (1, v1), (2, v2), (8, v8), (9, v9), (10, v10)] H k
theorem r_slices_BinarySearchFunc_string_0 (v0 : Value) (v1 : Value) (v2 : Value) (v8 : Value) (v9 : Value) (v10 : Value) (H : AHeap) (k : K) : l_slices_BinarySearchFunc_string_0 v0 v1 v2 v8 v9 v10 H k = s_slices_BinarySearchFunc_string_b0 guardK condL shareL Tryz.prog CC l_slices_BinarySearchFunc_string_0 v0 v1 v2 v8 v9 v10 H (seqK (fun T H => l_slices_BinarySearchFunc_string_0 (get T 0) (get T 1) (get T 2) (get T 8) (get T 9) (get T 10) H k) k) := ((loopL_next (by kernel_rfl) rfl H k).trans (s_slices_BinarySearchFunc_string_b0_eq stdL CC limLP v0 v1 v2 v8 v9 v10 H _)).trans (by kernel_rfl)
theorem d_slices_BinarySearchFunc_string (a0 : Value) (a1 : Value) (a2 : Value) (H : AHeap) {r : Value × AHeap} (h : s_slices_BinarySearchFunc_string guardK condL shareL Tryz.prog CC l_slices_BinarySearchFunc_string_0 a0 a1 a2 H (endK Tryz.prog [.tmp 6, .tmp 7]) = some r) : CC F.slices_BinarySearchFunc_string [a0, a1, a2] H = some (tidy H r) := D_body (by kernel_rfl) ((s_slices_BinarySearchFunc_string_eq stdL CC limLP a0 a1 a2 H).trans (Eq.trans (show s_slices_BinarySearchFunc_string stdL.b.g stdL.c stdL.s Tryz.prog CC (fun v0 v1 v2 v8 v9 v10 H k => loopL stdL Tryz.prog hints CC limLP F.slices_BinarySearchFunc_string 0 [(0, v0), (1, v1), (2, v2), (8, v8), (9, v9), (10, v10)] H k) a0 a1 a2 H (endK Tryz.prog [.tmp 6, .tmp 7]) = s_slices_BinarySearchFunc_string guardK condL shareL Tryz.prog CC l_slices_BinarySearchFunc_string_0 a0 a1 a2 H (endK Tryz.prog [.tmp 6, .tmp 7]) by kernel_rfl) h))

theorem d_model_Model_place_1 (a0 : Value) (a1 : Value) (H : AHeap) {r : Value × AHeap} (h : s_model_Model_place_1 guardK condL shareL Tryz.prog CC a0 a1 H (endK Tryz.prog [.tmp 4]) = some r) : CC F.model_Model_place_1 [a0, a1] H = some (tidy H r) := D_body (by kernel_rfl) ((s_model_Model_place_1_eq stdL CC limLP a0 a1 H).trans (Eq.trans (show s_model_Model_place_1 stdL.b.g stdL.c stdL.s Tryz.prog CC a0 a1 H (endK Tryz.prog [.tmp 4]) = s_model_Model_place_1 guardK condL shareL Tryz.prog CC a0 a1 H (endK Tryz.prog [.tmp 4]) by kernel_rfl) h))

theorem d_keys_Compare (a0 : Value) (a1 : Value) (H : AHeap) {r : Value × AHeap} (h : s_keys_Compare guardK condL shareL Tryz.prog CC a0 a1 H (endK Tryz.prog [.tmp 4]) = some r) : CC F.keys_Compare [a0, a1] H = some (tidy H r) := D_body (by kernel_rfl) ((s_keys_Compare_eq stdL CC limLP a0 a1 H).trans (Eq.trans (show s_keys_Compare stdL.b.g stdL.c stdL.s Tryz.prog CC a0 a1 H (endK Tryz.prog [.tmp 4]) = s_keys_Compare guardK condL shareL Tryz.prog CC a0 a1 H (endK Tryz.prog [.tmp 4]) by kernel_rfl) h))

noncomputable def l_slices_IndexFunc_string_0 (v0 : Value) (v1 : Value) (v7 : Value) (v8 : Value) (H : AHeap) (k : K) : Res := loopL stdL Tryz.prog hints CC limLP F.slices_IndexFunc_string 0 [(0, v0), (1, v1), (7, v7), (8, v8)] H k
theorem r_slices_IndexFunc_string_0 (v0 : Value) (v1 : Value) (v7 : Value) (v8 : Value) (H : AHeap) (k : K) : l_slices_IndexFunc_string_0 v0 v1 v7 v8 H k = s_slices_IndexFunc_string_b0 guardK condL shareL Tryz.prog CC l_slices_IndexFunc_string_0 v0 v1 v7 v8 H (seqK (fun T H => l_slices_IndexFunc_string_0 (get T 0) (get T 1) (get T 7) (get T 8) H k) k) := ((loopL_next (by kernel_rfl) rfl H k).trans (s_slices_IndexFunc_string_b0_eq stdL CC limLP v0 v1 v7 v8 H _)).trans (by kernel_rfl)
theorem d_slices_IndexFunc_string (a0 : Value) (a1 : Value) (H : AHeap) {r : Value × AHeap} (h : s_slices_IndexFunc_string guardK condL shareL Tryz.prog CC l_slices_IndexFunc_string_0 a0 a1 H (endK Tryz.prog [.tmp 4]) = some r) : CC F.slices_IndexFunc_string [a0, a1] H = some (tidy H r) := D_body (by kernel_rfl) ((s_slices_IndexFunc_string_eq stdL CC limLP a0 a1 H).trans (Eq.trans (show s_slices_IndexFunc_string stdL.b.g stdL.c stdL.s Tryz.prog CC (fun v0 v1 v7 v8 H k => loopL stdL Tryz.prog hints CC limLP F.slices_IndexFunc_string 0 [(0, v0), (1, v1), (7, v7), (8, v8)] H k) a0 a1 H (endK Tryz.prog [.tmp 4]) = s_slices_IndexFunc_string guardK condL shareL Tryz.prog CC l_slices_IndexFunc_string_0 a0 a1 H (endK Tryz.prog [.tmp 4]) by kernel_rfl) h))

theorem d_strings_Compare (a0 : Value) (a1 : Value) (H : AHeap) {r : Value × AHeap} (h : s_strings_Compare guardK condL shareL Tryz.prog CC a0 a1 H (endK Tryz.prog [.tmp 4]) = some r) : CC F.strings_Compare [a0, a1] H = some (tidy H r) := D_body (by kernel_rfl) ((s_strings_Compare_eq stdL CC limLP a0 a1 H).trans (Eq.trans (show s_strings_Compare stdL.b.g stdL.c stdL.s Tryz.prog CC a0 a1 H (endK Tryz.prog [.tmp 4]) = s_strings_Compare guardK condL shareL Tryz.prog CC a0 a1 H (endK Tryz.prog [.tmp 4]) by kernel_rfl) h))

theorem d_internal_bytealg_CompareString (a0 : Value) (a1 : Value) (H : AHeap) {r : Value × AHeap} (h : s_internal_bytealg_CompareString guardK condL shareL Tryz.prog CC a0 a1 H (endK Tryz.prog [.tmp 4]) = some r) : CC F.internal_bytealg_CompareString [a0, a1] H = some (tidy H r) := D_body (by kernel_rfl) ((s_internal_bytealg_CompareString_eq stdL CC limLP a0 a1 H).trans (Eq.trans (show s_internal_bytealg_CompareString stdL.b.g stdL.c stdL.s Tryz.prog CC a0 a1 H (endK Tryz.prog [.tmp 4]) = s_internal_bytealg_CompareString guardK condL shareL Tryz.prog CC a0 a1 H (endK Tryz.prog [.tmp 4]) by kernel_rfl) h))

end Go.Proofs.YtlfpjndbpclnnaaGreatDoor
