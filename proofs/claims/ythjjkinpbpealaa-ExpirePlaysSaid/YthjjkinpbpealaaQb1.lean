/-
  8 texts in one (merge.py): Wk Wc Wl We Wf Wg Wh Wi.
  Conditions: none. By an AI agent.
-/
import Derived.Test.YthjjkinpbpealaaChecked
import Derived.KernelRfl
import Derived.Maps.RangeWalk
import Derived.Maps.AppendAt
import Derived.Maps.OwnOps
import Derived.Sort.KeysCollected
import Derived.Sort.OwnSorted
import Derived.WalkKit
import Derived.OwnWalk
import Derived.LoopN
import Derived.Deep.QuietTactic
import Derived.WalkLawsBesides
import Derived.Deep.RegionHeld3
import Derived.WalkSpells
import Derived.StillTactics
import Derived.Shelf.SlSortCmp.NoneTotal

/-
  Chapter 45: functions over the map of ends, walked: ended.
  Conditions: none. By an AI agent.
-/
set_option linter.unusedSimpArgs false
set_option linter.unusedVariables false
namespace Go.Proofs.Ythjjkinpbpealaa
open Go Go.RowKit Go.Maps Go.Sort

theorem law9 : Keyed Try.prog 9 := string_keyed Try.underlying9
theorem info9 : (Try.prog.info? 9).map (fun i => (i.zero, i.size, i.bytes)) = some (some (.string ⟨#[]⟩), 1, 16) := by kernel_rfl

noncomputable abbrev RI : Value → Option (DataW Unit × List MemPlace) := plainElem Try.prog 3
noncomputable def numD (D : DataW Unit) (s : List UInt8) : Int := match D.atKey (.string s) (.lit (.int .i64 0)) with
  | .lit (.int _ c) => c
  | _ => 0
theorem look27 {w : World} {b n : Nat} {D : DataW Unit} (h : w.ownsMap Try.prog 9 RI b n D) (s : List UInt8) (hs : s.length ≤ maxLen) : (Instr.lookup 27 (.map (some b)) (encStr s) false).run Try.prog w = .ok (.int .i64 (numD D s)) w := by
  have hk : keyOf Try.prog 9 (encStr s) = some (.string s) := by
    have := Go.WideMaps.keyOf_string_mk (P := Try.prog) (k := 9) Try.underlying9 (s := ⟨s.toArray⟩) hs
    simpa using this
  obtain ⟨c, h1, h2, _⟩ := h.lookup_int law9 Try.underlying27 Try.underlying3 (Try.zeroValue3 w) hk
  rw [h1]
  unfold numD
  rw [h2]

noncomputable def endD (D : DataW Unit) (now : Int) (s : List UInt8) : Bool := decide (0 < numD D s) && decide (numD D s ≤ now)

set_option maxRecDepth 100000 in
set_option maxHeartbeats 1000000 in
theorem ended_c {w : World} {pb po b n : Nat} {now : Int} {D : DataW Unit} (h1 : w.cell? ⟨pb, po + 1, none⟩ = some (.map (some b))) (h2 : w.cell? ⟨pb, po + 2, none⟩ = some (.int .i64 now)) (h : w.ownsMap Try.prog 9 RI b n D) (s : List UInt8) (hs : s.length ≤ maxLen) :
    Calls Try.prog 40 #[.pointer (some ⟨pb, po, none⟩), encStr s] w fun e w' => e = .returned (.bool (endD D now s)) ∧ ∃ k, w' = w.drewN k := by
  have hlk : ∀ k, (Instr.lookup 27 (.map (some b)) (encStr s) false).run Try.prog (w.drewN k) = .ok (.int .i64 (numD D s)) (w.drewN k) := fun k => look27 (w := w.drewN k) h s hs
  unfold endD
  generalize numD D s = c at hlk ⊢
  by_cases c1 : 0 < c
  · by_cases c2 : c ≤ now
    · go_enter Try.func40, Try.ntmps40
      go_wp2
      go_quiet (fail)
      go_wp2
      go_ret
      exact ⟨by simp [c1, c2], _, rfl⟩
    · go_enter Try.func40, Try.ntmps40
      go_wp2
      go_quiet (fail)
      go_wp2
      go_ret
      exact ⟨by simp [c1, c2], _, rfl⟩
  · go_enter Try.func40, Try.ntmps40
    go_wp2
    refine wp_region_quiet_lit (by kernel_rfl) (by kernel_rfl) ?_
    repeat (first | quiet_step (fail) | (refine wpQuiet_step (fun K hK => ?_); go_simp; rw [if_neg (show ¬ 0 < c by omega)]; refine hK _ ?_; clear hK K))
    refine wpQuiet_nil ?_
    intro _ hw'
    obtain ⟨nq, hw''⟩ := hw'
    subst hw''
    go_wp2
    go_ret
    exact ⟨by simp, _, rfl⟩

end Go.Proofs.Ythjjkinpbpealaa

/-
  Chapter 45: how the keys that have ended are compared, walked.
  Conditions: none. By an AI agent.
-/
set_option linter.unusedSimpArgs false
set_option linter.unusedVariables false
namespace Go.Proofs.Ythjjkinpbpealaa
open Go Go.RowKit Go.Maps Go.Sort

def cmpI (a b : Int) : Int := if a < b then -1 else if b < a then 1 else 0
def cmpL (a b : List UInt8) : Int := if Op.bytesLess a b then -1 else if a == b then 0 else 1

set_option maxRecDepth 100000 in
theorem nan_int (a : Int) (w : World) : Calls Try.prog 59 #[.int .i64 a] w fun e w' => e = .returned (.bool false) ∧ w' = w := by
  go_enter Try.func59, Try.ntmps59
  go_wp2
  go_ret
  exact ⟨by simp, rfl⟩
set_option maxRecDepth 100000 in
theorem nan_str (a : List UInt8) (w : World) : Calls Try.prog 60 #[encStr a] w fun e w' => e = .returned (.bool false) ∧ w' = w := by
  unfold encStr
  go_enter Try.func60, Try.ntmps60
  go_wp2
  go_ret
  exact ⟨by simp, rfl⟩
set_option maxRecDepth 100000 in
theorem cmp_int (a b : Int) (w : World) : Calls Try.prog 49 #[.int .i64 a, .int .i64 b] w fun e w' => e = .returned (.int .i64 (cmpI a b)) ∧ w' = w := by
  have n1 := nan_int a w
  have n2 := nan_int b w
  unfold cmpI
  by_cases h1 : a < b
  · go_enter Try.func49, Try.ntmps49
    go_wp2_with (first | (go_at_call 59; refine n1.mono ?_; rintro e w' ⟨rfl, rfl⟩) | (go_at_call 59; refine n2.mono ?_; rintro e w' ⟨rfl, rfl⟩))
    go_ret
    exact ⟨by simp [h1], rfl⟩
  · by_cases h2 : b < a
    · go_enter Try.func49, Try.ntmps49
      go_wp2_with (first | (go_at_call 59; refine n1.mono ?_; rintro e w' ⟨rfl, rfl⟩) | (go_at_call 59; refine n2.mono ?_; rintro e w' ⟨rfl, rfl⟩))
      go_ret
      exact ⟨by simp [h1, h2], rfl⟩
    · go_enter Try.func49, Try.ntmps49
      go_wp2_with (first | (go_at_call 59; refine n1.mono ?_; rintro e w' ⟨rfl, rfl⟩) | (go_at_call 59; refine n2.mono ?_; rintro e w' ⟨rfl, rfl⟩))
      go_ret
      exact ⟨by simp [h1, h2], rfl⟩
set_option maxRecDepth 100000 in
theorem cmp_str (a b : List UInt8) (w : World) : Calls Try.prog 50 #[encStr a, encStr b] w fun e w' => e = .returned (.int .i64 (cmpL a b)) ∧ w' = w := by
  have n1 := nan_str a w
  have n2 := nan_str b w
  unfold cmpL
  unfold encStr at *
  cases h1 : Op.bytesLess a b
  · cases h2 : (a == b)
    · go_enter Try.func50, Try.ntmps50
      go_wp2_with (first | (go_at_call 60; refine n1.mono ?_; rintro e w' ⟨rfl, rfl⟩) | (go_at_call 60; refine n2.mono ?_; rintro e w' ⟨rfl, rfl⟩))
      go_ret
      exact ⟨by simp, rfl⟩
    · go_enter Try.func50, Try.ntmps50
      go_wp2_with (first | (go_at_call 60; refine n1.mono ?_; rintro e w' ⟨rfl, rfl⟩) | (go_at_call 60; refine n2.mono ?_; rintro e w' ⟨rfl, rfl⟩))
      go_ret
      exact ⟨by simp, rfl⟩
  · go_enter Try.func50, Try.ntmps50
    go_wp2_with (first | (go_at_call 60; refine n1.mono ?_; rintro e w' ⟨rfl, rfl⟩) | (go_at_call 60; refine n2.mono ?_; rintro e w' ⟨rfl, rfl⟩))
    go_ret
    exact ⟨by simp, rfl⟩

def orI (a b : Int) : Int := if a = 0 then b else a
set_option maxRecDepth 100000 in
theorem or_c (a b : Int) (g : Nat) (w : World) (h0 : w.cell? ⟨g, 0, none⟩ = some (.int .i64 a)) (h1 : w.cell? ⟨g, 1, none⟩ = some (.int .i64 b)) :
    Calls Try.prog 48 #[.slice (some ⟨g, 0, none⟩) 2 2] w fun e w' => e = .returned (.int .i64 (orI a b)) ∧ w' = w := by
  unfold orI
  by_cases ha : a = 0
  · by_cases hb : b = 0
    · go_enter Try.func48, Try.ntmps48
      go_wp2
      refine wp_loop_rounds 3 ?_
      rw [rounds_succ]
      go_wp2
      rw [rounds_succ]
      go_wp2
      rw [rounds_succ]
      go_wp2
      go_ret
      exact ⟨by simp [ha, hb], rfl⟩
    · go_enter Try.func48, Try.ntmps48
      go_wp2
      refine wp_loop_rounds 2 ?_
      rw [rounds_succ]
      go_wp2
      rw [rounds_succ]
      go_wp2
      go_ret
      exact ⟨by simp [ha], rfl⟩
  · go_enter Try.func48, Try.ntmps48
    go_wp2
    refine wp_loop_rounds 1 ?_
    rw [rounds_succ]
    go_wp2
    go_ret
    exact ⟨by simp [ha], rfl⟩

/-- How two keys are compared: by their ends, and then by themselves. -/
noncomputable def cfD (D : DataW Unit) (a b : List UInt8) : Int := orI (cmpI (numD D a) (numD D b)) (cmpL a b)

set_option maxRecDepth 100000 in
set_option maxHeartbeats 4000000 in
theorem less_c {W : World} {bx pb po b n : Nat} {D : DataW Unit} (h0 : W.cell? ⟨bx, 0, none⟩ = some (.pointer (some ⟨pb, po, none⟩))) (h1 : W.cell? ⟨pb, po + 1, none⟩ = some (.map (some b))) (h : W.ownsMap Try.prog 9 RI b n D)
    (x y : List UInt8) (hx : x.length ≤ maxLen) (hy : y.length ≤ maxLen) :
    Calls Try.prog 47 #[encStr x, encStr y, .pointer (some ⟨bx, 0, none⟩)] W fun e w' => e = .returned (.int .i64 (cfD D x y)) ∧ ∃ q os', w' = grow (W.drewN q) os' := by
  have look : ∀ (z : List UInt8), z.length ≤ maxLen → ∀ w' : World, w'.ownsMap Try.prog 9 RI b n D → (Instr.lookup 27 (.map (some b)) (encStr z) false).run Try.prog w' = .ok (.int .i64 (numD D z)) w' := fun z hz w' hw => look27 hw z hz
  have lx := look x hx
  have ly := look y hy
  have hlx := lx W h
  have hly := ly W h
  have cI := cmp_int (numD D x) (numD D y)
  have cS := cmp_str x y
  have cO := or_c (cmpI (numD D x) (numD D y)) (cmpL x y)
  unfold cfD
  generalize cmpI (numD D x) (numD D y) = A at cI cO ⊢
  generalize cmpL x y = B at cS cO ⊢
  generalize numD D x = X at *
  generalize numD D y = Y at *
  clear look hx hy
  generalize encStr x = ex at *
  generalize encStr y = ey at *
  go_enter Try.func47, Try.ntmps47
  go_wp2_with fail
  go_region_held3 (fun w' => w'.cell? ⟨bx, 0, none⟩ = some (.pointer (some ⟨pb, po, none⟩)) ∧ w'.cell? ⟨pb, po + 1, none⟩ = some (.map (some b)) ∧ (Instr.lookup 27 (.map (some b)) ex false).run Try.prog w' = .ok (.int .i64 X) w' ∧ (Instr.lookup 27 (.map (some b)) ey false).run Try.prog w' = .ok (.int .i64 Y) w')
    (first
      | (go_split_ands
         refine ⟨by go_keep, by go_keep, ?_, ?_⟩
         · first | assumption | exact lx _ h | exact lx _ (h.alloc _)
         · first | assumption | exact ly _ h | exact ly _ (h.alloc _)))
    (first
      | (go_at_call 49; refine (cI _).mono ?_; rintro e w' ⟨rfl, rfl⟩)
      | (go_at_call 50; refine (cS _).mono ?_; rintro e w' ⟨rfl, rfl⟩)
      | (go_at_call 48; refine (cO _ _ ?_ ?_).mono ?_; (simp [*]); (simp [*]); rintro e w' ⟨rfl, rfl⟩))
  all_goals go_wp2
  all_goals go_ret
  all_goals exact ⟨rfl, 1, #[.cells #[.int .i64 A, .int .i64 B] 3], by rw [alloc_eq_grow]; rfl⟩

end Go.Proofs.Ythjjkinpbpealaa

/-
  Chapter 45: the kit's contract of slices.SortFunc at this program (printed by wip/tools/laygen.py).
  Conditions: none. By an AI agent.
-/
set_option linter.unusedSimpArgs false
set_option linter.unusedVariables false
namespace Go.Proofs.Ythjjkinpbpealaa
open Go Go.Shelf

def sortLays_ren : Go.Shelf.Ren := ⟨fun | 6 => 46 | 15 => 58 | 14 => 57 | 28 => 76 | 29 => 77 | 20 => 68 | 21 => 69 | 22 => 70 | 23 => 71 | 24 => 72 | 25 => 73 | 26 => 74 | 27 => 75 | 46 => 81 | 47 => 82 | 48 => 83 | 49 => 84 | 50 => 85 | 57 => 88 | n => n, fun | 22 => 35 | 24 => 9 | 25 => 85 | 3 => 3 | 39 => 95 | 0 => 0 | 53 => 110 | 55 => 112 | 4 => 4 | 46 => 104 | 45 => 103 | 50 => 86 | 5 => 5 | 9 => 9 | 66 => 114 | 70 => 118 | 76 => 121 | 77 => 122 | n => n, fun n => n⟩
theorem sortLays : Go.Proofs.SlLaysF.n6 Try.prog sortLays_ren := {
  mixed := by kernel_rfl
  f6 := ⟨"slices.SortFunc[[]string,string]", by kernel_rfl, Try.func46.trans (congrArg some (by kernel_rfl))⟩
  f14 := ⟨"slices.pdqsortCmpFunc[string]", by kernel_rfl, Try.func57.trans (congrArg some (by kernel_rfl))⟩
  f15 := Try.func58.trans (congrArg some (by kernel_rfl))
  f20 := ⟨"slices.insertionSortCmpFunc[string]", by kernel_rfl, Try.func68.trans (congrArg some (by kernel_rfl))⟩
  f21 := ⟨"slices.heapSortCmpFunc[string]", by kernel_rfl, Try.func69.trans (congrArg some (by kernel_rfl))⟩
  f22 := ⟨"slices.breakPatternsCmpFunc[string]", by kernel_rfl, Try.func70.trans (congrArg some (by kernel_rfl))⟩
  f23 := ⟨"slices.choosePivotCmpFunc[string]", by kernel_rfl, Try.func71.trans (congrArg some (by kernel_rfl))⟩
  f24 := ⟨"slices.reverseRangeCmpFunc[string]", by kernel_rfl, Try.func72.trans (congrArg some (by kernel_rfl))⟩
  f25 := ⟨"slices.partialInsertionSortCmpFunc[string]", by kernel_rfl, Try.func73.trans (congrArg some (by kernel_rfl))⟩
  f26 := ⟨"slices.partitionEqualCmpFunc[string]", by kernel_rfl, Try.func74.trans (congrArg some (by kernel_rfl))⟩
  f27 := ⟨"slices.partitionCmpFunc[string]", by kernel_rfl, Try.func75.trans (congrArg some (by kernel_rfl))⟩
  f28 := Try.func76.trans (congrArg some (by kernel_rfl))
  f29 := Try.func77.trans (congrArg some (by kernel_rfl))
  f46 := ⟨"slices.siftDownCmpFunc[string]", by kernel_rfl, Try.func81.trans (congrArg some (by kernel_rfl))⟩
  f47 := Try.func82.trans (congrArg some (by kernel_rfl))
  f48 := Try.func83.trans (congrArg some (by kernel_rfl))
  f49 := ⟨"slices.medianAdjacentCmpFunc[string]", by kernel_rfl, Try.func84.trans (congrArg some (by kernel_rfl))⟩
  f50 := ⟨"slices.medianCmpFunc[string]", by kernel_rfl, Try.func85.trans (congrArg some (by kernel_rfl))⟩
  f57 := ⟨"slices.order2CmpFunc[string]", by kernel_rfl, Try.func88.trans (congrArg some (by kernel_rfl))⟩
  t0 := Try.underlying0
  a0 := Try.isAgg0
  z0 := Try.sizeOf0
  v0 := Try.zeroValue0
  t3 := Try.underlying3
  a3 := Try.isAgg3
  z3 := Try.sizeOf3
  v3 := Try.zeroValue3
  t4 := Try.underlying4
  a4 := Try.isAgg4
  z4 := Try.sizeOf4
  v4 := Try.zeroValue4
  t5 := Try.underlying5
  a5 := Try.isAgg5
  z5 := Try.sizeOf5
  v5 := Try.zeroValue5
  t9 := Try.underlying9
  a9 := Try.isAgg9
  z9 := Try.sizeOf9
  v9 := Try.zeroValue9
  t22 := Try.underlying35
  a22 := Try.isAgg35
  z22 := Try.sizeOf35
  v22 := Try.zeroValue35
  a24 := Try.isAgg9
  z24 := Try.sizeOf9
  t25 := Try.underlying85
  a25 := Try.isAgg85
  z25 := Try.sizeOf85
  v25 := Try.zeroValue85
  t39 := Try.underlying95
  a39 := Try.isAgg95
  z39 := Try.sizeOf95
  v39 := Try.zeroValue95
  t45 := Try.underlying103
  a45 := Try.isAgg103
  z45 := Try.sizeOf103
  v45 := Try.zeroValue103
  t46 := Try.underlying104
  a46 := Try.isAgg104
  z46 := Try.sizeOf104
  v46 := Try.zeroValue104
  t50 := Try.underlying86
  a50 := Try.isAgg86
  z50 := Try.sizeOf86
  v50 := Try.zeroValue86
  t53 := Try.underlying110
  a53 := Try.isAgg110
  z53 := Try.sizeOf110
  v53 := Try.zeroValue110
  t55 := Try.underlying112
  a55 := Try.isAgg112
  z55 := Try.sizeOf112
  v55 := Try.zeroValue112
  t66 := Try.underlying114
  a66 := Try.isAgg114
  z66 := Try.sizeOf114
  v66 := Try.zeroValue114
  t70 := Try.underlying118
  a70 := Try.isAgg118
  z70 := Try.sizeOf118
  v70 := Try.zeroValue118
  t76 := Try.underlying121
  a76 := Try.isAgg121
  z76 := Try.sizeOf121
  v76 := Try.zeroValue121
  t77 := Try.underlying122
  a77 := Try.isAgg122
  z77 := Try.sizeOf122
  v77 := Try.zeroValue122 }

end Go.Proofs.Ythjjkinpbpealaa

/-
  Chapter 45: the keys that have ended, walked: waiting.
  Conditions: none. By an AI agent.
-/
set_option linter.unusedSimpArgs false
set_option linter.unusedVariables false
namespace Go.Proofs.Ythjjkinpbpealaa
open Go Go.RowKit Go.Maps Go.Sort

/-! ### the order -/
theorem less_lt : ∀ a b : List UInt8, Op.bytesLess a b = decide (a < b)
  | [], [] => by simp [Op.bytesLess]
  | _ :: _, [] => by simp [Op.bytesLess]
  | [], _ :: _ => by simp [Op.bytesLess]
  | a :: x, b :: y => by
    show (decide (a < b) || (a == b && Op.bytesLess x y)) = _
    rw [less_lt x y]
    apply Bool.eq_iff_iff.2
    simp [List.cons_lt_cons_iff]
/-- Is a key before another one? -/
def befP (f : List UInt8 → Int) (a b : List UInt8) : Prop := f a < f b ∨ (f a = f b ∧ a < b)
theorem cfD_neg (D : DataW Unit) (a b : List UInt8) : cfD D a b < 0 ↔ befP (numD D) a b := by
  unfold cfD befP
  generalize numD D a = x
  generalize numD D b = y
  unfold orI cmpI cmpL
  rw [less_lt]
  by_cases h1 : x < y
  · simp [h1]
  · by_cases h2 : y < x
    · simp [h1, h2]; omega
    · have : x = y := by omega
      subst this
      by_cases h3 : a < b
      · simp [h3]
      · by_cases h4 : a = b
        · subst h4; simp [h3]
        · simp [h3, h4]
theorem bef_irr (f : List UInt8 → Int) (a : List UInt8) : ¬ befP f a a := fun h => by
  rcases h with h | ⟨_, h⟩
  · omega
  · exact absurd h (List.lt_irrefl a)
theorem bef_trans (f : List UInt8 → Int) {a b c : List UInt8} (h : befP f a b) (k : befP f b c) : befP f a c := by
  rcases h with h | ⟨h, h'⟩
  · rcases k with k | ⟨k, _⟩
    · exact .inl (by omega)
    · exact .inl (by omega)
  · rcases k with k | ⟨k, k'⟩
    · exact .inl (by omega)
    · exact .inr ⟨by omega, List.lt_trans h' k'⟩
theorem bef_tot (f : List UInt8 → Int) {a b : List UInt8} (h : ¬ befP f a b) (k : ¬ befP f b a) : a = b := by
  unfold befP at h k
  have h1 : ¬ f a < f b := fun e => h (.inl e)
  have h2 : ¬ f b < f a := fun e => k (.inl e)
  have e : f a = f b := by omega
  have h3 : ¬ a < b := fun x => h (.inr ⟨e, x⟩)
  have h4 : ¬ b < a := fun x => k (.inr ⟨e.symm, x⟩)
  exact List.le_antisymm (List.not_lt.1 h4) (List.not_lt.1 h3)
theorem bef_ntrans (f : List UInt8 → Int) {a b c : List UInt8} (h : ¬ befP f a b) (k : ¬ befP f b c) : ¬ befP f a c := fun x => by
  by_cases hb : befP f b a
  · exact k (bef_trans f hb x)
  · have := bef_tot f h hb
    subst this
    exact k x

/-! ### keys of a length that a map takes -/
abbrev Ky := { s : List UInt8 // s.length ≤ maxLen }
instance : Inhabited Ky := ⟨⟨[], by simp⟩⟩
def encK (k : Ky) : Value := encStr k.1
noncomputable def cfK (D : DataW Unit) (a b : Ky) : Int := cfD D a.1 b.1
theorem ltK (D : DataW Unit) (a b : Ky) : Proofs.ltOf (cfK D) a b = true ↔ befP (numD D) a.1 b.1 := by
  unfold Proofs.ltOf cfK
  rw [decide_eq_true_eq, cfD_neg]
theorem ltK_f (D : DataW Unit) (a b : Ky) : Proofs.ltOf (cfK D) a b = false ↔ ¬ befP (numD D) a.1 b.1 := by
  rw [← ltK, Bool.not_eq_true]
theorem swoK (D : DataW Unit) : SWO (Proofs.ltOf (cfK D)) where
  irrefl x := (ltK_f D _ _).2 (bef_irr _ _)
  trans x y z h1 h2 := (ltK D _ _).2 (bef_trans _ ((ltK D _ _).1 h1) ((ltK D _ _).1 h2))
  ntrans x y z h1 h2 := (ltK_f D _ _).2 (bef_ntrans _ ((ltK_f D _ _).1 h1) ((ltK_f D _ _).1 h2))

theorem putRow_K (w : World) (blk off : Nat) (d : Array Ky) : putRow encK w blk off d = putRow encStr w blk off (d.map (·.1)) := by
  unfold putRow putCells
  congr 1
  funext cur
  congr 1
  funext k v
  simp only [Array.size_map]
  split
  · rename_i h
    have hk : k - off < d.size := by omega
    rw [getElem!_pos d _ hk, getElem!_pos (d.map (·.1)) _ (by simpa using hk)]
    simp [encK]
  · rfl
theorem sortWorld_K (w : World) (blk off m : Nat) (d : Array Ky) (os : Array Obj) : Proofs.sortWorld encK w blk off m d os = grow (putRow encStr (Sort.ahead w m) blk off (d.map (·.1))) os := by
  unfold Proofs.sortWorld
  rw [putRow_K]

end Go.Proofs.Ythjjkinpbpealaa

/-
  Chapter 45: the keys that have ended, walked: waiting, whole.
  Conditions: none. By an AI agent.
-/
set_option linter.unusedSimpArgs false
set_option linter.unusedVariables false
namespace Go.Proofs.Ythjjkinpbpealaa
open Go Go.RowKit Go.Maps Go.Sort

theorem row_ne_iter {w : World} {base : Nat} {e : TypeId} {v : Value} {k n : Nat} {xs : List Value} {P : Program} {kt : TypeId} {H : Type} {R : Value → Option (DataW H × List MemPlace)} {b r cnt : Nat} {D : DataW H} {left : Lit → Bool}
    (h : w.ownsRow base e 1 v k xs) (hr : w.ranges P kt R b r n D left cnt) : some r ≠ v.ownBlock := by
  obtain ⟨es, clock, since, seen, c0, _, _, _, _, hri, _⟩ := hr
  rcases h.2 with ⟨rfl, _⟩ | ⟨g, cap, cur, rfl, h1, hg, _⟩
  · simp [Value.ownBlock]
  · intro e
    have := Option.some.inj e
    simp only at this
    subst this
    rw [hri] at hg
    cases hg
theorem row_ne_low {w : World} {base : Nat} {e : TypeId} {v : Value} {k : Nat} {xs : List Value} {b : Nat} (h : w.ownsRow base e 1 v k xs) (hb : b < base) : some b ≠ v.ownBlock := by
  rcases h.2 with ⟨rfl, _⟩ | ⟨g, cap, cur, rfl, h1, _⟩
  · simp [Value.ownBlock]
  · intro e; have := Option.some.inj e; simp only at this; omega
theorem cell_block {w w' : World} {b o : Nat} {v : Value} (h : w.cell? ⟨b, o, none⟩ = some v) (e : w'.heap[b]? = w.heap[b]?) : w'.cell? ⟨b, o, none⟩ = some v := by
  unfold World.cell? at h ⊢
  simp only [e]
  exact h

/-- The sort of the keys that have ended. -/
theorem sort_c {w : World} {bx pb po b n g cap : Nat} {D : DataW Unit} {fs : List (List UInt8)} {cur : Array Value} (h0 : w.cell? ⟨bx, 0, none⟩ = some (.pointer (some ⟨pb, po, none⟩))) (h1 : w.cell? ⟨pb, po + 1, none⟩ = some (.map (some b))) (h : w.ownsMap Try.prog 9 RI b n D)
    (hfs : ∀ s ∈ fs, s.length ≤ maxLen) (hlen : fs.length < 4611686018427387904) (hb : w.heap[g]? = some (.cells cur 9 (0, 0))) (ht : cur.toList.take fs.length = fs.map encStr) (hbx : bx ≠ g) (hpb : pb ≠ g) (hbg : b ≠ g) :
    Calls Try.prog 46 #[.slice (some ⟨g, 0, none⟩) fs.length cap, .func (.func 47) #[] #[.pointer (some ⟨bx, 0, none⟩)]] w fun e w' => e = .returned (.tuple #[]) ∧
      ∃ (ts : List (List UInt8)) (q : Nat) (os : Array Obj), ts.Perm fs ∧ ts.Pairwise (fun x y => ¬ befP (numD D) y x) ∧ w' = grow (putRow encStr (Sort.ahead w q) g 0 ts.toArray) os := by
  have hgl : g < w.heap.size := (Array.getElem?_eq_some_iff.1 hb).1
  obtain ⟨ks, rfl⟩ : ∃ ks : List Ky, ks.map (·.1) = fs := ⟨fs.attach.map fun x => ⟨x.1, hfs x.1 x.2⟩, by rw [List.map_map]; exact List.attach_map_subtype_val fs⟩
  have hlt : ∀ (q : Nat) (dk : Array Ky) (os : Array Obj) (i : Nat), i < w.heap.size → i ≠ g → (Proofs.sortWorld encK w g 0 q dk os).heap[i]? = w.heap[i]? := fun q dk os i hi hne => by
    rw [sortWorld_K]
    have k : w.grownBy (grow (putRow encStr (Sort.ahead w q) g 0 (dk.map (·.1))) os) (some g) := grownBy_sorted _
    exact k.block i hi (fun e => hne (Option.some.inj e))
  have hcmp : Proofs.CmpLays1 Try.prog 47 #[.pointer (some ⟨bx, 0, none⟩)] encK (cfK D) g 0 (ks.toArray).size w := by
    intro q os dk hs x y
    have l0 : bx < w.heap.size := World.block_lt_of_cell? w _ h0
    have l1 : pb < w.heap.size := World.block_lt_of_cell? w _ h1
    refine less_c (bx := bx) (pb := pb) (po := po) (b := b) (n := n) (cell_block h0 (hlt q dk os bx l0 hbx)) (cell_block h1 (hlt q dk os pb l1 hpb)) ?_ x.1 y.1 x.2 y.2
    refine h.kept (row := some g) ?_ (fun e => hbg (Option.some.inj e))
    rw [sortWorld_K]
    exact grownBy_sorted _
  have eg : ∀ args w, (callFunc 47 args).run Try.prog w = .ok (.enter 47 args) w := Proofs.enters_of Try.func47 (by kernel_rfl) rfl
  have hH : Holds encK w g 0 ks.toArray := by
    have := holds_of_block (ss := ks.map (·.1)) hb ht
    intro j hj
    have hj' : j < (ks.map (·.1)).toArray.size := by simpa using hj
    obtain ⟨h1, h2⟩ := this j hj'
    refine ⟨?_, h2⟩
    rw [h1, getElem!_pos (ks.map (·.1)).toArray j hj', getElem!_pos ks.toArray j hj]
    simp [encK]
  have hc := Proofs.Any.slices_SortFunc_total sortLays encK (fun _ => rfl) (cfK D) (swoK D) 47 #[.pointer (some ⟨bx, 0, none⟩)] g 0 cap ks.toArray w eg hcmp hH hgl (by simpa using hlen) (fun x y h1 h2 => Subtype.ext (bef_tot _ ((ltK_f D _ _).1 h1) ((ltK_f D _ _).1 h2)))
  have hz : (ks.map (·.1)).length = ks.toArray.size := by simp
  rw [hz]
  refine hc.mono ?_
  rintro e w' ⟨rfl, q, os, rfl⟩
  refine ⟨rfl, (ks.mergeSort fun x y => !(Proofs.ltOf (cfK D)) y x).map (·.1), q, os, (List.mergeSort_perm _ _).map _, ?_, ?_⟩
  · rw [List.pairwise_map]
    have hp := List.pairwise_mergeSort (le := fun x y : Ky => !(Proofs.ltOf (cfK D)) y x) (fun a b c h1 h2 => by
      simp only [Bool.not_eq_true', ltK_f] at h1 h2 ⊢
      exact bef_ntrans _ h2 h1) (fun a b => by
      simp only [Bool.or_eq_true, Bool.not_eq_true', ltK_f]
      by_cases h : befP (numD D) b.1 a.1
      · exact .inr fun k => bef_irr _ _ (bef_trans _ h k)
      · exact .inl h) ks
    exact hp.imp fun h => by simpa only [Bool.not_eq_true', ltK_f] using h
  · rw [sortWorld_K]
    simp

end Go.Proofs.Ythjjkinpbpealaa

/-
  Chapter 45: the keys that have ended, walked: waiting, whole.
  Conditions: none. By an AI agent.
-/
set_option linter.unusedSimpArgs false
set_option linter.unusedVariables false
namespace Go.Proofs.Ythjjkinpbpealaa
open Go Go.RowKit Go.Maps Go.Sort

theorem alloc_cell0 (w : World) (v : Value) (t : TypeId) : (w.alloc (.cells #[v] t)).cell? ⟨w.heap.size, 0, none⟩ = some v := cell_one_new w v t 0 v rfl
theorem ranges_drewN {w : World} {b r n cnt : Nat} {D : DataW Unit} {left : Lit → Bool} (h : w.ranges Try.prog 9 RI b r n D left cnt) (q : Nat) : (w.drewN q).ranges Try.prog 9 RI b r n D left cnt := h
theorem below_drewN {base : Nat} {w w2 : World} (h : Below base w w2) (q : Nat) : Below base w (w2.drewN q) := ⟨h.os, h.tape, h.output, h.size, h.block⟩
theorem row_drewN {w : World} {base k : Nat} {v : Value} {xs : List Value} (h : w.ownsRow base 9 1 v k xs) (q : Nat) : (w.drewN q).ownsRow base 9 1 v k xs := h

set_option maxRecDepth 100000 in
set_option maxHeartbeats 4000000 in
theorem waiting_any (pb po b n : Nat) (now : Int) (D0 : DataW Unit) (w : World) (hc : w.cell? ⟨pb, po + 1, none⟩ = some (.map (some b))) (hn : w.cell? ⟨pb, po + 2, none⟩ = some (.int .i64 now)) (hown : w.ownsMap Try.prog 9 RI b n D0) (hmax : Maps.size D0 ≤ 1000000) :
    Calls Try.prog 34 #[.pointer (some ⟨pb, po, none⟩)] w fun e w' => ∃ (v : Value) (ss : List (List UInt8)), e = .returned v ∧ ss.Perm ((strKeys D0).filter (endD D0 now)) ∧ ss.Pairwise (fun x y => ¬ befP (numD D0) y x) ∧
      w'.ownsRow (w.heap.size + 1) 9 1 v ss.length (ss.map encStr) ∧ (v = .slice none 0 0 ↔ ss = []) ∧ Below w.heap.size w w' := by
  obtain ⟨i0, hi, hz0, hz1, hz2⟩ := info_parts info9
  have hbl := hown.lt
  have hpl := World.block_lt_of_cell? w _ hc
  have hne := World.new_ne w _ hc
  go_enter Try.func34, Try.ntmps34
  go_wp2_with (first
    | (at_range; refine wpList_range_own _ rfl _ 27 rfl 9 3 law9 Try.underlying27 _ b n _ rfl (hown.alloc _) ?_; intro w0 hrg0 hg0 hs0)
    | go_in)
  try go_frame
  go_loopw [3] (fun v wr => ∃ (left : Lit → Bool) (cnt : Nat) (ss : List (List UInt8)), wr.ranges Try.prog 9 RI b (w.heap.size + 1) n D0 left cnt ∧ ss.length + cnt ≤ Maps.size D0 ∧
      wr.ownsRow (w.heap.size + 1) 9 1 v (ss.filter (endD D0 now)).length ((ss.filter (endD D0 now)).map encStr) ∧ (v = .slice none 0 0 ↔ ss.filter (endD D0 now) = []) ∧ Collected D0 left ss ∧ wr.cell? ⟨w.heap.size, 0, none⟩ = some (.pointer (some ⟨pb, po, none⟩)) ∧ (∀ s ∈ ss, s.length ≤ maxLen) ∧ Below w.heap.size w wr)
    (fun _ wr => wr.rangeLeft b (w.heap.size + 1))
  case atStart =>
    refine ⟨_, _, [], by simpa using hrg0, by simp, ⟨by simp, .inl ⟨rfl, rfl⟩⟩, by simp, Collected.start D0, cell_block (alloc_cell0 _ _ _) (hg0.block _ (by simp) (by simp)), by simp, ((Below.refl _ _).alloc (Nat.le_refl _) _).grown hg0 (by simp) (fun j hj => by cases hj)⟩
  case round =>
    obtain ⟨left, cnt, ss, hrg, hcs, hrow, hnn, hC, hbox, hlen, hnx⟩ := hrel
    have hlt := hrg.lt
    have k1 : wr.cell? ⟨pb, po + 1, none⟩ = some (.map (some b)) := cell_block hc (hnx.block _ hpl)
    have k2 : wr.cell? ⟨pb, po + 2, none⟩ = some (.int .i64 now) := cell_block hn (hnx.block _ hpl)
    go_wp2_with (first
      | (at_next; refine wpList_next_ranges _ rfl _ rfl 9 law9 RI encStr (.int .i64) (fun key kl hk => by obtain ⟨x, hx, _⟩ := Maps.keyOf_str Try.underlying9 hk; exact ⟨x, hx⟩) (fun v y hv => by obtain ⟨c, rfl, _⟩ := plainElem_int_inv Try.underlying3 hv; exact ⟨c, rfl⟩) b (w.heap.size + 1) n _ _ _ rfl hrg ?_ ?_)
      | go_in)
    · intro hc0 hl0
      have hperm := (hC.perm hrg.owns law9 Try.underlying9 hl0).filter (endD D0 now)
      obtain ⟨fs, hfs⟩ : ∃ fs, ss.filter (endD D0 now) = fs := ⟨_, rfl⟩
      have hfl : ∀ s ∈ fs, s.length ≤ maxLen := fun s hs => by rw [← hfs] at hs; exact hlen s (List.mem_filter.1 hs).1
      have hfn : fs.length ≤ 1000000 := by rw [← hfs]; have := List.length_filter_le (endD D0 now) ss; omega
      rw [hfs] at hrow hnn hperm
      by_cases hss : fs = []
      · have hv0 := hnn.2 hss
        subst hv0
        subst hss
        have hcs := fun W => Proofs.AnyF.slices_SortFunc_none (P := Try.prog) (ρ := sortLays_ren) { sortLays with } none 0 (.func (.func 47) #[] #[.pointer (some ⟨w.heap.size, 0, none⟩)]) W
        have hcs : ∀ W, Calls Try.prog 46 #[.slice none 0 0, .func (.func 47) #[] #[.pointer (some ⟨w.heap.size, 0, none⟩)]] W fun e w' => e = .returned (.tuple #[]) ∧ w' = W := hcs
        go_wp2_with (go_at_call 46; refine (hcs _).mono ?_; rintro e w' ⟨rfl, rfl⟩)
        go_ret
        exact ⟨_, [], rfl, hperm, List.Pairwise.nil, ⟨by simp, .inl ⟨rfl, rfl⟩⟩, by simp, hnx⟩
      · rcases hrow.2 with ⟨hnil, _⟩ | ⟨g, cap, cur, rfl, hbase, hb, h1, h2, h3, h4⟩
        · exact absurd (hnn.1 hnil) hss
        have hgl : g < wr.heap.size := (Array.getElem?_eq_some_iff.1 hb).1
        have hcs := sort_c (cap := cap) hbox k1 hrg.owns hfl (by omega) hb (by simpa using h4) (by omega) (by omega) (by omega)
        go_wp2_with (go_at_call 46; refine hcs.mono ?_; rintro e w' ⟨rfl, ts, nn, os, hpt, hst, rfl⟩)
        go_ret
        have hl : ts.length = fs.length := hpt.length_eq
        have hro := ownsRow_sorted (n := nn) (os := os) hl hbase hb h1 h2 h3
        exact ⟨_, ts, rfl, hpt.trans hperm, hst, by rw [hl]; exact hro, ⟨fun h => (by cases h), fun h => absurd (by rw [h] at hl; exact List.length_eq_zero_iff.1 hl.symm) hss⟩, hnx.grown (grownBy_sorted _) hnx.size (fun j hj => by cases hj; omega)⟩
    · intro x c kl yd yp w2 cnt2 hkey hlk hv hat hrg2 hlt2 hg2 hs2 hen
      obtain ⟨x', ex, rfl, hxl⟩ := Maps.keyOf_str Try.underlying9 hkey
      obtain rfl : x = x' := encStr_inj ex
      have hrow2 := hrow.kept hg2 (Or.inr (row_ne_iter hrow hrg).symm)
      have hbox2 : w2.cell? ⟨w.heap.size, 0, none⟩ = some (.pointer (some ⟨pb, po, none⟩)) := cell_block hbox (hg2.block _ (by omega) (by simp))
      have hnx2 : Below w.heap.size w w2 := hnx.grown hg2 hnx.size (fun j hj => by cases hj; omega)
      have j1 : w2.cell? ⟨pb, po + 1, none⟩ = some (.map (some b)) := cell_block hc (hnx2.block _ hpl)
      have j2 : w2.cell? ⟨pb, po + 2, none⟩ = some (.int .i64 now) := cell_block hn (hnx2.block _ hpl)
      have hcall := ended_c j1 j2 hrg2.owns x hxl
      have hs3 := hg2.size
      clear hs2
      cases hend : endD D0 now x with
      | false =>
        rw [hend] at hcall
        go_wp2_with (go_at_call 40; refine hcall.mono ?_; rintro e w' ⟨rfl, q, rfl⟩)
        go_roundw
        case rel =>
          have hf : (ss ++ [x]).filter (endD D0 now) = ss.filter (endD D0 now) := by rw [List.filter_append]; simp [hend]
          refine ⟨_, cnt2, ss ++ [x], ranges_drewN hrg2 q, by simp; omega, by rw [hf]; exact row_drewN hrow2 q, by rw [hf]; exact hnn, hC.step hlk hat, hbox2, fun s hs => ?_, below_drewN hnx2 q⟩
          rcases List.mem_append.1 hs with hs | hs
          · exact hlen s hs
          · rw [List.mem_singleton.1 hs]; exact hxl
        case measure =>
          have e1 := hrg.left_eq
          have e2 : (w2.drewN q).rangeLeft b (w.heap.size + 1) = cnt2 := hrg2.left_eq
          rw [e1, e2]
          exact hlt2
      | true =>
        rw [hend] at hcall
        have hf : (ss ++ [x]).filter (endD D0 now) = ss.filter (endD D0 now) ++ [x] := by rw [List.filter_append]; simp [hend]
        have hfn : (ss.filter (endD D0 now)).length ≤ 1000000 := by have := List.length_filter_le (endD D0 now) ss; omega
        go_wp2_with (first
          | (go_at_call 40; refine hcall.mono ?_; rintro e w' ⟨rfl, q, rfl⟩)
          | (at_builtin; refine wpList_append_own _ rfl _ _ 35 rfl (w.heap.size + 1) 9 i0 (.string ⟨#[]⟩) 1 16 Try.underlying35 hi hz0 hz1 hz2 rfl (by decide) _ _ _ rfl ((row_drewN hrow2 q).alloc _) ⟨w2.heap.size, 0, none⟩ 1 1 [encStr x] rfl rfl (cell_one_new _ _ _) (by simp [Value.oneCell', encStr]) (by unfold maxLen at *; omega) (by omega) (by have := hnx2.size; simp; omega) ?_; intro v' w3 hown' hg3 hnil3)
          | go_in)
        have hs4 := hnx2.size
        have hrg3 := ((ranges_drewN hrg2 q).alloc _).kept hg3 (row_ne_low hrow2 (by omega)) (row_ne_iter hrow2 hrg2)
        have hbox3 : w3.cell? ⟨w.heap.size, 0, none⟩ = some (.pointer (some ⟨pb, po, none⟩)) := cell_block (cell_block hbox2 ((World.grownBy_alloc (w2.drewN q) _ none).block _ (by show w.heap.size < w2.heap.size; omega) (by simp))) (hg3.block _ (by simp; omega) (row_ne_low hrow2 (by omega)))
        go_roundw
        case rel =>
          refine ⟨_, cnt2, ss ++ [x], hrg3, by simp; omega, by rw [hf]; simpa using hown', by rw [hf]; exact ⟨fun hv' => (by have := (hnil3.1 hv').2; omega), fun h => (by simp at h)⟩, hC.step hlk hat, hbox3, fun s hs => ?_, ?_⟩
          · rcases List.mem_append.1 hs with hs | hs
            · exact hlen s hs
            · rw [List.mem_singleton.1 hs]; exact hxl
          · exact ((below_drewN hnx2 q).alloc hs4 _).grown hg3 (by simp; omega) (fun j hj => by have := (hrow2.lt j hj).1; omega)
        case measure =>
          rw [hrg3.left_eq, hrg.left_eq]
          exact hlt2

end Go.Proofs.Ythjjkinpbpealaa

/-
  Chapter 45: waiting at no map; Next, walked; Copy of nil.
  Conditions: none. By an AI agent.
-/
set_option linter.unusedSimpArgs false
set_option linter.unusedVariables false
namespace Go.Proofs.Ythjjkinpbpealaa
open Go Go.RowKit Go.Maps Go.Sort

set_option maxRecDepth 100000 in
set_option maxHeartbeats 1000000 in
theorem waiting_nilmap (pb po : Nat) (w : World) (hc : w.cell? ⟨pb, po + 1, none⟩ = some (.map none)) : Calls Try.prog 34 #[.pointer (some ⟨pb, po, none⟩)] w fun e w' => e = .returned (.slice none 0 0) ∧ Below w.heap.size w w' := by
  have hpl := World.block_lt_of_cell? w _ hc
  have hne := World.new_ne w _ hc
  have hk : (w.alloc (.cells #[.pointer (some ⟨pb, po, none⟩)] 23)).cell? ⟨pb, po + 1, none⟩ = some (.map none) := cell_block hc ((World.grownBy_alloc w _ none).block _ hpl (by simp))
  have hrg := run_range_nilMap (P := Try.prog) (w.alloc (.cells #[.pointer (some ⟨pb, po, none⟩)] 23)) 27 9 3 Try.underlying27
  have hnx : ∀ ty, (Instr.next (.pointer (some ⟨(w.alloc (.cells #[.pointer (some ⟨pb, po, none⟩)] 23)).heap.size, 0, none⟩)) false ty).run Try.prog ((w.alloc (.cells #[.pointer (some ⟨pb, po, none⟩)] 23)).alloc (.mapIter none 0 #[] 0)) = _ := fun ty => run_next_nilMap _ ty 0 0 #[]
  have hcs := fun W => Proofs.AnyF.slices_SortFunc_none (P := Try.prog) (ρ := sortLays_ren) { sortLays with } none 0 (.func (.func 47) #[] #[.pointer (some ⟨w.heap.size, 0, none⟩)]) W
  have hcs : ∀ W, Calls Try.prog 46 #[.slice none 0 0, .func (.func 47) #[] #[.pointer (some ⟨w.heap.size, 0, none⟩)]] W fun e w' => e = .returned (.tuple #[]) ∧ w' = W := hcs
  simp only [World.size_alloc] at hnx hrg
  go_enter Try.func34, Try.ntmps34
  go_wp2
  refine wp_loop_rounds 1 ?_
  rw [rounds_succ]
  go_wp2_with (go_at_call 46; refine (hcs _).mono ?_; rintro e w' ⟨rfl, rfl⟩)
  go_ret
  exact ⟨rfl, ((Below.refl _ _).alloc (Nat.le_refl _) _).alloc (by simp) _⟩

set_option maxRecDepth 100000 in
theorem next_nilptr (w : World) : Calls Try.prog 28 #[.pointer none] w fun e w' => e = .returned (.int .i64 0) ∧ w' = w := by
  go_enter Try.func28, Try.ntmps28
  go_wp2
  go_ret
  exact ⟨rfl, rfl⟩
set_option maxRecDepth 100000 in
theorem copy_nilptr (w : World) : Calls Try.prog 26 #[.pointer none] w fun e w' => e = .returned (.pointer none) ∧ w' = w := by
  go_enter Try.func26, Try.ntmps26
  go_wp2
  go_ret
  exact ⟨rfl, rfl⟩
set_option maxRecDepth 100000 in
set_option maxHeartbeats 1000000 in
theorem next_nilmap (pb po : Nat) (w : World) (hc : w.cell? ⟨pb, po + 1, none⟩ = some (.map none)) : Calls Try.prog 28 #[.pointer (some ⟨pb, po, none⟩)] w fun e w' => e = .returned (.int .i64 0) ∧ Below w.heap.size w w' := by
  have hrg := run_range_nilMap (P := Try.prog) w 27 9 3 Try.underlying27
  have hnx : ∀ ty, (Instr.next (.pointer (some ⟨w.heap.size, 0, none⟩)) false ty).run Try.prog (w.alloc (.mapIter none 0 #[] 0)) = _ := fun ty => run_next_nilMap _ ty 0 0 #[]
  go_enter Try.func28, Try.ntmps28
  go_wp2
  refine wp_loop_rounds 1 ?_
  rw [rounds_succ]
  go_wp2
  go_ret
  exact ⟨rfl, (Below.refl _ _).alloc (Nat.le_refl _) _⟩

/-- The least end of a key that is alive. -/
def IsMin (f : List UInt8 → Int) (e : List UInt8 → Bool) (ss : List (List UInt8)) (n : Int) : Prop := (n = 0 ∧ ∀ s ∈ ss, e s = true) ∨ (∃ s ∈ ss, e s = false ∧ n = f s) ∧ ∀ s ∈ ss, e s = false → n ≤ f s

set_option maxRecDepth 100000 in
set_option maxHeartbeats 4000000 in
theorem next_any (pb po b n : Nat) (now : Int) (D0 : DataW Unit) (w : World) (hc : w.cell? ⟨pb, po + 1, none⟩ = some (.map (some b))) (hn : w.cell? ⟨pb, po + 2, none⟩ = some (.int .i64 now)) (hown : w.ownsMap Try.prog 9 RI b n D0) (hpos : ∀ x, has D0 (.string x) = true → 0 < numD D0 x) :
    Calls Try.prog 28 #[.pointer (some ⟨pb, po, none⟩)] w fun e w' => ∃ m : Int, e = .returned (.int .i64 m) ∧ IsMin (numD D0) (endD D0 now) (strKeys D0) m ∧ Below w.heap.size w w' := by
  have hbl := hown.lt
  have hpl := World.block_lt_of_cell? w _ hc
  go_enter Try.func28, Try.ntmps28
  go_wp2_with (first
    | (at_range; refine wpList_range_own _ rfl _ 27 rfl 9 3 law9 Try.underlying27 _ b n _ rfl hown ?_; intro w0 hrg0 hg0 hs0)
    | go_in)
  try go_frame
  go_loopw [3] (fun v wr => ∃ (left : Lit → Bool) (cnt : Nat) (ss : List (List UInt8)) (m : Int), v = .int .i64 m ∧ wr.ranges Try.prog 9 RI b w.heap.size n D0 left cnt ∧
      Collected D0 left ss ∧ IsMin (numD D0) (endD D0 now) ss m ∧ (∀ s ∈ ss, has D0 (.string s) = true) ∧ Below w.heap.size w wr)
    (fun _ wr => wr.rangeLeft b w.heap.size)
  case atStart =>
    exact ⟨_, _, [], 0, rfl, hrg0, Collected.start D0, .inl ⟨rfl, by simp⟩, by simp, (Below.refl _ _).grown hg0 (Nat.le_refl _) (fun j hj => by cases hj)⟩
  case round =>
    obtain ⟨left, cnt, ss, m, rfl, hrg, hC, hM, hHas, hnx⟩ := hrel
    have hlt := hrg.lt
    go_wp2_with (first
      | (at_next; refine wpList_next_ranges _ rfl _ rfl 9 law9 RI encStr (.int .i64) (fun key kl hk => by obtain ⟨x, hx, _⟩ := Maps.keyOf_str Try.underlying9 hk; exact ⟨x, hx⟩) (fun v y hv => by obtain ⟨c, rfl, _⟩ := plainElem_int_inv Try.underlying3 hv; exact ⟨c, rfl⟩) b w.heap.size n _ _ _ rfl hrg ?_ ?_)
      | go_in)
    · intro hc0 hl0
      have hperm := hC.perm hrg.owns law9 Try.underlying9 hl0
      go_wp2
      go_ret
      refine ⟨m, rfl, ?_, hnx⟩
      rcases hM with ⟨h1, h2⟩ | ⟨⟨s, h1, h2⟩, h3⟩
      · exact .inl ⟨h1, fun s hs => h2 s (hperm.mem_iff.2 hs)⟩
      · exact .inr ⟨⟨s, hperm.mem_iff.1 h1, h2⟩, fun s hs => h3 s (hperm.mem_iff.2 hs)⟩
    · intro x c kl yd yp w2 cnt2 hkey hlk hv hat hrg2 hlt2 hg2 hs2 hen
      obtain ⟨x', ex, rfl, hxl⟩ := Maps.keyOf_str Try.underlying9 hkey
      obtain rfl : x = x' := encStr_inj ex
      have hnx2 : Below w.heap.size w w2 := hnx.grown hg2 hnx.size (fun j hj => by cases hj; omega)
      have j1 : w2.cell? ⟨pb, po + 1, none⟩ = some (.map (some b)) := cell_block hc (hnx2.block _ hpl)
      have j2 : w2.cell? ⟨pb, po + 2, none⟩ = some (.int .i64 now) := cell_block hn (hnx2.block _ hpl)
      have hcall := ended_c j1 j2 hrg2.owns x hxl
      have hhas : has D0 (.string x) = true := has_true_of_atKey hat
      have hcx : numD D0 x = c := by
        obtain ⟨c', ec, hy, _⟩ := plainElem_int_inv Try.underlying3 hv
        cases ec
        have := hat (.lit (.int .i64 0))
        unfold numD
        rw [this, show yd = _ from congrArg Prod.fst hy]
      have hp := hpos x hhas
      have hC2 := hC.step hlk hat
      have hH2 : ∀ s ∈ ss ++ [x], has D0 (.string s) = true := fun s hs => by
        rcases List.mem_append.1 hs with hs | hs
        · exact hHas s hs
        · rw [List.mem_singleton.1 hs]; exact hhas
      have hM0 : m = 0 → ∀ s ∈ ss, endD D0 now s = true := fun h0 s hs => by
        rcases hM with ⟨_, h2⟩ | ⟨⟨s', h1, _, h2⟩, h3⟩
        · exact h2 s hs
        · have := hpos s' (hHas s' h1); omega
      have hMn : m ≠ 0 → (∃ s ∈ ss, endD D0 now s = false ∧ m = numD D0 s) ∧ ∀ s ∈ ss, endD D0 now s = false → m ≤ numD D0 s := fun h0 => hM.resolve_left fun h => h0 h.1
      rw [hcx] at hp
      clear hs2
      have hms : ∀ q, (w2.drewN q).rangeLeft b w.heap.size < wr.rangeLeft b w.heap.size := fun q => by
        have e2 : (w2.drewN q).rangeLeft b w.heap.size = cnt2 := (ranges_drewN hrg2 q).left_eq
        rw [hrg.left_eq, e2]
        exact hlt2
      cases hend : endD D0 now x with
      | true =>
        rw [hend] at hcall
        go_wp2_with (go_at_call 40; refine hcall.mono ?_; rintro e w' ⟨rfl, q, rfl⟩)
        go_roundw
        case rel =>
          refine ⟨_, cnt2, ss ++ [x], m, rfl, ranges_drewN hrg2 q, hC2, ?_, hH2, below_drewN hnx2 q⟩
          rcases hM with ⟨h1, h2⟩ | ⟨⟨s, h1, h2⟩, h3⟩
          · exact .inl ⟨h1, fun s hs => by
              rcases List.mem_append.1 hs with hs | hs
              · exact h2 s hs
              · rw [List.mem_singleton.1 hs]; exact hend⟩
          · exact .inr ⟨⟨s, by simp [h1], h2⟩, fun s hs he => by
              rcases List.mem_append.1 hs with hs | hs
              · exact h3 s hs he
              · rw [List.mem_singleton.1 hs, hend] at he; cases he⟩
        case measure => exact hms q
      | false =>
        rw [hend] at hcall
        by_cases c1 : m = 0
        · subst c1
          go_wp2_with (go_at_call 40; refine hcall.mono ?_; rintro e w' ⟨rfl, q, rfl⟩)
          go_roundw
          case rel =>
            refine ⟨_, cnt2, ss ++ [x], c, rfl, ranges_drewN hrg2 q, hC2, .inr ⟨⟨x, by simp, hend, hcx.symm⟩, fun s hs he => ?_⟩, hH2, below_drewN hnx2 q⟩
            rcases List.mem_append.1 hs with hs | hs
            · rw [hM0 (by first | rfl | trivial) s hs] at he; cases he
            · rw [List.mem_singleton.1 hs, hcx]; exact Int.le_refl _
          case measure => exact hms q
        · by_cases c2 : c < m
          · go_wp2_with (go_at_call 40; refine hcall.mono ?_; rintro e w' ⟨rfl, q, rfl⟩)
            go_roundw
            case rel =>
              obtain ⟨⟨s0, m1, m2, m3⟩, m4⟩ := hMn c1
              refine ⟨_, cnt2, ss ++ [x], c, rfl, ranges_drewN hrg2 q, hC2, .inr ⟨⟨x, by simp, hend, hcx.symm⟩, fun s hs he => ?_⟩, hH2, below_drewN hnx2 q⟩
              rcases List.mem_append.1 hs with hs | hs
              · have := m4 s hs he; omega
              · rw [List.mem_singleton.1 hs, hcx]; exact Int.le_refl _
            case measure => exact hms q
          · go_wp2_with (go_at_call 40; refine hcall.mono ?_; rintro e w' ⟨rfl, q, rfl⟩)
            · exfalso
              rename_i hx
              simp at hx
              omega
            go_roundw
            case rel =>
              obtain ⟨⟨s0, m1, m2, m3⟩, m4⟩ := hMn c1
              refine ⟨_, cnt2, ss ++ [x], m, rfl, ranges_drewN hrg2 q, hC2, .inr ⟨⟨s0, by simp [m1], m2, m3⟩, fun s hs he => ?_⟩, hH2, below_drewN hnx2 q⟩
              rcases List.mem_append.1 hs with hs | hs
              · exact m4 s hs he
              · rw [List.mem_singleton.1 hs, hcx]; omega
            case measure => exact hms q

end Go.Proofs.Ythjjkinpbpealaa

/-
  Chapter 45: Copy of a store, walked; what its callees do is a hypothesis.
  Conditions: none. By an AI agent.
-/
set_option linter.unusedSimpArgs false
set_option linter.unusedVariables false
namespace Go.Proofs.Ythjjkinpbpealaa
open Go Go.RowKit Go.Maps Go.Sort

def stObj (sv : Value) (now : Int) : Obj := .cells #[sv, .map none, .int .i64 now] 29
theorem ownsMap_of {w w' : World} {b n : Nat} {D : DataW Unit} (h : w.ownsMap Try.prog 9 RI b n D) (e : w'.heap[b]? = w.heap[b]?) : w'.ownsMap Try.prog 9 RI b n D := by
  obtain ⟨es, clock, h1, h2⟩ := h
  exact ⟨es, clock, e.trans h1, h2⟩
theorem ranges_of {w w' : World} {b r n cnt : Nat} {D : DataW Unit} {left : Lit → Bool} (h : w.ranges Try.prog 9 RI b r n D left cnt) (e1 : w'.heap[b]? = w.heap[b]?) (e2 : w'.heap[r]? = w.heap[r]?) : w'.ranges Try.prog 9 RI b r n D left cnt := by
  obtain ⟨es, clock, since, seen, c0, hb, F, hs, hD, hr, rest⟩ := h
  exact ⟨es, clock, since, seen, c0, e1.trans hb, F, hs, hD, e2.trans hr, rest⟩

set_option maxRecDepth 100000 in
set_option maxHeartbeats 8000000 in
theorem copy_map (pb po b n : Nat) (now : Int) (D0 : DataW Unit) (w : World) (Q : Nat → Value → World → Prop) (Inv : Nat → List (List UInt8) → World → Prop)
    (hc : w.cell? ⟨pb, po + 1, none⟩ = some (.map (some b))) (hn : w.cell? ⟨pb, po + 2, none⟩ = some (.int .i64 now)) (hown : w.ownsMap Try.prog 9 RI b n D0)
    (hMC : ∀ q, Calls Try.prog 43 #[.pointer (some ⟨pb, po, none⟩)] (w.drewN q) fun e w' => ∃ g go sv, e = .returned (.pointer (some ⟨g, go, none⟩)) ∧ w'.cell? ⟨g, go, none⟩ = some sv ∧ Below w.heap.size w w' ∧ Q g sv w')
    (h0 : ∀ g sv w1 w2, Q g sv w1 → Below w.heap.size w w1 → (w1.alloc (stObj sv now)).grownBy w2 none → w1.heap.size + 2 ≤ w2.heap.size → Inv w1.heap.size [] w2)
    (hstep : ∀ o ss wr w2, Inv o ss wr → wr.grownBy w2 (some (o + 1)) → Inv o ss w2)
    (hset : ∀ o ss (x : List UInt8) (c : Int) w2, Inv o ss w2 → x.length ≤ maxLen → has D0 (.string x) = true → numD D0 x = c → Calls Try.prog 33 #[.pointer (some ⟨o, 0, none⟩), encStr x, .int .i64 c] w2 fun e w3 => e = .returned (.tuple #[]) ∧ Inv o (ss ++ [x]) w3 ∧ w3.heap[b]? = w2.heap[b]? ∧ w3.heap[o + 1]? = w2.heap[o + 1]?) :
    Calls Try.prog 26 #[.pointer (some ⟨pb, po, none⟩)] w fun e w' => ∃ o ss, e = .returned (.pointer (some ⟨o, 0, none⟩)) ∧ ss.Perm (strKeys D0) ∧ Inv o ss w' := by
  have hpl := World.block_lt_of_cell? w _ hc
  have hbw := hown.lt
  go_enter Try.func26, Try.ntmps26
  go_wp2_with fail
  go_region_with (go_at_call 43; refine (hMC _).mono ?_; rintro e w' ⟨g, go, sv, rfl, hg, hbl, hq⟩; have hn' : w'.cell? ⟨pb, po + 2, none⟩ = some (.int .i64 now) := cell_block hn (hbl.block _ hpl); have hc' : w'.cell? ⟨pb, po + 1, none⟩ = some (.map (some b)) := cell_block hc (hbl.block _ hpl); have hown' : w'.ownsMap Try.prog 9 RI b n D0 := ownsMap_of hown (hbl.block _ hbw))
  all_goals
    have hplw : pb < w'.heap.size := World.block_lt_of_cell? w' _ hc'
    have hne := World.new_ne w' _ hc'
    have hownS := hown'.alloc (stObj sv now)
    unfold stObj at hownS
    go_wp2_with (first
      | (at_range; refine wpList_range_own _ rfl _ 27 rfl 9 3 law9 Try.underlying27 _ b n _ rfl hownS ?_; intro w0 hrg0 hg0 hs0)
      | go_in)
    try go_frame
    go_loopw [4] (fun _ wr => ∃ (left : Lit → Bool) (cnt : Nat) (ss : List (List UInt8)), wr.ranges Try.prog 9 RI b (w'.heap.size + 1) n D0 left cnt ∧
        Collected D0 left ss ∧ Inv w'.heap.size ss wr)
      (fun _ wr => wr.rangeLeft b (w'.heap.size + 1))
    case atStart =>
      exact ⟨_, _, [], by simpa using hrg0, Collected.start D0, h0 g sv w' w0 hq hbl hg0 (by simp at hs0; omega)⟩
    case round =>
      obtain ⟨left, cnt, ss, hrg, hC, hI⟩ := hrel
      have hlt := hrg.lt
      go_wp2_with (first
        | (at_next; refine wpList_next_ranges _ rfl _ rfl 9 law9 RI encStr (.int .i64) (fun key kl hk => by obtain ⟨x, hx, _⟩ := Maps.keyOf_str Try.underlying9 hk; exact ⟨x, hx⟩) (fun v y hv => by obtain ⟨c, rfl, _⟩ := plainElem_int_inv Try.underlying3 hv; exact ⟨c, rfl⟩) b (w'.heap.size + 1) n _ _ _ rfl hrg ?_ ?_)
        | go_in)
      · intro hc0 hl0
        have hperm := hC.perm hrg.owns law9 Try.underlying9 hl0
        go_wp2
        go_ret
        exact ⟨_, ss, rfl, hperm, hI⟩
      · intro x c kl yd yp w2 cnt2 hkey hlk hv hat hrg2 hlt2 hg2 hs2 hen
        obtain ⟨x', ex, rfl, hxl⟩ := Maps.keyOf_str Try.underlying9 hkey
        obtain rfl : x = x' := encStr_inj ex
        have hhas : has D0 (.string x) = true := has_true_of_atKey hat
        have hcx : numD D0 x = c := by
          obtain ⟨c', ec, hy, _⟩ := plainElem_int_inv Try.underlying3 hv
          cases ec
          have := hat (.lit (.int .i64 0))
          unfold numD
          rw [this, show yd = _ from congrArg Prod.fst hy]
        have hI2 := hstep _ _ _ _ hI hg2
        have hcall := hset _ _ x c w2 hI2 hxl hhas hcx
        clear hs2
        go_wp2_with (go_at_call 33; refine hcall.mono ?_; rintro e w3 ⟨rfl, hI3, hb3, ho3⟩)
        have hrg3 := ranges_of hrg2 hb3 ho3
        go_roundw
        case rel =>
          exact ⟨_, cnt2, ss ++ [x], hrg3, hC.step hlk hat, hI3⟩
        case measure =>
          rw [hrg3.left_eq, hrg.left_eq]
          exact hlt2

set_option maxRecDepth 100000 in
set_option maxHeartbeats 8000000 in
theorem copy_nomap (pb po : Nat) (now : Int) (w : World) (Q : Nat → Value → World → Prop)
    (hc : w.cell? ⟨pb, po + 1, none⟩ = some (.map none)) (hn : w.cell? ⟨pb, po + 2, none⟩ = some (.int .i64 now))
    (hMC : ∀ q, Calls Try.prog 43 #[.pointer (some ⟨pb, po, none⟩)] (w.drewN q) fun e w' => ∃ g go sv, e = .returned (.pointer (some ⟨g, go, none⟩)) ∧ w'.cell? ⟨g, go, none⟩ = some sv ∧ Below w.heap.size w w' ∧ Q g sv w') :
    Calls Try.prog 26 #[.pointer (some ⟨pb, po, none⟩)] w fun e w' => ∃ g sv w1, Q g sv w1 ∧ Below w.heap.size w w1 ∧ e = .returned (.pointer (some ⟨w1.heap.size, 0, none⟩)) ∧ (w1.alloc (stObj sv now)).grownBy w' none := by
  have hpl := World.block_lt_of_cell? w _ hc
  have hrg := fun W => run_range_nilMap (P := Try.prog) W 27 9 3 Try.underlying27
  have hnx : ∀ (W : World) ty, (Instr.next (.pointer (some ⟨W.heap.size, 0, none⟩)) false ty).run Try.prog (W.alloc (.mapIter none 0 #[] 0)) = _ := fun W ty => run_next_nilMap _ ty 0 0 #[]
  go_enter Try.func26, Try.ntmps26
  go_wp2_with fail
  go_region_with (go_at_call 43; refine (hMC _).mono ?_; rintro e w' ⟨g, go, sv, rfl, hg, hbl, hq⟩; have hn' : w'.cell? ⟨pb, po + 2, none⟩ = some (.int .i64 now) := cell_block hn (hbl.block _ hpl); have hc' : w'.cell? ⟨pb, po + 1, none⟩ = some (.map none) := cell_block hc (hbl.block _ hpl))
  all_goals
    have hplw : pb < w'.heap.size := World.block_lt_of_cell? w' _ hc'
    have hne := World.new_ne w' _ hc'
    have hrg1 := hrg (w'.alloc (.cells #[sv, .map none, .int .i64 now] 29))
    have hnx1 := hnx (w'.alloc (.cells #[sv, .map none, .int .i64 now] 29))
    have e1 : (w'.alloc (.cells #[sv, .map none, .int .i64 now] 29)).heap.size = w'.heap.size + 1 := by simp
    rw [e1] at hrg1 hnx1
    clear hrg hnx
    go_wp2
    refine wp_loop_rounds 1 ?_
    rw [rounds_succ]
    go_wp2
    go_ret
    exact ⟨g, sv, w', hq, hbl, rfl, World.grownBy_alloc (w'.alloc (stObj sv now)) _ none⟩

end Go.Proofs.Ythjjkinpbpealaa
