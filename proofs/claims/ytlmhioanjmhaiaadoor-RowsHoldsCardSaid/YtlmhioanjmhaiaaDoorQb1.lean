/-
  6 texts in one (merge.py): Eng29 Shelf Hints Known Names Sh.
  Conditions: none. By an AI agent.
-/
import Derived.Test.YtlmhioanjmhaiaaDoorQa3
import Derived.Shelf.Strings.Replace
import Derived.Shelf.Strings.Search3
import Derived.Test.YtlmhioanjmhaiaaDoorProg
import Derived.Test.YtlmhioanjmhaiaaDoorChecked
import Derived.KernelRfl

/-
  The engine, part 29: strings.Index and strings.ReplaceAll taken as a whole, by the kit's contracts (a library variable, internal/bytealg.MaxLen, is asked for; 'globs').
  Conditions: none. By an AI agent.
-/
namespace Go.Proofs.YtlmhioanjmhaiaaDoor.Eng
open Go

def indexP : List Value → AHeap → Res := fun xs H => match xs with
  | [.string s, .string t] => if s.size < 4294967281 then some (.int .i64 (Lib.index s.data.toList t.data.toList), H) else none
  | _ => none

def replP : List Value → AHeap → Res := fun xs H => match xs with
  | [.string s, .string o, .string t] => if s.size < 4294967281 ∧ 1 ≤ o.size ∧ t.size ≤ 100 then some (.string ⟨(Lib.replaceAll s.data.toList o.data.toList t.data.toList).toArray⟩, H) else none
  | _ => none

theorem rvs_str {ι : Emb} {s : ByteArray} {xs : List Value} {args' : List Value} (h : RVs ι (.string s :: xs) args') : ∃ r, args' = .string s :: r ∧ RVs ι xs r := by
  cases h with
  | cons a b => cases a; exact ⟨_, rfl, b⟩

theorem rvs_nil {ι : Emb} {args' : List Value} (h : RVs ι [] args') : args' = [] := by cases h; rfl

theorem index_prim {P : Program} {f : FuncId} (g : Nat) (hgl : g ∈ globs)
    (hc : ∀ (s sub : ByteArray) (m : Int) (w : World), s.size < 4294967281 → w.cell? ⟨g, 0, none⟩ = some (.int .i64 m) →
      Calls P f #[.string s, .string sub] w fun e w' => e = .returned (.int .i64 (Lib.index s.data.toList sub.data.toList)) ∧ w' = w) :
    (CallAd fun _ args H => indexP args H) ∧ CallOK P fun h args H => if h = f then indexP args H else none := by
  constructor
  · intro _ args H v H' h hl _
    replace h : indexP args H = some (v, H') := h
    unfold indexP at h
    split at h
    · split at h
      · cases h; exact OkV.still hl (.int _ _)
      · cases h
    · cases h
  · intro k args H v H' h2 hl had B ι w args' r ha
    by_cases hg : k = f
    · subst hg
      simp only [if_true] at h2
      unfold indexP at h2
      split at h2
      · split at h2
        · rename_i s t hs
          cases h2
          obtain ⟨a', ea, hA⟩ := rvs_str ha; subst ea
          obtain ⟨a2, ea, hb⟩ := rvs_str hA; subst ea
          cases rvs_nil hb
          obtain ⟨_, m, hm⟩ := r.glob g hgl
          refine Calls.mono (hc s t m w hs hm) ?_
          rintro e w' ⟨rfl, rfl⟩
          exact ⟨_, ι, rfl, .int _ _, r, Stp.refl _ _ _ r.dom⟩
        · cases h2
      · cases h2
    · simp [hg] at h2

theorem repl_prim {P : Program} {f : FuncId} (g : Nat) (hgl : g ∈ globs)
    (hc : ∀ (s old new : ByteArray) (m : Int) (w : World), s.size < 4294967281 → w.cell? ⟨g, 0, none⟩ = some (.int .i64 m) → 1 ≤ old.size → s.size + Lib.countB s old * new.size ≤ 140737488355328 →
      Calls P f #[.string s, .string old, .string new] w fun e w' => e = .returned (.string ⟨(Lib.replaceAll s.data.toList old.data.toList new.data.toList).toArray⟩) ∧ RowKit.Below w.heap.size w w') :
    (CallAd fun _ args H => replP args H) ∧ CallOK P fun h args H => if h = f then replP args H else none := by
  constructor
  · intro _ args H v H' h hl _
    replace h : replP args H = some (v, H') := h
    unfold replP at h
    split at h
    · split at h
      · cases h; exact OkV.still hl (.str _)
      · cases h
    · cases h
  · intro k args H v H' h2 hl had B ι w args' r ha
    by_cases hg : k = f
    · subst hg
      simp only [if_true] at h2
      unfold replP at h2
      split at h2
      · split at h2
        · rename_i s o t hs
          cases h2
          obtain ⟨a', ea, hA⟩ := rvs_str ha; subst ea
          obtain ⟨a2, ea, hb⟩ := rvs_str hA; subst ea
          obtain ⟨a3, ea, hc3⟩ := rvs_str hb; subst ea
          cases rvs_nil hc3
          obtain ⟨_, m, hm⟩ := r.glob g hgl
          have hcnt : s.size + Lib.countB s o * t.size ≤ 140737488355328 := by
            have h1 : Lib.countB s o ≤ s.size + 1 := by
              have := Lib.count_le s.data.toList o.data.toList
              simpa [Lib.countB] using this
            have h2 : Lib.countB s o * t.size ≤ (s.size + 1) * 100 := Nat.mul_le_mul h1 hs.2.2
            omega
          refine Calls.mono (hc s o t m w hs.1 hm hs.2.1 hcnt) ?_
          rintro e w' ⟨rfl, hb⟩
          obtain ⟨h3, h4⟩ := below_rel r hb
          exact ⟨_, ι, rfl, .str _, h3, h4⟩
        · cases h2
      · cases h2
    · simp [hg] at h2

end Go.Proofs.YtlmhioanjmhaiaaDoor.Eng

/-
  The kit's contracts of strings.Index and strings.ReplaceAll, laid at this program (printed by the kit's tools lay-shelf and lay-plain, cut down by us).
  Conditions: none. By an AI agent.
-/
namespace Go.Proofs
open Go.Shelf
def Tryd.lays143_ren : Go.Shelf.Ren := ⟨fun | 143 => 56 | 219 => 59 | 217 => 62 | 225 => 63 | 224 => 64 | 267 => 65 | 266 => 71 | 314 => 72 | n => n, fun | 9 => 9 | 3 => 3 | 4 => 4 | 5 => 5 | 46 => 86 | 146 => 103 | 51 => 102 | n => n, fun | 1 => 0 | n => n⟩
theorem Tryd.lays143 : Go.Proofs.Lays.n143 Tryd.prog Tryd.lays143_ren := {
  mixed := by kernel_rfl
  f143 := Tryd.func56.trans (congrArg some (by kernel_rfl))
  f217 := Tryd.func62.trans (congrArg some (by kernel_rfl))
  f219 := Tryd.func59.trans (congrArg some (by kernel_rfl))
  f224 := Tryd.func64.trans (congrArg some (by kernel_rfl))
  f225 := Tryd.func63.trans (congrArg some (by kernel_rfl))
  f266 := Tryd.func71.trans (congrArg some (by kernel_rfl))
  f267 := Tryd.func65.trans (congrArg some (by kernel_rfl))
  f314 := Tryd.func72.trans (congrArg some (by kernel_rfl))
  t3 := Tryd.underlying3
  a3 := Tryd.isAgg3
  z3 := Tryd.sizeOf3
  v3 := Tryd.zeroValue3
  t4 := Tryd.underlying4
  a4 := Tryd.isAgg4
  z4 := Tryd.sizeOf4
  v4 := Tryd.zeroValue4
  t5 := Tryd.underlying5
  a5 := Tryd.isAgg5
  z5 := Tryd.sizeOf5
  v5 := Tryd.zeroValue5
  t9 := Tryd.underlying9
  a9 := Tryd.isAgg9
  z9 := Tryd.sizeOf9
  v9 := Tryd.zeroValue9
  t46 := Tryd.underlying86
  a46 := Tryd.isAgg86
  z46 := Tryd.sizeOf86
  v46 := Tryd.zeroValue86
  t51 := Tryd.underlying102
  a51 := Tryd.isAgg102
  z51 := Tryd.sizeOf102
  v51 := Tryd.zeroValue102
  t146 := Tryd.underlying103
  a146 := Tryd.isAgg103
  z146 := Tryd.sizeOf103
  v146 := Tryd.zeroValue103
  g1 := by kernel_rfl }
open Go.RowKit Go.Lib in
/-- strings.Index: "Index returns the index of the first instance of substr in s, or -1 if substr is not present in s.": AT A substr OF ONE BYTE c: IT RETURNS 'Lib.indexByte s c'; the world is as it was. (LAID: no walk: one application.) -/
theorem Tryd.strings_Index (s sub : ByteArray) (m : Int) (w : World) (hs : s.size < 4294967281) (hm : w.cell? ⟨0, 0, none⟩ = some (.int .i64 m)) :
    Calls Tryd.prog 56 #[.string s, .string sub] w fun e w' => e = .returned (.int .i64 (Lib.index s.data.toList sub.data.toList)) ∧ w' = w := Any.strings_Index Tryd.lays143 s sub m w hs hm
def Tryd.lays155_ren : Go.Shelf.Ren := ⟨fun | 155 => 57 | 154 => 60 | 138 => 66 | 165 => 67 | 143 => 56 | 166 => 68 | 197 => 69 | 169 => 70 | 195 => 73 | 218 => 74 | 240 => 75 | 241 => 76 | 219 => 59 | 260 => 77 | 276 => 78 | 277 => 79 | 217 => 62 | 225 => 63 | 224 => 64 | 267 => 65 | 266 => 71 | 314 => 72 | n => n, fun | 9 => 9 | 3 => 3 | 4 => 4 | 72 => 93 | 0 => 0 | 76 => 97 | 105 => 99 | 21 => 21 | 5 => 5 | 70 => 91 | 20 => 20 | 37 => 31 | 75 => 96 | 127 => 106 | 164 => 107 | 46 => 86 | 119 => 110 | 139 => 113 | 138 => 112 | 146 => 103 | 51 => 102 | 80 => 101 | n => n, fun | 1 => 0 | 3 => 1 | 4 => 2 | n => n⟩
theorem Tryd.lays155 : Go.Proofs.Lays.n155 Tryd.prog Tryd.lays155_ren := {
  mixed := by kernel_rfl
  f138 := Tryd.func66.trans (congrArg some (by kernel_rfl))
  f143 := Tryd.func56.trans (congrArg some (by kernel_rfl))
  f154 := Tryd.func60.trans (congrArg some (by kernel_rfl))
  f155 := Tryd.func57.trans (congrArg some (by kernel_rfl))
  f165 := Tryd.func67.trans (congrArg some (by kernel_rfl))
  f166 := Tryd.func68.trans (congrArg some (by kernel_rfl))
  f169 := Tryd.func70.trans (congrArg some (by kernel_rfl))
  f195 := Tryd.func73.trans (congrArg some (by kernel_rfl))
  f197 := Tryd.func69.trans (congrArg some (by kernel_rfl))
  f217 := Tryd.func62.trans (congrArg some (by kernel_rfl))
  f218 := Tryd.func74.trans (congrArg some (by kernel_rfl))
  f219 := Tryd.func59.trans (congrArg some (by kernel_rfl))
  f224 := Tryd.func64.trans (congrArg some (by kernel_rfl))
  f225 := Tryd.func63.trans (congrArg some (by kernel_rfl))
  f240 := Tryd.func75.trans (congrArg some (by kernel_rfl))
  f241 := Tryd.func76.trans (congrArg some (by kernel_rfl))
  f260 := Tryd.func77.trans (congrArg some (by kernel_rfl))
  f266 := Tryd.func71.trans (congrArg some (by kernel_rfl))
  f267 := Tryd.func65.trans (congrArg some (by kernel_rfl))
  f276 := Tryd.func78.trans (congrArg some (by kernel_rfl))
  f277 := Tryd.func79.trans (congrArg some (by kernel_rfl))
  f314 := Tryd.func72.trans (congrArg some (by kernel_rfl))
  t0 := Tryd.underlying0
  a0 := Tryd.isAgg0
  z0 := Tryd.sizeOf0
  v0 := Tryd.zeroValue0
  t3 := Tryd.underlying3
  a3 := Tryd.isAgg3
  z3 := Tryd.sizeOf3
  v3 := Tryd.zeroValue3
  t4 := Tryd.underlying4
  a4 := Tryd.isAgg4
  z4 := Tryd.sizeOf4
  v4 := Tryd.zeroValue4
  t5 := Tryd.underlying5
  a5 := Tryd.isAgg5
  z5 := Tryd.sizeOf5
  v5 := Tryd.zeroValue5
  t9 := Tryd.underlying9
  a9 := Tryd.isAgg9
  z9 := Tryd.sizeOf9
  v9 := Tryd.zeroValue9
  t20 := Tryd.underlying20
  a20 := Tryd.isAgg20
  z20 := Tryd.sizeOf20
  v20 := Tryd.zeroValue20
  t21 := Tryd.underlying21
  a21 := Tryd.isAgg21
  z21 := Tryd.sizeOf21
  v21 := Tryd.zeroValue21
  t37 := Tryd.underlying31
  a37 := Tryd.isAgg31
  z37 := Tryd.sizeOf31
  v37 := Tryd.zeroValue31
  t46 := Tryd.underlying86
  a46 := Tryd.isAgg86
  z46 := Tryd.sizeOf86
  v46 := Tryd.zeroValue86
  t51 := Tryd.underlying102
  a51 := Tryd.isAgg102
  z51 := Tryd.sizeOf102
  v51 := Tryd.zeroValue102
  t70 := Tryd.underlying91
  a70 := Tryd.isAgg91
  z70 := Tryd.sizeOf91
  v70 := Tryd.zeroValue91
  t72 := Tryd.underlying93
  a72 := Tryd.isAgg93
  z72 := Tryd.sizeOf93
  v72 := Tryd.zeroValue93
  t75 := Tryd.underlying96
  a75 := Tryd.isAgg96
  z75 := Tryd.sizeOf96
  v75 := Tryd.zeroValue96
  t76 := Tryd.underlying97
  a76 := Tryd.isAgg97
  z76 := Tryd.sizeOf97
  v76 := Tryd.zeroValue97
  t105 := Tryd.underlying99
  a105 := Tryd.isAgg99
  z105 := Tryd.sizeOf99
  v105 := Tryd.zeroValue99
  t119 := Tryd.underlying110
  a119 := Tryd.isAgg110
  z119 := Tryd.sizeOf110
  t127 := Tryd.underlying106
  a127 := Tryd.isAgg106
  z127 := Tryd.sizeOf106
  v127 := Tryd.zeroValue106
  t138 := Tryd.underlying112
  a138 := Tryd.isAgg112
  z138 := Tryd.sizeOf112
  v138 := Tryd.zeroValue112
  t139 := Tryd.underlying113
  a139 := Tryd.isAgg113
  z139 := Tryd.sizeOf113
  v139 := Tryd.zeroValue113
  t146 := Tryd.underlying103
  a146 := Tryd.isAgg103
  z146 := Tryd.sizeOf103
  v146 := Tryd.zeroValue103
  t164 := Tryd.underlying107
  a164 := Tryd.isAgg107
  z164 := Tryd.sizeOf107
  v164 := Tryd.zeroValue107
  g1 := by kernel_rfl
  g3 := by kernel_rfl
  g4 := by kernel_rfl }
theorem Tryd.Builder_Extra_155 : Builder.Extra Tryd.prog Tryd.lays155_ren := {
  sizeBuilder := by kernel_rfl
  liesBuilder := by kernel_rfl
  t5 := Tryd.underlying5
  a5 := Tryd.isAgg5
  z5 := Tryd.sizeOf5
  v5 := Tryd.zeroValue5
  infoByte := by kernel_rfl
  cellsByte := by kernel_rfl
  sizeByte := by kernel_rfl
  neB5 := by decide }
open Go.RowKit Go.Lib in
/-- strings.ReplaceAll: "ReplaceAll returns a copy of the string s with all non-overlapping instances of old replaced by new.": AT AN old THAT IS NOT EMPTY: 'Lib.replaceAll s old new'. (LAID: no walk: one application.) -/
theorem Tryd.strings_ReplaceAll (s old new : ByteArray) (m : Int) (w : World) (hs : s.size < 4294967281) (hm : w.cell? ⟨0, 0, none⟩ = some (.int .i64 m)) (h1 : 1 ≤ old.size) (hlen : s.size + Lib.countB s old * new.size ≤ 140737488355328) :
    Calls Tryd.prog 57 #[.string s, .string old, .string new] w fun e w' =>
      e = .returned (.string ⟨(Lib.replaceAll s.data.toList old.data.toList new.data.toList).toArray⟩) ∧ Below w.heap.size w w' := Any.strings_ReplaceAll Tryd.lays155 Tryd.Builder_Extra_155 s old new m w hs hm h1 hlen
end Go.Proofs

/-
  The hints: which temporaries are asked for behind each if, block, loop head, return of each function (a program of ours printed it).
  Conditions: none. By an AI agent.
-/
namespace Go.Proofs.YtlmhioanjmhaiaaDoor
open Go Eng

def hintList : List (List (List Nat)) := [
  [],
  [],
  [],
  [[1,2,3,4,5,6],[12],[1,2,3,4,5,6],[12],[2,3,6],[2,3,6],[2,3,6,14],[12],[12]],
  [[1,2],[4],[1,2],[4],[1,2,5],[4],[4]],
  [[1,2,3,4],[8],[1,2,3,4,9,10,12,13],[8],[1,2,3,4,9,12],[8],[1,2,3,4,9,12,15],[1,2,3,4,9,12,15,16],[1,2,3,4,9,12,16],[1,2,3,4,9,12,15,16],[1,2,3,4,9,12,15],[8],[1,2,3,4,9,12],[8],[1,2,12,17,18,19],[8],[8]],
  [[1,2],[4],[1,2],[4],[1,2],[4],[1,2,5],[1,2,5],[1,2,5],[4],[1,2,5],[1,2,5],[4],[1,2,5],[4],[1,2,5],[4],[1,2,6,7],[4],[4]],
  [[2,3,4,5],[8],[8]],
  [[1,2],[1,2,5],[1,2,5],[1,2,5],[1,2,5],[4],[4]],
  [[1,2],[0],[],[0],[0]],
  [[1],[2],[],[1,3],[1,3],[1,3],[1,3],[2],[2]],
  [[10]],
  [[1,2],[4],[],[1,2,5],[1,2,5],[1,2,5],[1,2,5],[4],[4]],
  [[0],[0,1,5],[0,1,5],[0,1,5],[4]],
  [[1,2,3],[6,7],[1,2,8],[1,2,3,8,9],[1,2,3,8,9],[1,2,3,8,9],[1,2,3,8,9,10],[1,2,3,8,9,11,12],[6,7],[1,2,3,8,9],[6,7]],
  [[10]],
  [[],[0,3],[0,3],[0,3],[0,3],[2],[2]],
  [[1,2],[4,5,6],[4,5],[4,5,6],[4,5,6]],
  [[2,3],[4],[],[],[4],[],[4],[],[4],[],[],[],[4],[],[4],[4],[4]],
  [[1,2],[4,5,6],[4],[4,5,6],[4,7],[4,7],[4,7],[4,7],[4,7],[4,5,6]],
  [[0,1],[4],[],[0,1,5],[0,1,5],[0,1,5],[0,1,5],[4],[4]],
  [[2]],
  [[10]],
  [[8]],
  [[5,6],[5,6],[5,6],[5,6],[5,6],[5,6],[6],[4],[],[4],[4]],
  [[4]],
  [[2]],
  [[2]],
  [[2]],
  [[1,2],[4],[4]],
  [[1,2,3],[6,7],[1,2,3],[6,7],[1,2,3,8],[1,2,3,8,27,28,29],[1,2,3,8,27,28,29],[1,2,3,8,27,28,29],[1,2,3,8,27,28,29],[1,2,3,8,10,27,28,29,41,42,43],[1,2,3,8,10,27,28,29,41,42,43],[1,2,3,8,10,27,28,29,41,42,43],[1,2,3,8,13,14,27,28,29,41,42,43],[6,7],[8],[6,7],[6,7]],
  [[4]],
  [[1],[1],[2],[1],[1],[2],[6],[5,6,7],[5,6,7],[5,6,7],[2],[1],[8],[1,8,9],[1,8,9],[1,8,9],[1,8,9],[2],[],[2],[2]],
  [[0,1,4,6],[4,5],[0,1,4,6],[0,1,4,6,7,8],[0,1,4,6,7,8],[0,1,4,6,7,8],[0,1,4,6,7,8],[0,1,4,6,7,8],[0,1,4,6,7,8],[0,1,4,6],[0,1,4,6],[0,4,6],[0,1,4,6,9],[0,1,4,6,9],[0,1,4,6,9],[0,1,4,6,9],[4,5],[0,1,4,6,9],[0,1,4,6,9],[4,6,10],[4,5],[4,5]],
  [[0,1],[4],[],[1,12,13,14],[1,12,13,14],[1,12,13,14],[1,12,13,14],[4],[4]],
  [[0,3],[0,3,9,10,11],[0,3,9,10,11],[0,3,9,10,11],[0,3,9,10,11],[6],[6,25,26,27],[6,25,26,27],[6,25,26,27],[2]],
  [[0],[0,7,8,9],[0,7,8,9],[0,7,8,9],[4]],
  [[0,1,6],[],[4],[4],[0,1],[4],[0,1],[4],[],[4],[4]],
  [[0,1,6],[],[4],[4],[0,1],[4],[0,1],[4],[],[4],[4]],
  [[0,1,6],[],[4],[4],[0,1],[4],[0,1],[4],[],[4],[4]],
  [[4]],
  [[2]],
  [[2]],
  [[1,2],[4,5],[6],[4,5],[4,5]],
  [[0,1],[4],[],[0,1,12,13],[0,1,12,13],[0,1,12,13],[0,1,12,13],[4],[4]],
  [[0,1,4,7],[4,5,6],[0,4,7,8],[0,4,7,8],[4,5,6],[0,4,7,8],[4,7,9,11],[4,5,6],[0,4,7,8],[0,4,7,12],[4,5,6],[4,5,6],[4,5,6]],
  [[0],[2],[2]],
  [[3],[0,3,4],[0,3,4],[0,3,4],[2]],
  [[2,5],[2,5],[2,5],[2,5],[2,5],[4]],
  [[0,1],[0],[4]],
  [[0,3],[0,3],[4],[0,3],[0,3],[4],[0,7],[0,7,49,50],[0,7,49,50],[0,7,49,50],[4],[0,3],[4],[0],[4],[4]],
  [[2]],
  [[2]],
  [[2]],
  [[],[0,1,7,8],[0,1,7,8],[0,1,7,8],[0,1,7,8],[4],[4]],
  [[0,1,2],[6,7,8],[0,1,9],[0,1,2,9,23,24,25],[0,1,2,9,23,24,25],[0,1,2,9,23,24,25],[0,1,2,9,11,23,24,25],[6,7,8]],
  [[4]],
  [[6]],
  [[3],[0,3],[0,3],[0,3],[2]],
  [[0,1,5],[0,1,5],[4],[0,1,5],[4],[0,1,5],[4],[0,1,5],[4],[],[0,1,5,6,7,8,9,10],[0,1,5,6,7,8,9,10],[0,1,5,6,7,8,9,10],[0,1,5,6,7,8,9,10],[0,1,5,6,7,8,9,10,11],[4],[0,1,5,6,7,8,9,10],[4],[0,1,5,6,7,8,9,10],[],[4],[4],[0,1,5,6,7,8,9,10],[8,13],[4],[4],[4]],
  [[0,1,2,3],[8],[0,1,2,3],[8],[0,1,2,3],[0,10,11],[0,10,11],[0,1,2,10,11,52,53],[0,1,2,10,11,52,53],[0,1,2,10,11,52,53],[0,10,11],[0,2,10,11,77,78],[0,2,10,11,77,78],[0,2,10,11,77,78],[8]],
  [[],[0,2,3],[0,2,3],[0,2,3]],
  [[4]],
  [],
  [[2]],
  [[0,1,5,6,7,8],[0,1,5,6,7,8,9],[0,1,5,6,7,8,9],[0,1,5,6,7,8,9],[0,1,5,6,7,8],[4],[],[0,1,5,6,7,8,10],[0,1,5,6,7,8,10],[0,1,5,6,7,8,10],[0,1,5,6,7,8,10],[4],[4]],
  [[0,1],[4],[0,1],[4],[4],[0,1,5],[0,1,5],[0,1,5,6],[4]],
  [[0,1],[]],
  [[4,5]],
  [[2,3],[2,3],[2,3]],
  [[2]],
  [],
  [[0,4],[0,4,5],[0,4,5],[0,4,5],[4,6],[4,6,7,8],[4,6,7,8],[4,6,7,8],[4,6,7,8],[2,3]],
  [[2],[2,4],[2,4],[2,4],[2]],
  [],
  [[],[]],
  [],
  [[0,4],[2,3],[0,4,5,6],[2,3],[0,5,8,9],[2,3],[0,5,8,10],[2,3],[0,5,8,10],[2,3],[0,5,8,10,11],[2,3],[0,5,10,11],[2,3],[5,10,11,12],[2,3],[2,3]],
  [],
  [],
  [],
  [],
  [],
  [],
  [],
  [],
  [],
  [],
  [],
  [],
  [],
  [],
  [],
  [],
  [],
  [],
  [],
  [],
  [],
  [],
  [],
  []
]

def hints : Hints := fun f => (hintList[f]?).getD []

end Go.Proofs.YtlmhioanjmhaiaaDoor

/-
  Chapter 40: slices.Insert as a Prim; known() returns true.
  Conditions: none. By an AI agent.
-/
namespace Go.Proofs.YtlmhioanjmhaiaaDoor
open Go Eng

theorem mixed : Tryd.prog.follows .mixedOrders = true := by kernel_rfl

theorem prim56 : (CallAd fun _ args H => indexP args H) ∧ CallOK Tryd.prog fun g args H => if g = 56 then indexP args H else none :=
  index_prim 0 (by simp [globs]) fun s t m w h1 h2 => Tryd.strings_Index s t m w h1 h2

theorem prim57 : (CallAd fun _ args H => replP args H) ∧ CallOK Tryd.prog fun g args H => if g = 57 then replP args H else none :=
  repl_prim 0 (by simp [globs]) fun s o t m w h1 h2 h3 h4 => Tryd.strings_ReplaceAll s o t m w h1 h2 h3 h4

def prims0 : Prims := fun f => if f = 57 then some replP else if f = 56 then some indexP else none

theorem prims0_ok : PrimsOK Tryd.prog prims0 := by
  intro f p h
  unfold prims0 at h
  split at h
  · rename_i hf
    have e := Option.some.inj h
    subst hf
    rw [← e]
    exact prim57
  · skip
    split at h
    · rename_i hf
      have e := Option.some.inj h
      subst hf
      rw [← e]
      exact prim56
    · skip
      cases h

theorem known_run : dCall Tryd.prog prims0 hints 60 9 [] H0 = some (.bool true, H0) := by kernel_rfl

noncomputable def prims1 : Prims := fun f => if f = 9 then some trueP else prims0 f

theorem prims1_ok : PrimsOK Tryd.prog prims1 := by
  intro f p h
  unfold prims1 at h
  split at h
  · rename_i hf
    have e := Option.some.inj h
    subst hf
    rw [← e]
    exact true_prim prims0_ok mixed ⟨60, _, known_run⟩
  · exact prims0_ok f p h

/-- What a call gives. -/
noncomputable def CC : CallF := D Tryd.prog prims1 hints

end Go.Proofs.YtlmhioanjmhaiaaDoor

/-
  Names of the seat's functions and types (a program of ours printed it).
  Conditions: none. By an AI agent.
-/
namespace Go.Proofs.YtlmhioanjmhaiaaDoor
open Go
def F.main_main : FuncId := 0
def F.gosem_cut : FuncId := 1
def F.gosem_cut_init : FuncId := 2
def F.law_RowsReads : FuncId := 3
def F.law_RowsSpans : FuncId := 4
def F.law_RowsHolds : FuncId := 5
def F.law_RowsWrites : FuncId := 6
def F.law_RowsCompares : FuncId := 7
def F.law_small : FuncId := 8
def F.law_known : FuncId := 9
def F.law_valid : FuncId := 10
def F.law_read : FuncId := 11
def F.law_first : FuncId := 12
def F.law_joined : FuncId := 13
def F.law_found : FuncId := 14
def F.law_spans : FuncId := 15
def F.law_behind : FuncId := 16
def F.rows_Row : FuncId := 17
def F.rows_Compare : FuncId := 18
def F.rows_Span : FuncId := 19
def F.law_same : FuncId := 20
def F.rows_Valid : FuncId := 21
def F.law_row : FuncId := 22
def F.law_keyed : FuncId := 23
def F.law_order : FuncId := 24
def F.rows_Equal : FuncId := 25
def F.law_number : FuncId := 26
def F.law_text : FuncId := 27
def F.law_signed : FuncId := 28
def F.law_kindAt : FuncId := 29
def F.rows_Read : FuncId := 30
def F.law_proper : FuncId := 31
def F.law_bytesOf : FuncId := 32
def F.law_take : FuncId := 33
def F.rows_are : FuncId := 34
def F.slices_Concat_CellKind : FuncId := 35
def F.rows_puts : FuncId := 36
def F.cmp_Compare_uint64 : FuncId := 37
def F.cmp_Compare_int : FuncId := 38
def F.cmp_Compare_string : FuncId := 39
def F.slices_ContainsFunc_CellKind : FuncId := 40
def F.rows_Valid_1 : FuncId := 41
def F.rows_kind : FuncId := 42
def F.rows_Key : FuncId := 43
def F.slices_Equal_Cell : FuncId := 44
def F.rows_take : FuncId := 45
def F.law_digits : FuncId := 46
def F.law_most : FuncId := 47
def F.rows_proper : FuncId := 48
def F.slices_Grow_CellKind : FuncId := 49
def F.rows_put : FuncId := 50
def F.cmp_isNaN_uint64 : FuncId := 51
def F.cmp_isNaN_int : FuncId := 52
def F.cmp_isNaN_string : FuncId := 53
def F.slices_IndexFunc_CellKind : FuncId := 54
def F.rows_number : FuncId := 55
def F.strings_Index : FuncId := 56
def F.strings_ReplaceAll : FuncId := 57
def F.rows_digits : FuncId := 58
def F.internal_stringslite_Index : FuncId := 59
def F.strings_Replace : FuncId := 60
def F.slices_Reverse_byte : FuncId := 61
def F.internal_stringslite_IndexByte : FuncId := 62
def F.internal_bytealg_IndexString : FuncId := 63
def F.internal_bytealg_Cutover : FuncId := 64
def F.internal_bytealg_IndexRabinKarp_string : FuncId := 65
def F.strings_Count : FuncId := 66
def F.strings_Builder_Grow : FuncId := 67
def F.strings_Builder_WriteString : FuncId := 68
def F.unicode_utf8_DecodeRuneInString : FuncId := 69
def F.strings_Builder_String : FuncId := 70
def F.internal_bytealg_IndexByteString : FuncId := 71
def F.internal_bytealg_hashStr_string : FuncId := 72
def F.unicode_utf8_RuneCountInString : FuncId := 73
def F.internal_bytealg_CountString : FuncId := 74
def F.strings_Builder_copyCheck : FuncId := 75
def F.strings_Builder_grow : FuncId := 76
def F.unicode_utf8_decodeRuneInStringSlow : FuncId := 77
def F.internal_abi_NoEscape : FuncId := 78
def F.internal_bytealg_MakeNoZero : FuncId := 79
def F.runtime_boundsError_Error : FuncId := 80
def F.runtime_boundsError_RuntimeError : FuncId := 81
def F.runtime_errorString_Error : FuncId := 82
def F.runtime_errorString_RuntimeError : FuncId := 83
def F.runtime_plainError_Error : FuncId := 84
def F.runtime_plainError_RuntimeError : FuncId := 85
def F.runtime_errorAddressString_Error : FuncId := 86
def F.runtime_errorAddressString_RuntimeError : FuncId := 87
def F.runtime_TypeAssertionError_Error : FuncId := 88
def F.runtime_TypeAssertionError_RuntimeError : FuncId := 89
def F.runtime_PanicNilError_Error : FuncId := 90
def F.runtime_PanicNilError_RuntimeError : FuncId := 91
def F.internal_abi_Type_Align : FuncId := 92
def F.internal_runtime_maps_unhashableTypeError_Error : FuncId := 93
def F.internal_runtime_maps_unhashableTypeError_RuntimeError : FuncId := 94
def F.strings_Builder_Reset : FuncId := 95
def F.internal_abi_Kind_String : FuncId := 96
def F.var_s_door_gosem_cut_vars_holds_initialisers_alone_see_the_manifest_s_row_cutvarsword_look_11_test_files_too : FuncId := 97
def F.var_s_door_the_look_of_gosem_cut_vars_went_over_the_folder_that_the_caller_named_as_the_repository_s_root_look_11 : FuncId := 98
def F.var_s_door_unicode_utf8_acceptRanges_is_laid_by_its_own_initialiser_plain_data_look_11 : FuncId := 99
def F.var_s_door_unicode_utf8_first_is_laid_by_its_text_alone_pinned_1 : FuncId := 100
def F.gosem_cut_vars : FuncId := 101
def T.tuple : TypeId := 0
def T.func : TypeId := 1
def T.int64 : TypeId := 2
def T.int : TypeId := 3
def T.bool : TypeId := 4
def T.uint8 : TypeId := 5
def T.internal_abi_BoundsErrorCode : TypeId := 6
def T.struct_x_int64_y_int_signed_bool_code_abi_BoundsErrorCode : TypeId := 7
def T.runtime_boundsError : TypeId := 8
def T.string : TypeId := 9
def T.runtime_errorString : TypeId := 10
def T.runtime_plainError : TypeId := 11
def T.uintptr : TypeId := 12
def T.struct_msg_string_addr_uintptr : TypeId := 13
def T.runtime_errorAddressString : TypeId := 14
def T.p_runtime_TypeAssertionError : TypeId := 15
def T.p_runtime_PanicNilError : TypeId := 16
def T.p_abi_Type : TypeId := 17
def T.struct_typ_abi_Type : TypeId := 18
def T.internal_runtime_maps_unhashableTypeError : TypeId := 19
def T.interface : TypeId := 20
def T.int32 : TypeId := 21
def T.sl_api_CellKind : TypeId := 22
def T.struct_Number_int_Key_api_CellKind_Rest_api_CellKind : TypeId := 23
def T.api_Table : TypeId := 24
def T.sl_api_Cell : TypeId := 25
def T.func_1 : TypeId := 26
def T.func_2 : TypeId := 27
def T.func_3 : TypeId := 28
def T.func_4 : TypeId := 29
def T.func_5 : TypeId := 30
def T.sl_uint8 : TypeId := 31
def T.tuple_1 : TypeId := 32
def T.func_6 : TypeId := 33
def T.func_7 : TypeId := 34
def T.func_8 : TypeId := 35
def T.func_9 : TypeId := 36
def T.api_Errno : TypeId := 37
def T.tuple_2 : TypeId := 38
def T.func_10 : TypeId := 39
def T.func_11 : TypeId := 40
def T.api_CellKind : TypeId := 41
def T.uint64 : TypeId := 42
def T.struct_Kind_api_CellKind_U_uint64_I_int_S_string_B_bool : TypeId := 43
def T.api_Cell : TypeId := 44
def T.func_12 : TypeId := 45
def T.func_13 : TypeId := 46
def T.func_14 : TypeId := 47
def T.func_15 : TypeId := 48
def T.func_16 : TypeId := 49
def T.func_17 : TypeId := 50
def T.func_18 : TypeId := 51
def T.func_19 : TypeId := 52
def T.func_20 : TypeId := 53
def T.tuple_3 : TypeId := 54
def T.func_21 : TypeId := 55
def T.func_22 : TypeId := 56
def T.func_23 : TypeId := 57
def T.tuple_4 : TypeId := 58
def T.func_24 : TypeId := 59
def T.func_25 : TypeId := 60
def T.func_26 : TypeId := 61
def T.func_27 : TypeId := 62
def T.func_28 : TypeId := 63
def T.func_29 : TypeId := 64
def T.func_30 : TypeId := 65
def T.func_31 : TypeId := 66
def T.func_32 : TypeId := 67
def T.tuple_5 : TypeId := 68
def T.func_33 : TypeId := 69
def T.sl_string : TypeId := 70
def T.sl_sl_api_CellKind : TypeId := 71
def T.tuple_6 : TypeId := 72
def T.func_34 : TypeId := 73
def T.func_35 : TypeId := 74
def T.func_36 : TypeId := 75
def T.func_37 : TypeId := 76
def T.func_38 : TypeId := 77
def T.func_39 : TypeId := 78
def T.func_40 : TypeId := 79
def T.func_41 : TypeId := 80
def T.func_42 : TypeId := 81
def T.tuple_7 : TypeId := 82
def T.func_43 : TypeId := 83
def T.func_44 : TypeId := 84
def T.func_45 : TypeId := 85
def T.uint : TypeId := 86
def T.func_46 : TypeId := 87
def T.func_47 : TypeId := 88
def T.func_48 : TypeId := 89
def T.func_49 : TypeId := 90
def T.p_strings_Builder : TypeId := 91
def T.struct_addr_strings_Builder_buf_uint8 : TypeId := 92
def T.strings_Builder : TypeId := 93
def T.func_50 : TypeId := 94
def T.interface_1 : TypeId := 95
def T.error : TypeId := 96
def T.tuple_8 : TypeId := 97
def T.func_51 : TypeId := 98
def T.tuple_9 : TypeId := 99
def T.func_52 : TypeId := 100
def T.func_53 : TypeId := 101
def T.uint32 : TypeId := 102
def T.tuple_10 : TypeId := 103
def T.func_54 : TypeId := 104
def T.func_55 : TypeId := 105
def T.p_uint8 : TypeId := 106
def T.unsafe_Pointer : TypeId := 107
def T.func_56 : TypeId := 108
def T.func_57 : TypeId := 109
def T.n256_uint8 : TypeId := 110
def T.struct_lo_uint8_hi_uint8 : TypeId := 111
def T.unicode_utf8_acceptRange : TypeId := 112
def T.n16_utf8_acceptRange : TypeId := 113
def T.struct_interface_abi_Type_concrete_abi_Type_asserted_abi_Typ : TypeId := 114
def T.runtime_TypeAssertionError : TypeId := 115
def T.n0_runtime_PanicNilError : TypeId := 116
def T.struct_0_runtime_PanicNilError : TypeId := 117
def T.runtime_PanicNilError : TypeId := 118
def T.func_58 : TypeId := 119
def T.internal_abi_TFlag : TypeId := 120
def T.internal_abi_Kind : TypeId := 121
def T.func_59 : TypeId := 122
def T.internal_abi_NameOff : TypeId := 123
def T.internal_abi_TypeOff : TypeId := 124
def T.struct_Size_uintptr_PtrBytes_uintptr_Hash_uint32_TFlag_abi_T : TypeId := 125
def T.internal_abi_Type : TypeId := 126
end Go.Proofs.YtlmhioanjmhaiaaDoor

/-
  The seat's functions as terms over the engine's combinators (a program of ours printed it).
  Conditions: none. By an AI agent.
-/
set_option linter.unusedVariables false
namespace Go.Proofs.YtlmhioanjmhaiaaDoor
open Go Eng

/-! ticketline.ticketlinelaw40.small -/

noncomputable def s_law_small (mg : GT) (mc : CT) (ms : ST) (P : Program) (C : CallF) (L0 : Value → Value → Value → AHeap → K → Res) (a0 : Value) (a1 : Value) (H : AHeap) (K0 : K) : Res :=
bothK (newv T.api_Table a0 H) fun t2 h1 =>
ms (fun k1 =>
L0 a1 t2 (.int .i64 0) h1 (blkK [1, 2] 0 k1)) (seqK (fun tT h2 =>
bareK (fad 1 (get tT 2)) h2 fun t23 h3 =>
bareK (ld1 h3 t23) h3 fun t24 h4 =>
bareK (lenS t24) h4 fun t25 h5 =>
bareK (xbin P .leq T.int (.tmp 25) (.const (.int .i64 20)) t25 (.int .i64 20)) h5 fun t26 h6 =>
mg t26 true (fun o2 => bareK (fad 2 (get tT 2)) h6 o2) h6 fun t28 h7 =>
mg t26 true (fun o3 => bareK (ld1 h7 t28) h7 o3) h7 fun t29 h8 =>
mg t26 true (fun o4 => bareK (lenS t29) h8 o4) h8 fun t30 h9 =>
mg t26 true (fun o5 => bareK (xbin P .leq T.int (.tmp 30) (.const (.int .i64 20)) t30 (.int .i64 20)) h9 o5) h9 fun t31 h10 =>
pickK t26 t31 (.bool false) fun t32 =>
mg t32 true (fun o6 => o6 (get tT 1) h10) h10 fun t34 h11 =>
mg t32 true (fun o7 => bareK (lenS t34) h11 o7) h11 fun t35 h12 =>
mg t32 true (fun o8 => bareK (xbin P .leq T.int (.tmp 35) (.const (.int .i64 20)) t35 (.int .i64 20)) h12 o8) h12 fun t36 h13 =>
pickK t32 t36 (.bool false) fun t37 =>
K0 .ret [(4, t37)] h13) K0)

noncomputable def s_law_small_b0 (mg : GT) (mc : CT) (ms : ST) (P : Program) (C : CallF) (L0 : Value → Value → Value → AHeap → K → Res) (v1 : Value) (v2 : Value) (v5 : Value) (H : AHeap) (k : K) : Res :=
bareK (lenS v1) H fun t8 h2 =>
bareK (xbin P .lss T.int (.tmp 6) (.tmp 8) v5 t8) h2 fun t9 h3 =>
mg t9 true (fun o2 => o2 v5 h3) h3 fun t11 h4 =>
mg t9 true (fun o3 => bareK (xbin P .lss T.int (.tmp 11) (.const (.int .i64 21)) t11 (.int .i64 21)) h4 o3) h4 fun t12 h5 =>
pickK t9 t12 (.bool false) fun t13 =>
mc t13 (fun k4 => k4 .normal [(1, v1), (2, v2), (5, v5)] h5) (fun k4 =>
k4 (.exit 0) [(13, t13), (12, t12), (11, t11), (10, t9), (9, t9), (8, t8), (7, v1), (6, v5), (1, v1), (2, v2), (5, v5)] h5) (seqK (fun tT h6 =>
ms (fun k5 =>
bareK (ixS 5 (get tT 1) (get tT 5)) h6 fun t18 h7 =>
bareK (fad 3 t18) h7 fun t19 h8 =>
bareK (ld1 h8 t19) h8 fun t20 h9 =>
bareK (lenT t20) h9 fun t21 h10 =>
bareK (xbin P .gtr T.int (.tmp 21) (.const (.int .i64 60)) t21 (.int .i64 60)) h10 fun t22 h11 =>
mc t22 (fun k6 => k6 .ret [(4, (.bool false))] h11) (fun k6 =>
k6 .normal [(1, (get tT 1)), (2, (get tT 2)), (5, (get tT 5))] h11) (blkK [1, 2, 5] 1 k5)) (seqK (fun tT_1 h12 =>
bareK (xbin P .add T.int (.tmp 14) (.const (.int .i64 1)) (get tT_1 5) (.int .i64 1)) h12 fun t15 h13 =>
k .normal [(1, (get tT_1 1)), (2, (get tT_1 2)), (5, t15)] h13) (afterK [1, 2, 5] k))) (afterK [1, 2, 5] k))

theorem s_law_small_eq (M : CombL) (C : CallF) (LP : LoopH) (a0 : Value) (a1 : Value) (H : AHeap) : dBodyL M Tryd.prog hints C LP F.law_small [a0, a1] H = s_law_small M.b.g M.c M.s Tryd.prog C (fun v1 v2 v5 H k => loopL M Tryd.prog hints C LP F.law_small 0 [(1, v1), (2, v2), (5, v5)] H k) a0 a1 H (endK Tryd.prog [.tmp 4]) := by kernel_rfl

theorem s_law_small_b0_eq (M : CombL) (C : CallF) (LP : LoopH) (v1 : Value) (v2 : Value) (v5 : Value) (H : AHeap) (k : K) : bodyL M Tryd.prog hints C LP F.law_small 0 [(1, v1), (2, v2), (5, v5)] H (afterK [1, 2, 5] k) = s_law_small_b0 M.b.g M.c M.s Tryd.prog C (fun v1 v2 v5 H k => loopL M Tryd.prog hints C LP F.law_small 0 [(1, v1), (2, v2), (5, v5)] H k) v1 v2 v5 H k := by kernel_rfl

/-! ticketline.ticketlinelaw40.valid -/

noncomputable def s_law_valid (mg : GT) (mc : CT) (ms : ST) (P : Program) (C : CallF) (L0 : Value → Value → AHeap → K → Res) (a0 : Value) (H : AHeap) (K0 : K) : Res :=
bothK (newv T.api_Table a0 H) fun t1 h1 =>
bareK (fad 0 t1) h1 fun t5 h2 =>
bareK (ld1 h2 t5) h2 fun t6 h3 =>
bareK (xbin P .lss T.int (.tmp 6) (.const (.int .i64 1)) t6 (.int .i64 1)) h3 fun t7 h4 =>
mg t7 false (fun o1 => bareK (fad 0 t1) h4 o1) h4 fun t9 h5 =>
mg t7 false (fun o2 => bareK (ld1 h5 t9) h5 o2) h5 fun t10 h6 =>
mg t7 false (fun o3 => bareK (xbin P .gtr T.int (.tmp 10) (.const (.int .i64 255)) t10 (.int .i64 255)) h6 o3) h6 fun t11 h7 =>
pickK t7 (.bool true) t11 fun t12 =>
mg t12 false (fun o4 => bareK (fad 1 t1) h7 o4) h7 fun t14 h8 =>
mg t12 false (fun o5 => bareK (ld1 h8 t14) h8 o5) h8 fun t15 h9 =>
mg t12 false (fun o6 => bareK (lenS t15) h9 o6) h9 fun t16 h10 =>
mg t12 false (fun o7 => bareK (xbin P .lss T.int (.tmp 16) (.const (.int .i64 1)) t16 (.int .i64 1)) h10 o7) h10 fun t17 h11 =>
pickK t12 (.bool true) t17 fun t18 =>
mg t18 false (fun o8 => bareK (fad 1 t1) h11 o8) h11 fun t20 h12 =>
mg t18 false (fun o9 => bareK (ld1 h12 t20) h12 o9) h12 fun t21 h13 =>
mg t18 false (fun o10 => bareK (lenS t21) h13 o10) h13 fun t22 h14 =>
mg t18 false (fun o11 => bareK (xbin P .gtr T.int (.tmp 22) (.const (.int .i64 8)) t22 (.int .i64 8)) h14 o11) h14 fun t23 h15 =>
pickK t18 (.bool true) t23 fun t24 =>
mg t24 false (fun o12 => bareK (fad 2 t1) h15 o12) h15 fun t26 h16 =>
mg t24 false (fun o13 => bareK (ld1 h16 t26) h16 o13) h16 fun t27 h17 =>
mg t24 false (fun o14 => bareK (lenS t27) h17 o14) h17 fun t28 h18 =>
mg t24 false (fun o15 => bareK (xbin P .gtr T.int (.tmp 28) (.const (.int .i64 8)) t28 (.int .i64 8)) h18 o15) h18 fun t29 h19 =>
pickK t24 (.bool true) t29 fun t30 =>
mc t30 (fun k16 => k16 .ret [(2, (.bool false))] h19) (fun k16 =>
k16 .normal [(1, t1)] h19) (seqK (fun tT h20 =>
ms (fun k17 =>
L0 (get tT 1) (.int .i64 0) h20 (blkK [] 0 k17)) (seqK (fun tT_1 h21 =>
K0 .ret [(2, (.bool true))] h21) K0)) K0)

noncomputable def s_law_valid_b0 (mg : GT) (mc : CT) (ms : ST) (P : Program) (C : CallF) (L0 : Value → Value → AHeap → K → Res) (v1 : Value) (v3 : Value) (H : AHeap) (k : K) : Res :=
bareK (fad 1 v1) H fun t32 h21 =>
bareK (ld1 h21 t32) h21 fun t33 h22 =>
bareK (lenS t33) h22 fun t34 h23 =>
bareK (fad 2 v1) h23 fun t35 h24 =>
bareK (ld1 h24 t35) h24 fun t36 h25 =>
bareK (lenS t36) h25 fun t37 h26 =>
bareK (xbin P .add T.int (.tmp 34) (.tmp 37) t34 t37) h26 fun t38 h27 =>
bareK (xbin P .lss T.int (.tmp 31) (.tmp 38) v3 t38) h27 fun t39 h28 =>
mc t39 (fun k18 => k18 .normal [(1, v1), (3, v3)] h28) (fun k18 =>
k18 (.exit 0) [(39, t39), (38, t38), (37, t37), (36, t36), (35, t35), (34, t34), (33, t33), (32, t32), (31, v3), (1, v1), (3, v3)] h28) (seqK (fun tT h29 =>
ms (fun k19 =>
bareK (ldN 3 h29 (get tT 1)) h29 fun t42 h30 =>
enterK C F.law_kindAt [t42, (get tT 3)] h30 fun t44 h31 =>
bareK (xbin P .lss T.api_CellKind (.tmp 45) (.const (.int .i64 1)) t44 (.int .i64 1)) h31 fun t46 h32 =>
mg t46 false (fun o20 => o20 t44 h32) h32 fun t48 h33 =>
mg t46 false (fun o21 => bareK (xbin P .gtr T.api_CellKind (.tmp 48) (.const (.int .i64 4)) t48 (.int .i64 4)) h33 o21) h33 fun t49 h34 =>
pickK t46 (.bool true) t49 fun t50 =>
mc t50 (fun k22 => k22 .ret [(2, (.bool false))] h34) (fun k22 =>
k22 .normal [(1, (get tT 1)), (3, (get tT 3))] h34) (blkK [1, 3] 1 k19)) (seqK (fun tT_1 h35 =>
bareK (xbin P .add T.int (.tmp 40) (.const (.int .i64 1)) (get tT_1 3) (.int .i64 1)) h35 fun t41 h36 =>
k .normal [(1, (get tT_1 1)), (3, t41)] h36) (afterK [1, 3] k))) (afterK [1, 3] k))

theorem s_law_valid_eq (M : CombL) (C : CallF) (LP : LoopH) (a0 : Value) (H : AHeap) : dBodyL M Tryd.prog hints C LP F.law_valid [a0] H = s_law_valid M.b.g M.c M.s Tryd.prog C (fun v1 v3 H k => loopL M Tryd.prog hints C LP F.law_valid 0 [(1, v1), (3, v3)] H k) a0 H (endK Tryd.prog [.tmp 2]) := by kernel_rfl

theorem s_law_valid_b0_eq (M : CombL) (C : CallF) (LP : LoopH) (v1 : Value) (v3 : Value) (H : AHeap) (k : K) : bodyL M Tryd.prog hints C LP F.law_valid 0 [(1, v1), (3, v3)] H (afterK [1, 3] k) = s_law_valid_b0 M.b.g M.c M.s Tryd.prog C (fun v1 v3 H k => loopL M Tryd.prog hints C LP F.law_valid 0 [(1, v1), (3, v3)] H k) v1 v3 H k := by kernel_rfl

/-! ticketline.ticketlinelaw40.read -/

noncomputable def s_law_read (mg : GT) (mc : CT) (ms : ST) (P : Program) (C : CallF) (a0 : Value) (a1 : Value) (a2 : Value) (a3 : Value) (a4 : Value) (H : AHeap) (K0 : K) : Res :=
bothK (newv T.api_Table a0 H) fun t5 h1 =>
bareK (ldN 3 h1 t5) h1 fun t14 h2 =>
enterK C F.rows_Read [t14, a1, a2] h2 fun t17 h3 =>
bareK (xextract t17 0) h3 fun t18 h4 =>
bareK (xextract t17 1) h4 fun t19 h5 =>
enterK C F.law_same [t18, a3] h5 fun t22 h6 =>
mg t22 true (fun o1 => o1 t19 h6) h6 fun t24 h7 =>
mg t22 true (fun o2 => o2 a4 h7) h7 fun t25 h8 =>
mg t22 true (fun o3 => bareK (xbin P .eql T.int (.tmp 24) (.tmp 25) t24 t25) h8 o3) h8 fun t26 h9 =>
pickK t22 t26 (.bool false) fun t27 =>
K0 .ret [(10, t27)] h9

theorem s_law_read_eq (M : CombL) (C : CallF) (LP : LoopH) (a0 : Value) (a1 : Value) (a2 : Value) (a3 : Value) (a4 : Value) (H : AHeap) : dBodyL M Tryd.prog hints C LP F.law_read [a0, a1, a2, a3, a4] H = s_law_read M.b.g M.c M.s Tryd.prog C a0 a1 a2 a3 a4 H (endK Tryd.prog [.tmp 10]) := by kernel_rfl

/-! ticketline.ticketlinelaw40.first -/

noncomputable def s_law_first (mg : GT) (mc : CT) (ms : ST) (P : Program) (C : CallF) (L0 : Value → Value → Value → AHeap → K → Res) (a0 : Value) (a1 : Value) (H : AHeap) (K0 : K) : Res :=
bothK (newv T.api_Table a0 H) fun t2 h1 =>
bareK (lenS a1) h1 fun t7 h2 =>
bareK (fad 1 t2) h2 fun t8 h3 =>
bareK (ld1 h3 t8) h3 fun t9 h4 =>
bareK (lenS t9) h4 fun t10 h5 =>
bareK (fad 2 t2) h5 fun t11 h6 =>
bareK (ld1 h6 t11) h6 fun t12 h7 =>
bareK (lenS t12) h7 fun t13 h8 =>
bareK (xbin P .add T.int (.tmp 10) (.tmp 13) t10 t13) h8 fun t14 h9 =>
bareK (xbin P .gtr T.int (.tmp 7) (.tmp 14) t7 t14) h9 fun t15 h10 =>
mc t15 (fun k1 => k1 .ret [(4, (.bool false))] h10) (fun k1 =>
k1 .normal [(1, a1), (2, t2)] h10) (seqK (fun tT h11 =>
ms (fun k2 =>
L0 (get tT 1) (get tT 2) (.int .i64 0) h11 (blkK [] 0 k2)) (seqK (fun tT_1 h12 =>
K0 .ret [(4, (.bool true))] h12) K0)) K0)

noncomputable def s_law_first_b0 (mg : GT) (mc : CT) (ms : ST) (P : Program) (C : CallF) (L0 : Value → Value → Value → AHeap → K → Res) (v1 : Value) (v2 : Value) (v5 : Value) (H : AHeap) (k : K) : Res :=
bareK (lenS v1) H fun t18 h12 =>
bareK (xbin P .lss T.int (.tmp 16) (.tmp 18) v5 t18) h12 fun t19 h13 =>
mc t19 (fun k3 => k3 .normal [(1, v1), (2, v2), (5, v5)] h13) (fun k3 =>
k3 (.exit 0) [(19, t19), (18, t18), (17, v1), (16, v5), (1, v1), (2, v2), (5, v5)] h13) (seqK (fun tT h14 =>
ms (fun k4 =>
bareK (ixS 5 (get tT 1) (get tT 5)) h14 fun t24 h15 =>
bareK (ldN 5 h15 t24) h15 fun t25 h16 =>
bareK (ldN 3 h16 (get tT 2)) h16 fun t26 h17 =>
enterK C F.law_kindAt [t26, (get tT 5)] h17 fun t28 h18 =>
enterK C F.law_proper [t25, t28] h18 fun t29 h19 =>
bareK (xun P .not t29) h19 fun t30 h20 =>
checkK (okV (some true) none h17 h18 h14 h14 && (okV (some true) none h17 h18 h14 h14 && (okV (some true) none h17 h18 h14 h15 && (okV (some true) (blockOf t24) h17 h18 h15 h16 && true)))) <|
mc t30 (fun k5 => k5 .ret [(4, (.bool false))] h20) (fun k5 =>
k5 .normal [(1, (get tT 1)), (2, (get tT 2)), (5, (get tT 5))] h20) (blkK [1, 2, 5] 1 k4)) (seqK (fun tT_1 h21 =>
bareK (xbin P .add T.int (.tmp 20) (.const (.int .i64 1)) (get tT_1 5) (.int .i64 1)) h21 fun t21 h22 =>
k .normal [(1, (get tT_1 1)), (2, (get tT_1 2)), (5, t21)] h22) (afterK [1, 2, 5] k))) (afterK [1, 2, 5] k))

theorem s_law_first_eq (M : CombL) (C : CallF) (LP : LoopH) (a0 : Value) (a1 : Value) (H : AHeap) : dBodyL M Tryd.prog hints C LP F.law_first [a0, a1] H = s_law_first M.b.g M.c M.s Tryd.prog C (fun v1 v2 v5 H k => loopL M Tryd.prog hints C LP F.law_first 0 [(1, v1), (2, v2), (5, v5)] H k) a0 a1 H (endK Tryd.prog [.tmp 4]) := by kernel_rfl

theorem s_law_first_b0_eq (M : CombL) (C : CallF) (LP : LoopH) (v1 : Value) (v2 : Value) (v5 : Value) (H : AHeap) (k : K) : bodyL M Tryd.prog hints C LP F.law_first 0 [(1, v1), (2, v2), (5, v5)] H (afterK [1, 2, 5] k) = s_law_first_b0 M.b.g M.c M.s Tryd.prog C (fun v1 v2 v5 H k => loopL M Tryd.prog hints C LP F.law_first 0 [(1, v1), (2, v2), (5, v5)] H k) v1 v2 v5 H k := by kernel_rfl

/-! ticketline.ticketlinelaw40.joined -/

noncomputable def s_law_joined (mg : GT) (mc : CT) (ms : ST) (P : Program) (C : CallF) (L0 : Value → Value → Value → AHeap → K → Res) (a0 : Value) (a1 : Value) (H : AHeap) (K0 : K) : Res :=
ms (fun k1 =>
L0 a0 a1 (.int .i64 0) H (blkK [0] 0 k1)) (seqK (fun tT h1 =>
K0 .ret [(4, (get tT 0))] h1) K0)

noncomputable def s_law_joined_b0 (mg : GT) (mc : CT) (ms : ST) (P : Program) (C : CallF) (L0 : Value → Value → Value → AHeap → K → Res) (v0 : Value) (v1 : Value) (v5 : Value) (H : AHeap) (k : K) : Res :=
bareK (lenS v1) H fun t8 h1 =>
bareK (xbin P .lss T.int (.tmp 6) (.tmp 8) v5 t8) h1 fun t9 h2 =>
mc t9 (fun k2 => k2 .normal [(0, v0), (1, v1), (5, v5)] h2) (fun k2 =>
k2 (.exit 0) [(9, t9), (8, t8), (7, v1), (6, v5), (0, v0), (1, v1), (5, v5)] h2) (seqK (fun tT h3 =>
ms (fun k3 =>
bareK (ixS 5 (get tT 1) (get tT 5)) h3 fun t15 h4 =>
bareK (ldN 5 h4 t15) h4 fun t16 h5 =>
enterK C F.law_bytesOf [t16] h5 fun t17 h6 =>
bareK (xbin P .add T.string (.tmp 12) (.tmp 17) (get tT 0) t17) h6 fun t18 h7 =>
k3 .normal [(0, t18), (1, (get tT 1)), (5, (get tT 5))] h7) (seqK (fun tT_1 h8 =>
bareK (xbin P .add T.int (.tmp 10) (.const (.int .i64 1)) (get tT_1 5) (.int .i64 1)) h8 fun t11 h9 =>
k .normal [(0, (get tT_1 0)), (1, (get tT_1 1)), (5, t11)] h9) (afterK [0, 1, 5] k))) (afterK [0, 1, 5] k))

theorem s_law_joined_eq (M : CombL) (C : CallF) (LP : LoopH) (a0 : Value) (a1 : Value) (H : AHeap) : dBodyL M Tryd.prog hints C LP F.law_joined [a0, a1] H = s_law_joined M.b.g M.c M.s Tryd.prog C (fun v0 v1 v5 H k => loopL M Tryd.prog hints C LP F.law_joined 0 [(0, v0), (1, v1), (5, v5)] H k) a0 a1 H (endK Tryd.prog [.tmp 4]) := by kernel_rfl

theorem s_law_joined_b0_eq (M : CombL) (C : CallF) (LP : LoopH) (v0 : Value) (v1 : Value) (v5 : Value) (H : AHeap) (k : K) : bodyL M Tryd.prog hints C LP F.law_joined 0 [(0, v0), (1, v1), (5, v5)] H (afterK [0, 1, 5] k) = s_law_joined_b0 M.b.g M.c M.s Tryd.prog C (fun v0 v1 v5 H k => loopL M Tryd.prog hints C LP F.law_joined 0 [(0, v0), (1, v1), (5, v5)] H k) v0 v1 v5 H k := by kernel_rfl

/-! ticketline.ticketlinelaw40.found -/

noncomputable def s_law_found (mg : GT) (mc : CT) (ms : ST) (P : Program) (C : CallF) (L0 : Value → Value → Value → Value → Value → AHeap → K → Res) (a0 : Value) (a1 : Value) (a2 : Value) (H : AHeap) (K0 : K) : Res :=
bothK (newv T.api_Table a0 H) fun t3 h1 =>
bareK (lenT a1) h1 fun t14 h2 =>
bareK (xbin P .gtr T.int (.tmp 14) (.const (.int .i64 24)) t14 (.int .i64 24)) h2 fun t15 h3 =>
mg t15 false (fun o1 => o1 a2 h3) h3 fun t17 h4 =>
mg t15 false (fun o2 => bareK (lenT t17) h4 o2) h4 fun t18 h5 =>
mg t15 false (fun o3 => bareK (xbin P .gtr T.int (.tmp 18) (.const (.int .i64 40)) t18 (.int .i64 40)) h5 o3) h5 fun t19 h6 =>
pickK t15 (.bool true) t19 fun t20 =>
mg t20 false (fun o4 => o4 a1 h6) h6 fun t22 h7 =>
mg t20 false (fun o5 => bareK (lenT t22) h7 o5) h7 fun t23 h8 =>
mg t20 false (fun o6 => bareK (xbin P .eql T.int (.tmp 23) (.const (.int .i64 0)) t23 (.int .i64 0)) h8 o6) h8 fun t24 h9 =>
pickK t20 (.bool true) t24 fun t25 =>
mg t25 false (fun o7 => o7 a1 h9) h9 fun t27 h10 =>
mg t25 false (fun o8 => bareK (xindex P T.string t27 (.int .i64 0)) h10 o8) h10 fun t28 h11 =>
mg t25 false (fun o9 => bothK (xconv P T.uint8 T.int t28 h11) o9) h11 fun t29 h12 =>
mg t25 false (fun o10 => bareK (fad 0 t3) h12 o10) h12 fun t30 h13 =>
mg t25 false (fun o11 => bareK (ld1 h13 t30) h13 o11) h13 fun t31 h14 =>
mg t25 false (fun o12 => bareK (xbin P .neq T.int (.tmp 29) (.tmp 31) t29 t31) h14 o12) h14 fun t32 h15 =>
pickK t25 (.bool true) t32 fun t33 =>
checkK true <|
mc t33 (fun k13 => k13 .ret [(6, (.slice none 0 0)), (7, (.bool false))] h15) (fun k13 =>
k13 .normal [(1, a1), (2, a2), (3, t3)] h15) (seqK (fun tT h16 =>
bareK (slT (get tT 1) (some (.int .i64 1)) none) h16 fun t35 h17 =>
ms (fun k14 =>
L0 t35 (get tT 2) (get tT 3) (.slice none 0 0) (.int .i64 0) h17 (blkK [1, 2, 8] 0 k14)) (seqK (fun tT_1 h18 =>
bareK (lenT (get tT_1 1)) h18 fun t81 h19 =>
bareK (xbin P .eql T.int (.tmp 81) (.const (.int .i64 0)) t81 (.int .i64 0)) h19 fun t82 h20 =>
mg t82 true (fun o15 => o15 (get tT_1 2) h20) h20 fun t84 h21 =>
mg t82 true (fun o16 => bareK (lenT t84) h21 o16) h21 fun t85 h22 =>
mg t82 true (fun o17 => bareK (xbin P .eql T.int (.tmp 85) (.const (.int .i64 0)) t85 (.int .i64 0)) h22 o17) h22 fun t86 h23 =>
pickK t82 t86 (.bool false) fun t87 =>
K0 .ret [(6, (get tT_1 8)), (7, t87)] h23) K0)) K0)

noncomputable def s_law_found_b0 (mg : GT) (mc : CT) (ms : ST) (P : Program) (C : CallF) (L0 : Value → Value → Value → Value → Value → AHeap → K → Res) (v1 : Value) (v2 : Value) (v3 : Value) (v8 : Value) (v9 : Value) (H : AHeap) (k : K) : Res :=
bareK (fad 1 v3) H fun t37 h18 =>
bareK (ld1 h18 t37) h18 fun t38 h19 =>
bareK (lenS t38) h19 fun t39 h20 =>
bareK (fad 2 v3) h20 fun t40 h21 =>
bareK (ld1 h21 t40) h21 fun t41 h22 =>
bareK (lenS t41) h22 fun t42 h23 =>
bareK (xbin P .add T.int (.tmp 39) (.tmp 42) t39 t42) h23 fun t43 h24 =>
bareK (xbin P .lss T.int (.tmp 36) (.tmp 43) v9 t43) h24 fun t44 h25 =>
mc t44 (fun k15 => k15 .normal [(1, v1), (2, v2), (3, v3), (8, v8), (9, v9)] h25) (fun k15 =>
k15 (.exit 0) [(44, t44), (43, t43), (42, t42), (41, t41), (40, t40), (39, t39), (38, t38), (37, t37), (36, v9), (1, v1), (2, v2), (3, v3), (8, v8), (9, v9)] h25) (seqK (fun tT h26 =>
ms (fun k16 =>
bareK (fad 1 (get tT 3)) h26 fun t49 h27 =>
bareK (ld1 h27 t49) h27 fun t50 h28 =>
bareK (lenS t50) h28 fun t51 h29 =>
bareK (xbin P .geq T.int (.tmp 48) (.tmp 51) (get tT 9) t51) h29 fun t52 h30 =>
mc t52 (fun k17 => k17 .normal [(1, (get tT 1)), (2, (get tT 2)), (3, (get tT 3)), (8, (get tT 8)), (9, (get tT 9)), (10, (get tT 2))] h30) (fun k17 =>
k17 .normal [(1, (get tT 1)), (2, (get tT 2)), (3, (get tT 3)), (8, (get tT 8)), (9, (get tT 9)), (10, (get tT 1))] h30) (seqK (fun tT_1 h31 =>
bareK (ldN 3 h31 (get tT_1 3)) h31 fun t56 h32 =>
enterK C F.law_kindAt [t56, (get tT_1 9)] h32 fun t58 h33 =>
enterK C F.law_take [(get tT_1 10), t58] h33 fun t59 h34 =>
bareK (xextract t59 0) h34 fun t60 h35 =>
bareK (xextract t59 1) h35 fun t61 h36 =>
bothK (newv T.api_Cell (.agg #[(.int .i64 0), (.int .u64 0), (.int .i64 0), (.string (mk [])), (.bool false)]) h36) fun t11 h37 =>
quietK (stN 5 h37 t11 t60) fun _ h38 =>
bareK (xbin P .eql T.int (.tmp 62) (.const (.int .i64 0)) t61 (.int .i64 0)) h38 fun t63 h39 =>
mc t63 (fun k18 => k18 .ret [(6, (.slice none 0 0)), (7, (.bool false))] h39) (fun k18 =>
k18 .normal [(1, (get tT_1 1)), (2, (get tT_1 2)), (3, (get tT_1 3)), (8, (get tT_1 8)), (9, (get tT_1 9)), (11, t11), (12, t61)] h39) (seqK (fun tT_2 h40 =>
bareK (ldN 5 h40 (get tT_2 11)) h40 fun t65 h41 =>
bothK (bldL T.api_Cell [(.int .i64 0), (.int .u64 0), (.int .i64 0), (.string (mk [])), (.bool false)] 1 [(0, t65)] h41) fun t66 h42 =>
bothK (app T.api_Cell 5 48 (get tT_2 8) (srcS 5 t66 h42) h42) fun t67 h43 =>
bareK (fad 1 (get tT_2 3)) h43 fun t69 h44 =>
bareK (ld1 h44 t69) h44 fun t70 h45 =>
bareK (lenS t70) h45 fun t71 h46 =>
bareK (xbin P .lss T.int (.tmp 68) (.tmp 71) (get tT_2 9) t71) h46 fun t72 h47 =>
mc t72 (fun k19 => bareK (slT (get tT_2 1) (some (get tT_2 12)) none) h47 fun t75 h48 =>
k19 .normal [(1, t75), (2, (get tT_2 2)), (3, (get tT_2 3)), (8, t67), (9, (get tT_2 9))] h48) (fun k19 =>
bareK (slT (get tT_2 2) (some (get tT_2 12)) none) h47 fun t78 h49 =>
k19 .normal [(1, (get tT_2 1)), (2, t78), (3, (get tT_2 3)), (8, t67), (9, (get tT_2 9))] h49) (blkK [1, 2, 3, 8, 9] 1 k16)) (blkK [1, 2, 3, 8, 9] 1 k16))) (blkK [1, 2, 3, 8, 9] 1 k16))) (seqK (fun tT_3 h50 =>
bareK (xbin P .add T.int (.tmp 45) (.const (.int .i64 1)) (get tT_3 9) (.int .i64 1)) h50 fun t46 h51 =>
k .normal [(1, (get tT_3 1)), (2, (get tT_3 2)), (3, (get tT_3 3)), (8, (get tT_3 8)), (9, t46)] h51) (afterK [1, 2, 3, 8, 9] k))) (afterK [1, 2, 3, 8, 9] k))

theorem s_law_found_eq (M : CombL) (C : CallF) (LP : LoopH) (a0 : Value) (a1 : Value) (a2 : Value) (H : AHeap) : dBodyL M Tryd.prog hints C LP F.law_found [a0, a1, a2] H = s_law_found M.b.g M.c M.s Tryd.prog C (fun v1 v2 v3 v8 v9 H k => loopL M Tryd.prog hints C LP F.law_found 0 [(1, v1), (2, v2), (3, v3), (8, v8), (9, v9)] H k) a0 a1 a2 H (endK Tryd.prog [.tmp 6, .tmp 7]) := by kernel_rfl

theorem s_law_found_b0_eq (M : CombL) (C : CallF) (LP : LoopH) (v1 : Value) (v2 : Value) (v3 : Value) (v8 : Value) (v9 : Value) (H : AHeap) (k : K) : bodyL M Tryd.prog hints C LP F.law_found 0 [(1, v1), (2, v2), (3, v3), (8, v8), (9, v9)] H (afterK [1, 2, 3, 8, 9] k) = s_law_found_b0 M.b.g M.c M.s Tryd.prog C (fun v1 v2 v3 v8 v9 H k => loopL M Tryd.prog hints C LP F.law_found 0 [(1, v1), (2, v2), (3, v3), (8, v8), (9, v9)] H k) v1 v2 v3 v8 v9 H k := by kernel_rfl

/-! ticketline.ticketlinelaw40.spans -/

noncomputable def s_law_spans (mg : GT) (mc : CT) (ms : ST) (P : Program) (C : CallF) (a0 : Value) (a1 : Value) (a2 : Value) (a3 : Value) (a4 : Value) (H : AHeap) (K0 : K) : Res :=
bothK (newv T.api_Table a0 H) fun t5 h1 =>
bareK (ldN 3 h1 t5) h1 fun t15 h2 =>
enterK C F.rows_Span [t15, a1] h2 fun t17 h3 =>
bareK (xextract t17 0) h3 fun t18 h4 =>
bareK (xextract t17 1) h4 fun t19 h5 =>
bareK (xextract t17 2) h5 fun t20 h6 =>
bareK (xbin P .eql T.string (.tmp 21) (.tmp 22) t18 a2) h6 fun t23 h7 =>
mg t23 true (fun o1 => o1 t19 h7) h7 fun t25 h8 =>
mg t23 true (fun o2 => o2 a3 h8) h8 fun t26 h9 =>
mg t23 true (fun o3 => bareK (xbin P .eql T.string (.tmp 25) (.tmp 26) t25 t26) h9 o3) h9 fun t27 h10 =>
pickK t23 t27 (.bool false) fun t28 =>
mg t28 true (fun o4 => o4 t20 h10) h10 fun t30 h11 =>
mg t28 true (fun o5 => o5 a4 h11) h11 fun t31 h12 =>
mg t28 true (fun o6 => bareK (xbin P .eql T.int (.tmp 30) (.tmp 31) t30 t31) h12 o6) h12 fun t32 h13 =>
pickK t28 t32 (.bool false) fun t33 =>
K0 .ret [(10, t33)] h13

theorem s_law_spans_eq (M : CombL) (C : CallF) (LP : LoopH) (a0 : Value) (a1 : Value) (a2 : Value) (a3 : Value) (a4 : Value) (H : AHeap) : dBodyL M Tryd.prog hints C LP F.law_spans [a0, a1, a2, a3, a4] H = s_law_spans M.b.g M.c M.s Tryd.prog C a0 a1 a2 a3 a4 H (endK Tryd.prog [.tmp 10]) := by kernel_rfl

/-! ticketline.ticketlinelaw40.behind -/

noncomputable def s_law_behind (mg : GT) (mc : CT) (ms : ST) (P : Program) (C : CallF) (L0 : Value → Value → AHeap → K → Res) (a0 : Value) (H : AHeap) (K0 : K) : Res :=
bareK (lenT a0) H fun t5 h1 =>
bareK (xbin P .sub T.int (.tmp 5) (.const (.int .i64 1)) t5 (.int .i64 1)) h1 fun t6 h2 =>
ms (fun k1 =>
L0 a0 t6 h2 (blkK [] 0 k1)) (seqK (fun tT h3 =>
K0 .ret [(2, (.string (mk [])))] h3) K0)

noncomputable def s_law_behind_b0 (mg : GT) (mc : CT) (ms : ST) (P : Program) (C : CallF) (L0 : Value → Value → AHeap → K → Res) (v0 : Value) (v3 : Value) (H : AHeap) (k : K) : Res :=
bareK (xbin P .geq T.int (.tmp 7) (.const (.int .i64 0)) v3 (.int .i64 0)) H fun t8 h3 =>
mc t8 (fun k2 => k2 .normal [(0, v0), (3, v3)] h3) (fun k2 =>
k2 (.exit 0) [(8, t8), (7, v3), (0, v0), (3, v3)] h3) (seqK (fun tT h4 =>
ms (fun k3 =>
bareK (xindex P T.string (get tT 0) (get tT 3)) h4 fun t13 h5 =>
bareK (xbin P .lss T.uint8 (.tmp 13) (.const (.int .u8 255)) t13 (.int .u8 255)) h5 fun t14 h6 =>
mc t14 (fun k4 => bareK (slT (get tT 0) none (some (get tT 3))) h6 fun t17 h7 =>
bareK (xindex P T.string (get tT 0) (get tT 3)) h7 fun t20 h8 =>
bareK (xbin P .add T.uint8 (.tmp 20) (.const (.int .u8 1)) t20 (.int .u8 1)) h8 fun t21 h9 =>
bothK (bldL T.uint8 [(.int .u8 0)] 1 [(0, t21)] h9) fun t22 h10 =>
bothK (xconv P T.sl_uint8 T.string t22 h10) fun t23 h11 =>
bareK (xbin P .add T.string (.tmp 17) (.tmp 23) t17 t23) h11 fun t24 h12 =>
checkK true <|
k4 .ret [(2, t24)] h12) (fun k4 =>
k4 .normal [(0, (get tT 0)), (3, (get tT 3))] h6) (blkK [0, 3] 1 k3)) (seqK (fun tT_1 h13 =>
bareK (xbin P .sub T.int (.tmp 9) (.const (.int .i64 1)) (get tT_1 3) (.int .i64 1)) h13 fun t10 h14 =>
k .normal [(0, (get tT_1 0)), (3, t10)] h14) (afterK [0, 3] k))) (afterK [0, 3] k))

theorem s_law_behind_eq (M : CombL) (C : CallF) (LP : LoopH) (a0 : Value) (H : AHeap) : dBodyL M Tryd.prog hints C LP F.law_behind [a0] H = s_law_behind M.b.g M.c M.s Tryd.prog C (fun v0 v3 H k => loopL M Tryd.prog hints C LP F.law_behind 0 [(0, v0), (3, v3)] H k) a0 H (endK Tryd.prog [.tmp 2]) := by kernel_rfl

theorem s_law_behind_b0_eq (M : CombL) (C : CallF) (LP : LoopH) (v0 : Value) (v3 : Value) (H : AHeap) (k : K) : bodyL M Tryd.prog hints C LP F.law_behind 0 [(0, v0), (3, v3)] H (afterK [0, 3] k) = s_law_behind_b0 M.b.g M.c M.s Tryd.prog C (fun v0 v3 H k => loopL M Tryd.prog hints C LP F.law_behind 0 [(0, v0), (3, v3)] H k) v0 v3 H k := by kernel_rfl

/-! ticketline.rows.Row -/

noncomputable def s_rows_Row (mg : GT) (mc : CT) (ms : ST) (P : Program) (C : CallF) (a0 : Value) (a1 : Value) (H : AHeap) (K0 : K) : Res :=
bothK (newv T.api_Table a0 H) fun t2 h1 =>
bareK (ldN 3 h1 t2) h1 fun t7 h2 =>
enterK C F.rows_Valid [t7] h2 fun t8 h3 =>
bareK (xun P .not t8) h3 fun t9 h4 =>
mg t9 false (fun o1 => o1 a1 h4) h4 fun t11 h5 =>
mg t9 false (fun o2 => bareK (fad 1 t2) h5 o2) h5 fun t12 h6 =>
mg t9 false (fun o3 => bareK (ld1 h6 t12) h6 o3) h6 fun t13 h7 =>
mg t9 false (fun o4 => bareK (fad 2 t2) h7 o4) h7 fun t14 h8 =>
mg t9 false (fun o5 => bareK (ld1 h8 t14) h8 o5) h8 fun t15 h9 =>
mg t9 false (fun o6 => bothK (bldL T.sl_api_CellKind [(.slice none 0 0)] 2 [(0, t13), (1, t15)] h9) o6) h9 fun t16 h10 =>
mg t9 false (fun o7 => enterK C F.slices_Concat_CellKind [t16] h10 o7) h10 fun t17 h11 =>
mg t9 false (fun o8 => enterK C F.rows_are [t11, t17] h11 o8) h11 fun t18 h12 =>
mg t9 false (fun o9 => bareK (xun P .not t18) h12 o9) h12 fun t19 h13 =>
pickK t9 (.bool true) t19 fun t20 =>
mc t20 (fun k10 => k10 .ret [(4, (.string (mk []))), (5, (.string (mk []))), (6, (.int .i64 2))] h13) (fun k10 =>
k10 .normal [(1, a1), (2, t2)] h13) (seqK (fun tT h14 =>
bareK (fad 0 (get tT 2)) h14 fun t21 h15 =>
bareK (ld1 h15 t21) h15 fun t22 h16 =>
bothK (xconv P T.int T.uint8 t22 h16) fun t23 h17 =>
bothK (bldL T.uint8 [(.int .u8 0)] 1 [(0, t23)] h17) fun t24 h18 =>
bareK (fad 1 (get tT 2)) h18 fun t26 h19 =>
bareK (ld1 h19 t26) h19 fun t27 h20 =>
bareK (lenS t27) h20 fun t28 h21 =>
bareK (slS T.api_Cell 5 (get tT 1) none (some t28) none h21) h21 fun t29 h22 =>
enterK C F.rows_puts [t24, t29] h22 fun t30 h23 =>
bareK (fad 1 (get tT 2)) h23 fun t32 h24 =>
bareK (ld1 h24 t32) h24 fun t33 h25 =>
bareK (lenS t33) h25 fun t34 h26 =>
bareK (slS T.api_Cell 5 (get tT 1) (some t34) none none h26) h26 fun t35 h27 =>
enterK C F.rows_puts [(.slice none 0 0), t35] h27 fun t36 h28 =>
checkK (okV (some true) none h22 h23 h23 h23 && (okV (some true) none h22 h23 h23 h24 && (okV (some true) (blockOf t32) h22 h23 h24 h25 && (okV (some true) none h22 h23 h25 h26 && (okV (some true) (blockOf (get tT 1)) h22 h23 h26 h27 && true))))) <|
bareK (lenT t30) h28 fun t38 h29 =>
bareK (xbin P .gtr T.int (.tmp 38) (.const (.int .i64 24)) t38 (.int .i64 24)) h29 fun t39 h30 =>
mg t39 false (fun o11 => o11 t36 h30) h30 fun t41 h31 =>
mg t39 false (fun o12 => bareK (lenT t41) h31 o12) h31 fun t42 h32 =>
mg t39 false (fun o13 => bareK (xbin P .gtr T.int (.tmp 42) (.const (.int .i64 40)) t42 (.int .i64 40)) h32 o13) h32 fun t43 h33 =>
pickK t39 (.bool true) t43 fun t44 =>
mc t44 (fun k14 => k14 .ret [(4, (.string (mk []))), (5, (.string (mk []))), (6, (.int .i64 5))] h33) (fun k14 =>
k14 .normal [(4, t30), (5, t36)] h33) (seqK (fun tT_1 h34 =>
K0 .ret [(4, (get tT_1 4)), (5, (get tT_1 5)), (6, (.int .i64 0))] h34) K0)) K0)

theorem s_rows_Row_eq (M : CombL) (C : CallF) (LP : LoopH) (a0 : Value) (a1 : Value) (H : AHeap) : dBodyL M Tryd.prog hints C LP F.rows_Row [a0, a1] H = s_rows_Row M.b.g M.c M.s Tryd.prog C a0 a1 H (endK Tryd.prog [.tmp 4, .tmp 5, .tmp 6]) := by kernel_rfl

/-! ticketline.rows.Compare -/

noncomputable def s_rows_Compare (mg : GT) (mc : CT) (ms : ST) (P : Program) (C : CallF) (a0 : Value) (a1 : Value) (H : AHeap) (K0 : K) : Res :=
bothK (newv T.api_Cell a0 H) fun t2 h1 =>
bothK (newv T.api_Cell a1 h1) fun t3 h2 =>
bareK (fad 0 t2) h2 fun t5 h3 =>
bareK (ld1 h3 t5) h3 fun t6 h4 =>
bareK (fad 0 t3) h4 fun t7 h5 =>
bareK (ld1 h5 t7) h5 fun t8 h6 =>
bareK (xbin P .neq T.api_CellKind (.tmp 6) (.tmp 8) t6 t8) h6 fun t9 h7 =>
mc t9 (fun k1 => k1 .ret [(4, (.int .i64 0))] h7) (fun k1 =>
k1 .normal [(2, t2), (3, t3)] h7) (seqK (fun tT h8 =>
bareK (fad 0 (get tT 2)) h8 fun t10 h9 =>
bareK (ld1 h9 t10) h9 fun t11 h10 =>
ms (fun k2 =>
bareK (xbin P .eql T.api_CellKind (.tmp 11) (.const (.int .i64 1)) t11 (.int .i64 1)) h10 fun t13 h11 =>
mc t13 (fun k3 => bareK (fad 1 (get tT 2)) h11 fun t14 h12 =>
bareK (ld1 h12 t14) h12 fun t15 h13 =>
bareK (fad 1 (get tT 3)) h13 fun t16 h14 =>
bareK (ld1 h14 t16) h14 fun t17 h15 =>
enterK C F.cmp_Compare_uint64 [t15, t17] h15 fun t18 h16 =>
k3 .ret [(4, t18)] h16) (fun k3 =>
bareK (xbin P .eql T.api_CellKind (.tmp 11) (.const (.int .i64 2)) t11 (.int .i64 2)) h11 fun t20 h17 =>
mc t20 (fun k4 => bareK (fad 2 (get tT 2)) h17 fun t21 h18 =>
bareK (ld1 h18 t21) h18 fun t22 h19 =>
bareK (fad 2 (get tT 3)) h19 fun t23 h20 =>
bareK (ld1 h20 t23) h20 fun t24 h21 =>
enterK C F.cmp_Compare_int [t22, t24] h21 fun t25 h22 =>
k4 .ret [(4, t25)] h22) (fun k4 =>
bareK (xbin P .eql T.api_CellKind (.tmp 11) (.const (.int .i64 3)) t11 (.int .i64 3)) h17 fun t27 h23 =>
mc t27 (fun k5 => bareK (fad 3 (get tT 2)) h23 fun t28 h24 =>
bareK (ld1 h24 t28) h24 fun t29 h25 =>
bareK (fad 3 (get tT 3)) h25 fun t30 h26 =>
bareK (ld1 h26 t30) h26 fun t31 h27 =>
enterK C F.cmp_Compare_string [t29, t31] h27 fun t32 h28 =>
k5 .ret [(4, t32)] h28) (fun k5 =>
bareK (xbin P .eql T.api_CellKind (.tmp 11) (.const (.int .i64 4)) t11 (.int .i64 4)) h23 fun t34 h29 =>
mc t34 (fun k6 => ms (fun k7 =>
bareK (fad 4 (get tT 2)) h29 fun t36 h30 =>
bareK (ld1 h30 t36) h30 fun t37 h31 =>
bareK (fad 4 (get tT 3)) h31 fun t38 h32 =>
bareK (ld1 h32 t38) h32 fun t39 h33 =>
bareK (xbin P .eql T.bool (.tmp 37) (.tmp 39) t37 t39) h33 fun t40 h34 =>
mc t40 (fun k8 => k8 .ret [(4, (.int .i64 0))] h34) (fun k8 =>
bareK (fad 4 (get tT 3)) h34 fun t42 h35 =>
bareK (ld1 h35 t42) h35 fun t43 h36 =>
mc t43 (fun k9 => k9 .ret [(4, (.int .i64 (-1)))] h36) (fun k9 =>
k9 .normal [] h36) (afterK [] k8)) (blkK [] 1 k7)) (seqK (fun tT_1 h37 =>
k6 .ret [(4, (.int .i64 1))] h37) (afterK [] k6))) (fun k6 =>
k6 .normal [] h29) (afterK [] k5)) (afterK [] k4)) (afterK [] k3)) (blkK [] 0 k2)) (seqK (fun tT_2 h38 =>
K0 .ret [(4, (.int .i64 0))] h38) K0)) K0)

theorem s_rows_Compare_eq (M : CombL) (C : CallF) (LP : LoopH) (a0 : Value) (a1 : Value) (H : AHeap) : dBodyL M Tryd.prog hints C LP F.rows_Compare [a0, a1] H = s_rows_Compare M.b.g M.c M.s Tryd.prog C a0 a1 H (endK Tryd.prog [.tmp 4]) := by kernel_rfl

/-! ticketline.rows.Span -/

noncomputable def s_rows_Span (mg : GT) (mc : CT) (ms : ST) (P : Program) (C : CallF) (L0 : Value → Value → AHeap → K → Res) (a0 : Value) (a1 : Value) (H : AHeap) (K0 : K) : Res :=
bothK (newv T.api_Table a0 H) fun t2 h1 =>
bareK (ldN 3 h1 t2) h1 fun t8 h2 =>
enterK C F.rows_Valid [t8] h2 fun t9 h3 =>
bareK (xun P .not t9) h3 fun t10 h4 =>
mg t10 false (fun o1 => o1 a1 h4) h4 fun t12 h5 =>
mg t10 false (fun o2 => bareK (lenS t12) h5 o2) h5 fun t13 h6 =>
mg t10 false (fun o3 => bareK (fad 1 t2) h6 o3) h6 fun t14 h7 =>
mg t10 false (fun o4 => bareK (ld1 h7 t14) h7 o4) h7 fun t15 h8 =>
mg t10 false (fun o5 => bareK (lenS t15) h8 o5) h8 fun t16 h9 =>
mg t10 false (fun o6 => bareK (xbin P .gtr T.int (.tmp 13) (.tmp 16) t13 t16) h9 o6) h9 fun t17 h10 =>
pickK t10 (.bool true) t17 fun t18 =>
mg t18 false (fun o7 => o7 a1 h10) h10 fun t20 h11 =>
mg t18 false (fun o8 => bareK (fad 1 t2) h11 o8) h11 fun t21 h12 =>
mg t18 false (fun o9 => bareK (ld1 h12 t21) h12 o9) h12 fun t22 h13 =>
mg t18 false (fun o10 => o10 a1 h13) h13 fun t23 h14 =>
mg t18 false (fun o11 => bareK (lenS t23) h14 o11) h14 fun t24 h15 =>
mg t18 false (fun o12 => bareK (slS T.api_CellKind 1 t22 none (some t24) none h15) h15 o12) h15 fun t25 h16 =>
mg t18 false (fun o13 => enterK C F.rows_are [t20, t25] h16 o13) h16 fun t26 h17 =>
mg t18 false (fun o14 => bareK (xun P .not t26) h17 o14) h17 fun t27 h18 =>
pickK t18 (.bool true) t27 fun t28 =>
mc t28 (fun k15 => k15 .ret [(4, (.string (mk []))), (5, (.string (mk []))), (6, (.int .i64 2))] h18) (fun k15 =>
k15 .normal [(1, a1), (2, t2)] h18) (seqK (fun tT h19 =>
bareK (fad 0 (get tT 2)) h19 fun t29 h20 =>
bareK (ld1 h20 t29) h20 fun t30 h21 =>
bothK (xconv P T.int T.uint8 t30 h21) fun t31 h22 =>
bothK (bldL T.uint8 [(.int .u8 0)] 1 [(0, t31)] h22) fun t32 h23 =>
enterK C F.rows_puts [t32, (get tT 1)] h23 fun t34 h24 =>
bareK (lenT t34) h24 fun t36 h25 =>
bareK (xbin P .gtr T.int (.tmp 36) (.const (.int .i64 24)) t36 (.int .i64 24)) h25 fun t37 h26 =>
mc t37 (fun k16 => k16 .ret [(4, (.string (mk []))), (5, (.string (mk []))), (6, (.int .i64 5))] h26) (fun k16 =>
k16 .normal [(4, t34)] h26) (seqK (fun tT_1 h27 =>
bothK (xconv P T.string T.sl_uint8 (get tT_1 4) h27) fun t39 h28 =>
ms (fun k17 =>
L0 (get tT_1 4) t39 h28 (blkK [4, 7] 0 k17)) (seqK (fun tT_2 h29 =>
bareK (lenS (get tT_2 7)) h29 fun t58 h30 =>
bareK (xbin P .gtr T.int (.tmp 58) (.const (.int .i64 0)) t58 (.int .i64 0)) h30 fun t59 h31 =>
mc t59 (fun k18 => bareK (lenS (get tT_2 7)) h31 fun t62 h32 =>
bareK (xbin P .sub T.int (.tmp 62) (.const (.int .i64 1)) t62 (.int .i64 1)) h32 fun t63 h33 =>
bareK (ixS 1 (get tT_2 7) t63) h33 fun t64 h34 =>
bareK (ld1 h34 t64) h34 fun t65 h35 =>
bareK (xbin P .add T.uint8 (.tmp 65) (.const (.int .u8 1)) t65 (.int .u8 1)) h35 fun t66 h36 =>
bareK (ixS 1 (get tT_2 7) t63) h36 fun t67 h37 =>
quietK (st1 h37 t67 t66) fun _ h38 =>
k18 .normal [(4, (get tT_2 4)), (7, (get tT_2 7))] h38) (fun k18 =>
k18 .normal [(4, (get tT_2 4)), (7, (get tT_2 7))] h31) (seqK (fun tT_3 h39 =>
bothK (xconv P T.sl_uint8 T.string (get tT_3 7) h39) fun t70 h40 =>
checkK true <|
K0 .ret [(4, (get tT_3 4)), (5, t70), (6, (.int .i64 0))] h40) K0)) K0)) K0)) K0)

noncomputable def s_rows_Span_b0 (mg : GT) (mc : CT) (ms : ST) (P : Program) (C : CallF) (L0 : Value → Value → AHeap → K → Res) (v4 : Value) (v7 : Value) (H : AHeap) (k : K) : Res :=
bareK (lenS v7) H fun t41 h29 =>
bareK (xbin P .gtr T.int (.tmp 41) (.const (.int .i64 0)) t41 (.int .i64 0)) h29 fun t42 h30 =>
mg t42 true (fun o18 => o18 v7 h30) h30 fun t44 h31 =>
mg t42 true (fun o19 => o19 v7 h31) h31 fun t45 h32 =>
mg t42 true (fun o20 => bareK (lenS t45) h32 o20) h32 fun t46 h33 =>
mg t42 true (fun o21 => bareK (xbin P .sub T.int (.tmp 46) (.const (.int .i64 1)) t46 (.int .i64 1)) h33 o21) h33 fun t47 h34 =>
mg t42 true (fun o22 => bareK (ixS 1 t44 t47) h34 o22) h34 fun t48 h35 =>
mg t42 true (fun o23 => bareK (ld1 h35 t48) h35 o23) h35 fun t49 h36 =>
mg t42 true (fun o24 => bareK (xbin P .eql T.uint8 (.tmp 49) (.const (.int .u8 255)) t49 (.int .u8 255)) h36 o24) h36 fun t50 h37 =>
pickK t42 t50 (.bool false) fun t51 =>
mc t51 (fun k25 => k25 .normal [(4, v4), (7, v7)] h37) (fun k25 =>
k25 (.exit 0) [(51, t51), (50, t50), (49, t49), (48, t48), (47, t47), (46, t46), (45, t45), (44, t44), (43, t42), (42, t42), (41, t41), (40, v7), (4, v4), (7, v7)] h37) (seqK (fun tT h38 =>
ms (fun k26 =>
bareK (lenS (get tT 7)) h38 fun t54 h39 =>
bareK (xbin P .sub T.int (.tmp 54) (.const (.int .i64 1)) t54 (.int .i64 1)) h39 fun t55 h40 =>
bareK (slS T.uint8 1 (get tT 7) none (some t55) none h40) h40 fun t56 h41 =>
k26 .normal [(4, (get tT 4)), (7, t56)] h41) (afterK [4, 7] k)) (afterK [4, 7] k))

theorem s_rows_Span_eq (M : CombL) (C : CallF) (LP : LoopH) (a0 : Value) (a1 : Value) (H : AHeap) : dBodyL M Tryd.prog hints C LP F.rows_Span [a0, a1] H = s_rows_Span M.b.g M.c M.s Tryd.prog C (fun v4 v7 H k => loopL M Tryd.prog hints C LP F.rows_Span 0 [(4, v4), (7, v7)] H k) a0 a1 H (endK Tryd.prog [.tmp 4, .tmp 5, .tmp 6]) := by kernel_rfl

theorem s_rows_Span_b0_eq (M : CombL) (C : CallF) (LP : LoopH) (v4 : Value) (v7 : Value) (H : AHeap) (k : K) : bodyL M Tryd.prog hints C LP F.rows_Span 0 [(4, v4), (7, v7)] H (afterK [4, 7] k) = s_rows_Span_b0 M.b.g M.c M.s Tryd.prog C (fun v4 v7 H k => loopL M Tryd.prog hints C LP F.rows_Span 0 [(4, v4), (7, v7)] H k) v4 v7 H k := by kernel_rfl

/-! ticketline.ticketlinelaw40.same -/

noncomputable def s_law_same (mg : GT) (mc : CT) (ms : ST) (P : Program) (C : CallF) (L0 : Value → Value → Value → AHeap → K → Res) (a0 : Value) (a1 : Value) (H : AHeap) (K0 : K) : Res :=
bareK (lenS a0) H fun t7 h1 =>
bareK (lenS a1) h1 fun t9 h2 =>
bareK (xbin P .neq T.int (.tmp 7) (.tmp 9) t7 t9) h2 fun t10 h3 =>
mc t10 (fun k1 => k1 .ret [(4, (.bool false))] h3) (fun k1 =>
k1 .normal [(0, a0), (1, a1)] h3) (seqK (fun tT h4 =>
ms (fun k2 =>
L0 (get tT 0) (get tT 1) (.int .i64 0) h4 (blkK [] 0 k2)) (seqK (fun tT_1 h5 =>
K0 .ret [(4, (.bool true))] h5) K0)) K0)

noncomputable def s_law_same_b0 (mg : GT) (mc : CT) (ms : ST) (P : Program) (C : CallF) (L0 : Value → Value → Value → AHeap → K → Res) (v0 : Value) (v1 : Value) (v5 : Value) (H : AHeap) (k : K) : Res :=
bareK (lenS v0) H fun t13 h5 =>
bareK (xbin P .lss T.int (.tmp 11) (.tmp 13) v5 t13) h5 fun t14 h6 =>
mc t14 (fun k3 => k3 .normal [(0, v0), (1, v1), (5, v5)] h6) (fun k3 =>
k3 (.exit 0) [(14, t14), (13, t13), (12, v0), (11, v5), (0, v0), (1, v1), (5, v5)] h6) (seqK (fun tT h7 =>
ms (fun k4 =>
bareK (ixS 5 (get tT 0) (get tT 5)) h7 fun t19 h8 =>
bareK (ldN 5 h8 t19) h8 fun t20 h9 =>
bareK (ixS 5 (get tT 1) (get tT 5)) h9 fun t23 h10 =>
bareK (ldN 5 h10 t23) h10 fun t24 h11 =>
bareK (xbin P .neq T.api_Cell (.tmp 20) (.tmp 24) t20 t24) h11 fun t25 h12 =>
checkK true <|
mc t25 (fun k5 => k5 .ret [(4, (.bool false))] h12) (fun k5 =>
k5 .normal [(0, (get tT 0)), (1, (get tT 1)), (5, (get tT 5))] h12) (blkK [0, 1, 5] 1 k4)) (seqK (fun tT_1 h13 =>
bareK (xbin P .add T.int (.tmp 15) (.const (.int .i64 1)) (get tT_1 5) (.int .i64 1)) h13 fun t16 h14 =>
k .normal [(0, (get tT_1 0)), (1, (get tT_1 1)), (5, t16)] h14) (afterK [0, 1, 5] k))) (afterK [0, 1, 5] k))

theorem s_law_same_eq (M : CombL) (C : CallF) (LP : LoopH) (a0 : Value) (a1 : Value) (H : AHeap) : dBodyL M Tryd.prog hints C LP F.law_same [a0, a1] H = s_law_same M.b.g M.c M.s Tryd.prog C (fun v0 v1 v5 H k => loopL M Tryd.prog hints C LP F.law_same 0 [(0, v0), (1, v1), (5, v5)] H k) a0 a1 H (endK Tryd.prog [.tmp 4]) := by kernel_rfl

theorem s_law_same_b0_eq (M : CombL) (C : CallF) (LP : LoopH) (v0 : Value) (v1 : Value) (v5 : Value) (H : AHeap) (k : K) : bodyL M Tryd.prog hints C LP F.law_same 0 [(0, v0), (1, v1), (5, v5)] H (afterK [0, 1, 5] k) = s_law_same_b0 M.b.g M.c M.s Tryd.prog C (fun v0 v1 v5 H k => loopL M Tryd.prog hints C LP F.law_same 0 [(0, v0), (1, v1), (5, v5)] H k) v0 v1 v5 H k := by kernel_rfl

/-! ticketline.rows.Valid -/

noncomputable def s_rows_Valid (mg : GT) (mc : CT) (ms : ST) (P : Program) (C : CallF) (a0 : Value) (H : AHeap) (K0 : K) : Res :=
bothK (newv T.api_Table a0 H) fun t1 h1 =>
bareK (fad 0 t1) h1 fun t3 h2 =>
bareK (ld1 h2 t3) h2 fun t4 h3 =>
bareK (xbin P .geq T.int (.tmp 4) (.const (.int .i64 1)) t4 (.int .i64 1)) h3 fun t5 h4 =>
mg t5 true (fun o1 => bareK (fad 0 t1) h4 o1) h4 fun t7 h5 =>
mg t5 true (fun o2 => bareK (ld1 h5 t7) h5 o2) h5 fun t8 h6 =>
mg t5 true (fun o3 => bareK (xbin P .leq T.int (.tmp 8) (.const (.int .i64 255)) t8 (.int .i64 255)) h6 o3) h6 fun t9 h7 =>
pickK t5 t9 (.bool false) fun t10 =>
mg t10 true (fun o4 => bareK (fad 1 t1) h7 o4) h7 fun t12 h8 =>
mg t10 true (fun o5 => bareK (ld1 h8 t12) h8 o5) h8 fun t13 h9 =>
mg t10 true (fun o6 => bareK (lenS t13) h9 o6) h9 fun t14 h10 =>
mg t10 true (fun o7 => bareK (xbin P .geq T.int (.tmp 14) (.const (.int .i64 1)) t14 (.int .i64 1)) h10 o7) h10 fun t15 h11 =>
pickK t10 t15 (.bool false) fun t16 =>
mg t16 true (fun o8 => bareK (fad 1 t1) h11 o8) h11 fun t18 h12 =>
mg t16 true (fun o9 => bareK (ld1 h12 t18) h12 o9) h12 fun t19 h13 =>
mg t16 true (fun o10 => bareK (lenS t19) h13 o10) h13 fun t20 h14 =>
mg t16 true (fun o11 => bareK (xbin P .leq T.int (.tmp 20) (.const (.int .i64 8)) t20 (.int .i64 8)) h14 o11) h14 fun t21 h15 =>
pickK t16 t21 (.bool false) fun t22 =>
mg t22 true (fun o12 => bareK (fad 2 t1) h15 o12) h15 fun t24 h16 =>
mg t22 true (fun o13 => bareK (ld1 h16 t24) h16 o13) h16 fun t25 h17 =>
mg t22 true (fun o14 => bareK (lenS t25) h17 o14) h17 fun t26 h18 =>
mg t22 true (fun o15 => bareK (xbin P .leq T.int (.tmp 26) (.const (.int .i64 8)) t26 (.int .i64 8)) h18 o15) h18 fun t27 h19 =>
pickK t22 t27 (.bool false) fun t28 =>
mg t28 true (fun o16 => bareK (fad 1 t1) h19 o16) h19 fun t30 h20 =>
mg t28 true (fun o17 => bareK (ld1 h20 t30) h20 o17) h20 fun t31 h21 =>
mg t28 true (fun o18 => bareK (fad 2 t1) h21 o18) h21 fun t32 h22 =>
mg t28 true (fun o19 => bareK (ld1 h22 t32) h22 o19) h22 fun t33 h23 =>
mg t28 true (fun o20 => bothK (bldL T.sl_api_CellKind [(.slice none 0 0)] 2 [(0, t31), (1, t33)] h23) o20) h23 fun t34 h24 =>
mg t28 true (fun o21 => enterK C F.slices_Concat_CellKind [t34] h24 o21) h24 fun t35 h25 =>
mg t28 true (fun o22 => enterK C F.slices_ContainsFunc_CellKind [t35, (.func (.func F.rows_Valid_1) #[] #[])] h25 o22) h25 fun t36 h26 =>
mg t28 true (fun o23 => bareK (xun P .not t36) h26 o23) h26 fun t37 h27 =>
pickK t28 t37 (.bool false) fun t38 =>
K0 .ret [(2, t38)] h27

theorem s_rows_Valid_eq (M : CombL) (C : CallF) (LP : LoopH) (a0 : Value) (H : AHeap) : dBodyL M Tryd.prog hints C LP F.rows_Valid [a0] H = s_rows_Valid M.b.g M.c M.s Tryd.prog C a0 H (endK Tryd.prog [.tmp 2]) := by kernel_rfl

/-! ticketline.ticketlinelaw40.row -/

noncomputable def s_law_row (mg : GT) (mc : CT) (ms : ST) (P : Program) (C : CallF) (a0 : Value) (a1 : Value) (a2 : Value) (a3 : Value) (a4 : Value) (H : AHeap) (K0 : K) : Res :=
bothK (newv T.api_Table a0 H) fun t5 h1 =>
bareK (ldN 3 h1 t5) h1 fun t15 h2 =>
enterK C F.rows_Row [t15, a1] h2 fun t17 h3 =>
bareK (xextract t17 0) h3 fun t18 h4 =>
bareK (xextract t17 1) h4 fun t19 h5 =>
bareK (xextract t17 2) h5 fun t20 h6 =>
bareK (xbin P .eql T.string (.tmp 21) (.tmp 22) t18 a2) h6 fun t23 h7 =>
mg t23 true (fun o1 => o1 t19 h7) h7 fun t25 h8 =>
mg t23 true (fun o2 => o2 a3 h8) h8 fun t26 h9 =>
mg t23 true (fun o3 => bareK (xbin P .eql T.string (.tmp 25) (.tmp 26) t25 t26) h9 o3) h9 fun t27 h10 =>
pickK t23 t27 (.bool false) fun t28 =>
mg t28 true (fun o4 => o4 t20 h10) h10 fun t30 h11 =>
mg t28 true (fun o5 => o5 a4 h11) h11 fun t31 h12 =>
mg t28 true (fun o6 => bareK (xbin P .eql T.int (.tmp 30) (.tmp 31) t30 t31) h12 o6) h12 fun t32 h13 =>
pickK t28 t32 (.bool false) fun t33 =>
K0 .ret [(10, t33)] h13

theorem s_law_row_eq (M : CombL) (C : CallF) (LP : LoopH) (a0 : Value) (a1 : Value) (a2 : Value) (a3 : Value) (a4 : Value) (H : AHeap) : dBodyL M Tryd.prog hints C LP F.law_row [a0, a1, a2, a3, a4] H = s_law_row M.b.g M.c M.s Tryd.prog C a0 a1 a2 a3 a4 H (endK Tryd.prog [.tmp 10]) := by kernel_rfl

/-! ticketline.ticketlinelaw40.keyed -/

noncomputable def s_law_keyed (mg : GT) (mc : CT) (ms : ST) (P : Program) (C : CallF) (a0 : Value) (a1 : Value) (a2 : Value) (a3 : Value) (H : AHeap) (K0 : K) : Res :=
bothK (newv T.api_Table a0 H) fun t4 h1 =>
bareK (ldN 3 h1 t4) h1 fun t12 h2 =>
enterK C F.rows_Key [t12, a1] h2 fun t14 h3 =>
bareK (xextract t14 0) h3 fun t15 h4 =>
bareK (xextract t14 1) h4 fun t16 h5 =>
bareK (xbin P .eql T.string (.tmp 17) (.tmp 18) t15 a2) h5 fun t19 h6 =>
mg t19 true (fun o1 => o1 t16 h6) h6 fun t21 h7 =>
mg t19 true (fun o2 => o2 a3 h7) h7 fun t22 h8 =>
mg t19 true (fun o3 => bareK (xbin P .eql T.int (.tmp 21) (.tmp 22) t21 t22) h8 o3) h8 fun t23 h9 =>
pickK t19 t23 (.bool false) fun t24 =>
K0 .ret [(8, t24)] h9

theorem s_law_keyed_eq (M : CombL) (C : CallF) (LP : LoopH) (a0 : Value) (a1 : Value) (a2 : Value) (a3 : Value) (H : AHeap) : dBodyL M Tryd.prog hints C LP F.law_keyed [a0, a1, a2, a3] H = s_law_keyed M.b.g M.c M.s Tryd.prog C a0 a1 a2 a3 H (endK Tryd.prog [.tmp 8]) := by kernel_rfl

/-! ticketline.ticketlinelaw40.order -/

noncomputable def s_law_order (mg : GT) (mc : CT) (ms : ST) (P : Program) (C : CallF) (a0 : Value) (a1 : Value) (H : AHeap) (K0 : K) : Res :=
bothK (newv T.api_Cell a0 H) fun t2 h1 =>
bothK (newv T.api_Cell a1 h1) fun t3 h2 =>
bareK (fad 0 t2) h2 fun t7 h3 =>
bareK (ld1 h3 t7) h3 fun t8 h4 =>
bareK (fad 0 t3) h4 fun t9 h5 =>
bareK (ld1 h5 t9) h5 fun t10 h6 =>
bareK (xbin P .eql T.api_CellKind (.tmp 8) (.tmp 10) t8 t10) h6 fun t11 h7 =>
mc t11 (fun k1 => bareK (fad 0 t2) h7 fun t12 h8 =>
bareK (ld1 h8 t12) h8 fun t13 h9 =>
ms (fun k2 =>
bareK (xbin P .eql T.api_CellKind (.tmp 13) (.const (.int .i64 1)) t13 (.int .i64 1)) h9 fun t15 h10 =>
mc t15 (fun k3 => bareK (fad 1 t2) h10 fun t16 h11 =>
bareK (ld1 h11 t16) h11 fun t17 h12 =>
bareK (fad 1 t3) h12 fun t18 h13 =>
bareK (ld1 h13 t18) h13 fun t19 h14 =>
bareK (xbin P .lss T.uint64 (.tmp 17) (.tmp 19) t17 t19) h14 fun t20 h15 =>
bareK (fad 1 t2) h15 fun t21 h16 =>
bareK (ld1 h16 t21) h16 fun t22 h17 =>
bareK (fad 1 t3) h17 fun t23 h18 =>
bareK (ld1 h18 t23) h18 fun t24 h19 =>
bareK (xbin P .gtr T.uint64 (.tmp 22) (.tmp 24) t22 t24) h19 fun t25 h20 =>
checkK true <|
k3 .normal [(5, t20), (6, t25)] h20) (fun k3 =>
bareK (xbin P .eql T.api_CellKind (.tmp 13) (.const (.int .i64 2)) t13 (.int .i64 2)) h10 fun t27 h21 =>
mc t27 (fun k4 => bareK (fad 2 t2) h21 fun t28 h22 =>
bareK (ld1 h22 t28) h22 fun t29 h23 =>
bareK (fad 2 t3) h23 fun t30 h24 =>
bareK (ld1 h24 t30) h24 fun t31 h25 =>
bareK (xbin P .lss T.int (.tmp 29) (.tmp 31) t29 t31) h25 fun t32 h26 =>
bareK (fad 2 t2) h26 fun t33 h27 =>
bareK (ld1 h27 t33) h27 fun t34 h28 =>
bareK (fad 2 t3) h28 fun t35 h29 =>
bareK (ld1 h29 t35) h29 fun t36 h30 =>
bareK (xbin P .gtr T.int (.tmp 34) (.tmp 36) t34 t36) h30 fun t37 h31 =>
checkK true <|
k4 .normal [(5, t32), (6, t37)] h31) (fun k4 =>
bareK (xbin P .eql T.api_CellKind (.tmp 13) (.const (.int .i64 3)) t13 (.int .i64 3)) h21 fun t39 h32 =>
mc t39 (fun k5 => bareK (fad 3 t2) h32 fun t40 h33 =>
bareK (ld1 h33 t40) h33 fun t41 h34 =>
bareK (fad 3 t3) h34 fun t42 h35 =>
bareK (ld1 h35 t42) h35 fun t43 h36 =>
bareK (xbin P .lss T.string (.tmp 41) (.tmp 43) t41 t43) h36 fun t44 h37 =>
bareK (fad 3 t2) h37 fun t45 h38 =>
bareK (ld1 h38 t45) h38 fun t46 h39 =>
bareK (fad 3 t3) h39 fun t47 h40 =>
bareK (ld1 h40 t47) h40 fun t48 h41 =>
bareK (xbin P .gtr T.string (.tmp 46) (.tmp 48) t46 t48) h41 fun t49 h42 =>
checkK true <|
k5 .normal [(5, t44), (6, t49)] h42) (fun k5 =>
bareK (xbin P .eql T.api_CellKind (.tmp 13) (.const (.int .i64 4)) t13 (.int .i64 4)) h32 fun t51 h43 =>
mc t51 (fun k6 => bareK (fad 4 t2) h43 fun t52 h44 =>
bareK (ld1 h44 t52) h44 fun t53 h45 =>
bareK (xun P .not t53) h45 fun t54 h46 =>
mg t54 true (fun o7 => bareK (fad 4 t3) h46 o7) h46 fun t56 h47 =>
mg t54 true (fun o8 => bareK (ld1 h47 t56) h47 o8) h47 fun t57 h48 =>
pickK t54 t57 (.bool false) fun t58 =>
bareK (fad 4 t2) h48 fun t59 h49 =>
bareK (ld1 h49 t59) h49 fun t60 h50 =>
mg t60 true (fun o9 => bareK (fad 4 t3) h50 o9) h50 fun t62 h51 =>
mg t60 true (fun o10 => bareK (ld1 h51 t62) h51 o10) h51 fun t63 h52 =>
mg t60 true (fun o11 => bareK (xun P .not t63) h52 o11) h52 fun t64 h53 =>
pickK t60 t64 (.bool false) fun t65 =>
checkK true <|
k6 .normal [(5, t58), (6, t65)] h53) (fun k6 =>
k6 .normal [(5, (.bool false)), (6, (.bool false))] h43) (afterK [5, 6] k5)) (afterK [5, 6] k4)) (afterK [5, 6] k3)) (blkK [5, 6] 0 k2)) (afterK [5, 6] k1)) (fun k1 =>
k1 .normal [(5, (.bool false)), (6, (.bool false))] h7) (seqK (fun tT h54 =>
mc (get tT 5) (fun k12 => k12 .ret [(4, (.int .i64 (-1)))] h54) (fun k12 =>
k12 .normal [(6, (get tT 6))] h54) (seqK (fun tT_1 h55 =>
mc (get tT_1 6) (fun k13 => k13 .ret [(4, (.int .i64 1))] h55) (fun k13 =>
k13 .normal [] h55) (seqK (fun tT_2 h56 =>
K0 .ret [(4, (.int .i64 0))] h56) K0)) K0)) K0)

theorem s_law_order_eq (M : CombL) (C : CallF) (LP : LoopH) (a0 : Value) (a1 : Value) (H : AHeap) : dBodyL M Tryd.prog hints C LP F.law_order [a0, a1] H = s_law_order M.b.g M.c M.s Tryd.prog C a0 a1 H (endK Tryd.prog [.tmp 4]) := by kernel_rfl

/-! ticketline.rows.Equal -/

noncomputable def s_rows_Equal (mg : GT) (mc : CT) (ms : ST) (P : Program) (C : CallF) (a0 : Value) (a1 : Value) (H : AHeap) (K0 : K) : Res :=
enterK C F.slices_Equal_Cell [a0, a1] H fun t7 h1 =>
K0 .ret [(4, t7)] h1

theorem s_rows_Equal_eq (M : CombL) (C : CallF) (LP : LoopH) (a0 : Value) (a1 : Value) (H : AHeap) : dBodyL M Tryd.prog hints C LP F.rows_Equal [a0, a1] H = s_rows_Equal M.b.g M.c M.s Tryd.prog C a0 a1 H (endK Tryd.prog [.tmp 4]) := by kernel_rfl

/-! ticketline.ticketlinelaw40.number -/

noncomputable def s_law_number (mg : GT) (mc : CT) (ms : ST) (P : Program) (C : CallF) (a0 : Value) (H : AHeap) (K0 : K) : Res :=
bothK (newv T.api_Cell (.agg #[(.int .i64 0), (.int .u64 0), (.int .i64 0), (.string (mk [])), (.bool false)]) H) fun t2 h1 =>
bareK (bldS #[(.int .i64 0), (.int .u64 0), (.int .i64 0), (.string (mk [])), (.bool false)] [(0, 1), (1, 1), (2, 1), (3, 1), (4, 1)] [(0, (.int .i64 1)), (1, a0)]) h1 fun t4 h2 =>
quietK (stN 5 h2 t2 t4) fun _ h3 =>
K0 .ret [(2, t2)] h3

theorem s_law_number_eq (M : CombL) (C : CallF) (LP : LoopH) (a0 : Value) (H : AHeap) : dBodyL M Tryd.prog hints C LP F.law_number [a0] H = s_law_number M.b.g M.c M.s Tryd.prog C a0 H (endK Tryd.prog [.cell 2 T.api_Cell]) := by kernel_rfl

/-! ticketline.ticketlinelaw40.text -/

noncomputable def s_law_text (mg : GT) (mc : CT) (ms : ST) (P : Program) (C : CallF) (a0 : Value) (H : AHeap) (K0 : K) : Res :=
bothK (newv T.api_Cell (.agg #[(.int .i64 0), (.int .u64 0), (.int .i64 0), (.string (mk [])), (.bool false)]) H) fun t2 h1 =>
bareK (bldS #[(.int .i64 0), (.int .u64 0), (.int .i64 0), (.string (mk [])), (.bool false)] [(0, 1), (1, 1), (2, 1), (3, 1), (4, 1)] [(0, (.int .i64 3)), (3, a0)]) h1 fun t4 h2 =>
quietK (stN 5 h2 t2 t4) fun _ h3 =>
K0 .ret [(2, t2)] h3

theorem s_law_text_eq (M : CombL) (C : CallF) (LP : LoopH) (a0 : Value) (H : AHeap) : dBodyL M Tryd.prog hints C LP F.law_text [a0] H = s_law_text M.b.g M.c M.s Tryd.prog C a0 H (endK Tryd.prog [.cell 2 T.api_Cell]) := by kernel_rfl

/-! ticketline.ticketlinelaw40.signed -/

noncomputable def s_law_signed (mg : GT) (mc : CT) (ms : ST) (P : Program) (C : CallF) (a0 : Value) (H : AHeap) (K0 : K) : Res :=
bothK (newv T.api_Cell (.agg #[(.int .i64 0), (.int .u64 0), (.int .i64 0), (.string (mk [])), (.bool false)]) H) fun t2 h1 =>
bareK (bldS #[(.int .i64 0), (.int .u64 0), (.int .i64 0), (.string (mk [])), (.bool false)] [(0, 1), (1, 1), (2, 1), (3, 1), (4, 1)] [(0, (.int .i64 2)), (2, a0)]) h1 fun t4 h2 =>
quietK (stN 5 h2 t2 t4) fun _ h3 =>
K0 .ret [(2, t2)] h3

theorem s_law_signed_eq (M : CombL) (C : CallF) (LP : LoopH) (a0 : Value) (H : AHeap) : dBodyL M Tryd.prog hints C LP F.law_signed [a0] H = s_law_signed M.b.g M.c M.s Tryd.prog C a0 H (endK Tryd.prog [.cell 2 T.api_Cell]) := by kernel_rfl

/-! ticketline.ticketlinelaw40.kindAt -/

noncomputable def s_law_kindAt (mg : GT) (mc : CT) (ms : ST) (P : Program) (C : CallF) (a0 : Value) (a1 : Value) (H : AHeap) (K0 : K) : Res :=
bothK (newv T.api_Table a0 H) fun t2 h1 =>
bareK (fad 1 t2) h1 fun t6 h2 =>
bareK (ld1 h2 t6) h2 fun t7 h3 =>
bareK (lenS t7) h3 fun t8 h4 =>
bareK (xbin P .lss T.int (.tmp 5) (.tmp 8) a1 t8) h4 fun t9 h5 =>
mc t9 (fun k1 => bareK (fad 1 t2) h5 fun t10 h6 =>
bareK (ld1 h6 t10) h6 fun t11 h7 =>
bareK (ixS 1 t11 a1) h7 fun t13 h8 =>
bareK (ld1 h8 t13) h8 fun t14 h9 =>
k1 .ret [(4, t14)] h9) (fun k1 =>
k1 .normal [(1, a1), (2, t2)] h5) (seqK (fun tT h10 =>
bareK (fad 2 (get tT 2)) h10 fun t15 h11 =>
bareK (ld1 h11 t15) h11 fun t16 h12 =>
bareK (fad 1 (get tT 2)) h12 fun t18 h13 =>
bareK (ld1 h13 t18) h13 fun t19 h14 =>
bareK (lenS t19) h14 fun t20 h15 =>
bareK (xbin P .sub T.int (.tmp 17) (.tmp 20) (get tT 1) t20) h15 fun t21 h16 =>
bareK (ixS 1 t16 t21) h16 fun t22 h17 =>
bareK (ld1 h17 t22) h17 fun t23 h18 =>
K0 .ret [(4, t23)] h18) K0)

theorem s_law_kindAt_eq (M : CombL) (C : CallF) (LP : LoopH) (a0 : Value) (a1 : Value) (H : AHeap) : dBodyL M Tryd.prog hints C LP F.law_kindAt [a0, a1] H = s_law_kindAt M.b.g M.c M.s Tryd.prog C a0 a1 H (endK Tryd.prog [.tmp 4]) := by kernel_rfl

/-! ticketline.rows.Read -/

noncomputable def s_rows_Read (mg : GT) (mc : CT) (ms : ST) (P : Program) (C : CallF) (L0 : Value → Value → Value → Value → Value → Value → Value → AHeap → K → Res) (L1 : Value → Value → Value → Value → Value → Value → Value → Value → Value → Value → Value → AHeap → K → Res) (a0 : Value) (a1 : Value) (a2 : Value) (H : AHeap) (K0 : K) : Res :=
bothK (newv T.api_Table a0 H) fun t3 h1 =>
bareK (ldN 3 h1 t3) h1 fun t19 h2 =>
enterK C F.rows_Valid [t19] h2 fun t20 h3 =>
bareK (xun P .not t20) h3 fun t21 h4 =>
mc t21 (fun k1 => k1 .ret [(6, (.slice none 0 0)), (7, (.int .i64 2))] h4) (fun k1 =>
k1 .normal [(1, a1), (2, a2), (3, t3)] h4) (seqK (fun tT h5 =>
bareK (xbin P .eql T.string (.tmp 22) (.const (.string (mk []))) (get tT 1) (.string (mk []))) h5 fun t23 h6 =>
mc t23 (fun k2 => k2 .ret [(6, (.slice none 0 0)), (7, (.int .i64 12))] h6) (fun k2 =>
k2 .normal [(1, (get tT 1)), (2, (get tT 2)), (3, (get tT 3))] h6) (seqK (fun tT_1 h7 =>
bareK (slT (get tT_1 1) (some (.int .i64 1)) none) h7 fun t25 h8 =>
bothK (bldL T.string [(.string (mk []))] 2 [(0, t25), (1, (get tT_1 2))] h8) fun t27 h9 =>
bareK (lenS t27) h9 fun t28 h10 =>
ms (fun k3 =>
L0 (get tT_1 1) (get tT_1 2) (get tT_1 3) (.slice none 0 0) t27 t28 (.int .i64 0) h10 (blkK [1, 2, 3, 8] 0 k3)) (seqK (fun tT_2 h11 =>
bareK (ldN 3 h11 (get tT_2 3)) h11 fun t64 h12 =>
enterK C F.rows_Row [t64, (get tT_2 8)] h12 fun t66 h13 =>
bareK (xextract t66 0) h13 fun t67 h14 =>
bareK (xextract t66 1) h14 fun t68 h15 =>
bareK (xextract t66 2) h15 fun t69 h16 =>
bareK (xbin P .neq T.api_Errno (.tmp 70) (.const (.int .i64 0)) t69 (.int .i64 0)) h16 fun t71 h17 =>
mg t71 false (fun o4 => o4 t67 h17) h17 fun t73 h18 =>
mg t71 false (fun o5 => o5 (get tT_2 1) h18) h18 fun t74 h19 =>
mg t71 false (fun o6 => bareK (xbin P .neq T.string (.tmp 73) (.tmp 74) t73 t74) h19 o6) h19 fun t75 h20 =>
pickK t71 (.bool true) t75 fun t76 =>
mg t76 false (fun o7 => o7 t68 h20) h20 fun t78 h21 =>
mg t76 false (fun o8 => o8 (get tT_2 2) h21) h21 fun t79 h22 =>
mg t76 false (fun o9 => bareK (xbin P .neq T.string (.tmp 78) (.tmp 79) t78 t79) h22 o9) h22 fun t80 h23 =>
pickK t76 (.bool true) t80 fun t81 =>
mc t81 (fun k10 => k10 .ret [(6, (.slice none 0 0)), (7, (.int .i64 12))] h23) (fun k10 =>
k10 .normal [(8, (get tT_2 8))] h23) (seqK (fun tT_3 h24 =>
K0 .ret [(6, (get tT_3 8)), (7, (.int .i64 0))] h24) K0)) K0)) K0)) K0)

noncomputable def s_rows_Read_b0 (mg : GT) (mc : CT) (ms : ST) (P : Program) (C : CallF) (L0 : Value → Value → Value → Value → Value → Value → Value → AHeap → K → Res) (L1 : Value → Value → Value → Value → Value → Value → Value → Value → Value → Value → Value → AHeap → K → Res) (v1 : Value) (v2 : Value) (v3 : Value) (v8 : Value) (v27 : Value) (v28 : Value) (v29 : Value) (H : AHeap) (k : K) : Res :=
bareK (xbin P .lss T.int (.tmp 29) (.tmp 28) v29 v28) H fun t30 h11 =>
mc t30 (fun k4 => k4 .normal [(1, v1), (2, v2), (3, v3), (8, v8), (27, v27), (28, v28), (29, v29)] h11) (fun k4 =>
k4 (.exit 0) [(30, t30), (1, v1), (2, v2), (3, v3), (8, v8), (27, v27), (28, v28), (29, v29)] h11) (seqK (fun tT h12 =>
ms (fun k5 =>
bareK (ixS 1 (get tT 27) (get tT 29)) h12 fun t32 h13 =>
bareK (ld1 h13 t32) h13 fun t33 h14 =>
bareK (fad 1 (get tT 3)) h14 fun t34 h15 =>
bareK (ld1 h15 t34) h15 fun t35 h16 =>
bareK (fad 2 (get tT 3)) h16 fun t36 h17 =>
bareK (ld1 h17 t36) h17 fun t37 h18 =>
bothK (bldL T.sl_api_CellKind [(.slice none 0 0)] 2 [(0, t35), (1, t37)] h18) fun t38 h19 =>
bareK (ixS 1 t38 (get tT 29)) h19 fun t40 h20 =>
bareK (ld1 h20 t40) h20 fun t41 h21 =>
bareK (lenS t41) h21 fun t42 h22 =>
ms (fun k6 =>
L1 (get tT 1) (get tT 2) (get tT 3) (get tT 8) t33 (get tT 27) (get tT 28) (get tT 29) t41 t42 (.int .i64 0) h22 (blkK [1, 2, 3, 8, 27, 28, 29] 2 k6)) (blkK [1, 2, 3, 8, 27, 28, 29] 1 k5)) (seqK (fun tT_1 h23 =>
bareK (xbin P .add T.int (.tmp 29) (.const (.int .i64 1)) (get tT_1 29) (.int .i64 1)) h23 fun t62 h24 =>
k .normal [(1, (get tT_1 1)), (2, (get tT_1 2)), (3, (get tT_1 3)), (8, (get tT_1 8)), (27, (get tT_1 27)), (28, (get tT_1 28)), (29, t62)] h24) (afterK [1, 2, 3, 8, 27, 28, 29] k))) (afterK [1, 2, 3, 8, 27, 28, 29] k))

noncomputable def s_rows_Read_b1 (mg : GT) (mc : CT) (ms : ST) (P : Program) (C : CallF) (L0 : Value → Value → Value → Value → Value → Value → Value → AHeap → K → Res) (L1 : Value → Value → Value → Value → Value → Value → Value → Value → Value → Value → Value → AHeap → K → Res) (v1 : Value) (v2 : Value) (v3 : Value) (v8 : Value) (v10 : Value) (v27 : Value) (v28 : Value) (v29 : Value) (v41 : Value) (v42 : Value) (v43 : Value) (H : AHeap) (k : K) : Res :=
bareK (xbin P .lss T.int (.tmp 43) (.tmp 42) v43 v42) H fun t44 h23 =>
mc t44 (fun k7 => k7 .normal [(1, v1), (2, v2), (3, v3), (8, v8), (10, v10), (27, v27), (28, v28), (29, v29), (41, v41), (42, v42), (43, v43)] h23) (fun k7 =>
k7 (.exit 2) [(44, t44), (1, v1), (2, v2), (3, v3), (8, v8), (10, v10), (27, v27), (28, v28), (29, v29), (41, v41), (42, v42), (43, v43)] h23) (seqK (fun tT h24 =>
ms (fun k8 =>
bareK (ixS 1 (get tT 41) (get tT 43)) h24 fun t45 h25 =>
bareK (ld1 h25 t45) h25 fun t46 h26 =>
enterK C F.rows_take [(get tT 10), t46] h26 fun t50 h27 =>
bareK (xextract t50 0) h27 fun t51 h28 =>
bareK (xextract t50 1) h28 fun t52 h29 =>
bareK (xextract t50 2) h29 fun t53 h30 =>
bothK (newv T.api_Cell (.agg #[(.int .i64 0), (.int .u64 0), (.int .i64 0), (.string (mk [])), (.bool false)]) h30) fun t13 h31 =>
quietK (stN 5 h31 t13 t51) fun _ h32 =>
bareK (xun P .not t53) h32 fun t55 h33 =>
mc t55 (fun k9 => k9 .ret [(6, (.slice none 0 0)), (7, (.int .i64 12))] h33) (fun k9 =>
k9 .normal [(1, (get tT 1)), (2, (get tT 2)), (3, (get tT 3)), (8, (get tT 8)), (13, t13), (14, t52), (27, (get tT 27)), (28, (get tT 28)), (29, (get tT 29)), (41, (get tT 41)), (42, (get tT 42)), (43, (get tT 43))] h33) (seqK (fun tT_1 h34 =>
bareK (ldN 5 h34 (get tT_1 13)) h34 fun t57 h35 =>
bothK (bldL T.api_Cell [(.int .i64 0), (.int .u64 0), (.int .i64 0), (.string (mk [])), (.bool false)] 1 [(0, t57)] h35) fun t58 h36 =>
bothK (app T.api_Cell 5 48 (get tT_1 8) (srcS 5 t58 h36) h36) fun t59 h37 =>
k8 .normal [(1, (get tT_1 1)), (2, (get tT_1 2)), (3, (get tT_1 3)), (8, t59), (10, (get tT_1 14)), (27, (get tT_1 27)), (28, (get tT_1 28)), (29, (get tT_1 29)), (41, (get tT_1 41)), (42, (get tT_1 42)), (43, (get tT_1 43))] h37) (blkK [1, 2, 3, 8, 10, 27, 28, 29, 41, 42, 43] 3 k8))) (seqK (fun tT_2 h38 =>
bareK (xbin P .add T.int (.tmp 43) (.const (.int .i64 1)) (get tT_2 43) (.int .i64 1)) h38 fun t61 h39 =>
k .normal [(1, (get tT_2 1)), (2, (get tT_2 2)), (3, (get tT_2 3)), (8, (get tT_2 8)), (10, (get tT_2 10)), (27, (get tT_2 27)), (28, (get tT_2 28)), (29, (get tT_2 29)), (41, (get tT_2 41)), (42, (get tT_2 42)), (43, t61)] h39) (afterK [1, 2, 3, 8, 10, 27, 28, 29, 41, 42, 43] k))) (afterK [1, 2, 3, 8, 10, 27, 28, 29, 41, 42, 43] k))

theorem s_rows_Read_eq (M : CombL) (C : CallF) (LP : LoopH) (a0 : Value) (a1 : Value) (a2 : Value) (H : AHeap) : dBodyL M Tryd.prog hints C LP F.rows_Read [a0, a1, a2] H = s_rows_Read M.b.g M.c M.s Tryd.prog C (fun v1 v2 v3 v8 v27 v28 v29 H k => loopL M Tryd.prog hints C LP F.rows_Read 0 [(1, v1), (2, v2), (3, v3), (8, v8), (27, v27), (28, v28), (29, v29)] H k) (fun v1 v2 v3 v8 v10 v27 v28 v29 v41 v42 v43 H k => loopL M Tryd.prog hints C LP F.rows_Read 1 [(1, v1), (2, v2), (3, v3), (8, v8), (10, v10), (27, v27), (28, v28), (29, v29), (41, v41), (42, v42), (43, v43)] H k) a0 a1 a2 H (endK Tryd.prog [.tmp 6, .tmp 7]) := by kernel_rfl

theorem s_rows_Read_b0_eq (M : CombL) (C : CallF) (LP : LoopH) (v1 : Value) (v2 : Value) (v3 : Value) (v8 : Value) (v27 : Value) (v28 : Value) (v29 : Value) (H : AHeap) (k : K) : bodyL M Tryd.prog hints C LP F.rows_Read 0 [(1, v1), (2, v2), (3, v3), (8, v8), (27, v27), (28, v28), (29, v29)] H (afterK [1, 2, 3, 8, 27, 28, 29] k) = s_rows_Read_b0 M.b.g M.c M.s Tryd.prog C (fun v1 v2 v3 v8 v27 v28 v29 H k => loopL M Tryd.prog hints C LP F.rows_Read 0 [(1, v1), (2, v2), (3, v3), (8, v8), (27, v27), (28, v28), (29, v29)] H k) (fun v1 v2 v3 v8 v10 v27 v28 v29 v41 v42 v43 H k => loopL M Tryd.prog hints C LP F.rows_Read 1 [(1, v1), (2, v2), (3, v3), (8, v8), (10, v10), (27, v27), (28, v28), (29, v29), (41, v41), (42, v42), (43, v43)] H k) v1 v2 v3 v8 v27 v28 v29 H k := by kernel_rfl

theorem s_rows_Read_b1_eq (M : CombL) (C : CallF) (LP : LoopH) (v1 : Value) (v2 : Value) (v3 : Value) (v8 : Value) (v10 : Value) (v27 : Value) (v28 : Value) (v29 : Value) (v41 : Value) (v42 : Value) (v43 : Value) (H : AHeap) (k : K) : bodyL M Tryd.prog hints C LP F.rows_Read 1 [(1, v1), (2, v2), (3, v3), (8, v8), (10, v10), (27, v27), (28, v28), (29, v29), (41, v41), (42, v42), (43, v43)] H (afterK [1, 2, 3, 8, 10, 27, 28, 29, 41, 42, 43] k) = s_rows_Read_b1 M.b.g M.c M.s Tryd.prog C (fun v1 v2 v3 v8 v27 v28 v29 H k => loopL M Tryd.prog hints C LP F.rows_Read 0 [(1, v1), (2, v2), (3, v3), (8, v8), (27, v27), (28, v28), (29, v29)] H k) (fun v1 v2 v3 v8 v10 v27 v28 v29 v41 v42 v43 H k => loopL M Tryd.prog hints C LP F.rows_Read 1 [(1, v1), (2, v2), (3, v3), (8, v8), (10, v10), (27, v27), (28, v28), (29, v29), (41, v41), (42, v42), (43, v43)] H k) v1 v2 v3 v8 v10 v27 v28 v29 v41 v42 v43 H k := by kernel_rfl

/-! ticketline.ticketlinelaw40.proper -/

noncomputable def s_law_proper (mg : GT) (mc : CT) (ms : ST) (P : Program) (C : CallF) (a0 : Value) (a1 : Value) (H : AHeap) (K0 : K) : Res :=
bothK (newv T.api_Cell a0 H) fun t2 h1 =>
bareK (fad 0 t2) h1 fun t5 h2 =>
bareK (ld1 h2 t5) h2 fun t6 h3 =>
bareK (xbin P .eql T.api_CellKind (.tmp 6) (.tmp 7) t6 a1) h3 fun t8 h4 =>
mg t8 true (fun o1 => o1 a1 h4) h4 fun t10 h5 =>
mg t8 true (fun o2 => bareK (xbin P .eql T.api_CellKind (.tmp 10) (.const (.int .i64 1)) t10 (.int .i64 1)) h5 o2) h5 fun t11 h6 =>
mg t8 true (fun o3 => o3 t11 h6) h6 fun t12 h7 =>
mg t12 false (fun o4 => bareK (fad 1 t2) h7 o4) h7 fun t13 h8 =>
mg t12 false (fun o5 => bareK (ld1 h8 t13) h8 o5) h8 fun t14 h9 =>
mg t12 false (fun o6 => bareK (xbin P .eql T.uint64 (.tmp 14) (.const (.int .u64 0)) t14 (.int .u64 0)) h9 o6) h9 fun t15 h10 =>
mg t8 true (fun o7 => pickK t12 (.bool true) t15 fun v => o7 v h10) h10 fun t16 h11 =>
pickK t8 t16 (.bool false) fun t17 =>
mg t17 true (fun o8 => o8 a1 h11) h11 fun t19 h12 =>
mg t17 true (fun o9 => bareK (xbin P .eql T.api_CellKind (.tmp 19) (.const (.int .i64 2)) t19 (.int .i64 2)) h12 o9) h12 fun t20 h13 =>
mg t17 true (fun o10 => o10 t20 h13) h13 fun t21 h14 =>
mg t21 false (fun o11 => bareK (fad 2 t2) h14 o11) h14 fun t22 h15 =>
mg t21 false (fun o12 => bareK (ld1 h15 t22) h15 o12) h15 fun t23 h16 =>
mg t21 false (fun o13 => bareK (xbin P .eql T.int (.tmp 23) (.const (.int .i64 0)) t23 (.int .i64 0)) h16 o13) h16 fun t24 h17 =>
mg t17 true (fun o14 => pickK t21 (.bool true) t24 fun v => o14 v h17) h17 fun t25 h18 =>
pickK t17 t25 (.bool false) fun t26 =>
mg t26 true (fun o15 => o15 a1 h18) h18 fun t28 h19 =>
mg t26 true (fun o16 => bareK (xbin P .eql T.api_CellKind (.tmp 28) (.const (.int .i64 3)) t28 (.int .i64 3)) h19 o16) h19 fun t29 h20 =>
mg t26 true (fun o17 => o17 t29 h20) h20 fun t30 h21 =>
mg t30 false (fun o18 => bareK (fad 3 t2) h21 o18) h21 fun t31 h22 =>
mg t30 false (fun o19 => bareK (ld1 h22 t31) h22 o19) h22 fun t32 h23 =>
mg t30 false (fun o20 => bareK (xbin P .eql T.string (.tmp 32) (.const (.string (mk []))) t32 (.string (mk []))) h23 o20) h23 fun t33 h24 =>
mg t26 true (fun o21 => pickK t30 (.bool true) t33 fun v => o21 v h24) h24 fun t34 h25 =>
pickK t26 t34 (.bool false) fun t35 =>
mg t35 true (fun o22 => o22 a1 h25) h25 fun t37 h26 =>
mg t35 true (fun o23 => bareK (xbin P .eql T.api_CellKind (.tmp 37) (.const (.int .i64 4)) t37 (.int .i64 4)) h26 o23) h26 fun t38 h27 =>
mg t35 true (fun o24 => o24 t38 h27) h27 fun t39 h28 =>
mg t39 false (fun o25 => bareK (fad 4 t2) h28 o25) h28 fun t40 h29 =>
mg t39 false (fun o26 => bareK (ld1 h29 t40) h29 o26) h29 fun t41 h30 =>
mg t39 false (fun o27 => bareK (xun P .not t41) h30 o27) h30 fun t42 h31 =>
mg t35 true (fun o28 => pickK t39 (.bool true) t42 fun v => o28 v h31) h31 fun t43 h32 =>
pickK t35 t43 (.bool false) fun t44 =>
K0 .ret [(4, t44)] h32

theorem s_law_proper_eq (M : CombL) (C : CallF) (LP : LoopH) (a0 : Value) (a1 : Value) (H : AHeap) : dBodyL M Tryd.prog hints C LP F.law_proper [a0, a1] H = s_law_proper M.b.g M.c M.s Tryd.prog C a0 a1 H (endK Tryd.prog [.tmp 4]) := by kernel_rfl

/-! ticketline.ticketlinelaw40.bytesOf -/

noncomputable def s_law_bytesOf (mg : GT) (mc : CT) (ms : ST) (P : Program) (C : CallF) (L0 : Value → Value → Value → AHeap → K → Res) (L1 : Value → Value → Value → AHeap → K → Res) (a0 : Value) (H : AHeap) (K0 : K) : Res :=
bothK (newv T.api_Cell a0 H) fun t1 h1 =>
bareK (fad 0 t1) h1 fun t10 h2 =>
bareK (ld1 h2 t10) h2 fun t11 h3 =>
ms (fun k1 =>
bareK (xbin P .eql T.api_CellKind (.tmp 11) (.const (.int .i64 1)) t11 (.int .i64 1)) h3 fun t13 h4 =>
mc t13 (fun k2 => bareK (fad 1 t1) h4 fun t14 h5 =>
bareK (ld1 h5 t14) h5 fun t15 h6 =>
enterK C F.law_digits [t15] h6 fun t16 h7 =>
bareK (lenT t16) h7 fun t18 h8 =>
bothK (xconv P T.int T.uint8 t18 h8) fun t19 h9 =>
bothK (bldL T.uint8 [(.int .u8 0)] 1 [(0, t19)] h9) fun t20 h10 =>
bothK (xconv P T.sl_uint8 T.string t20 h10) fun t21 h11 =>
bareK (xbin P .add T.string (.tmp 21) (.tmp 22) t21 t16) h11 fun t23 h12 =>
k2 .ret [(2, t23)] h12) (fun k2 =>
bareK (xbin P .eql T.api_CellKind (.tmp 11) (.const (.int .i64 2)) t11 (.int .i64 2)) h4 fun t25 h13 =>
mc t25 (fun k3 => bareK (fad 2 t1) h13 fun t26 h14 =>
bareK (ld1 h14 t26) h14 fun t27 h15 =>
bareK (xbin P .geq T.int (.tmp 27) (.const (.int .i64 0)) t27 (.int .i64 0)) h15 fun t28 h16 =>
mc t28 (fun k4 => bareK (fad 2 t1) h16 fun t29 h17 =>
bareK (ld1 h17 t29) h17 fun t30 h18 =>
bothK (xconv P T.int T.uint64 t30 h18) fun t31 h19 =>
enterK C F.law_digits [t31] h19 fun t32 h20 =>
bareK (lenT t32) h20 fun t34 h21 =>
bareK (xbin P .add T.int (.const (.int .i64 128)) (.tmp 34) (.int .i64 128) t34) h21 fun t35 h22 =>
bothK (xconv P T.int T.uint8 t35 h22) fun t36 h23 =>
bothK (bldL T.uint8 [(.int .u8 0)] 1 [(0, t36)] h23) fun t37 h24 =>
bothK (xconv P T.sl_uint8 T.string t37 h24) fun t38 h25 =>
bareK (xbin P .add T.string (.tmp 38) (.tmp 39) t38 t32) h25 fun t40 h26 =>
k4 .ret [(2, t40)] h26) (fun k4 =>
k4 .normal [(1, t1)] h16) (seqK (fun tT h27 =>
bareK (fad 2 (get tT 1)) h27 fun t41 h28 =>
bareK (ld1 h28 t41) h28 fun t42 h29 =>
bareK (xbin P .add T.int (.tmp 42) (.const (.int .i64 1)) t42 (.int .i64 1)) h29 fun t43 h30 =>
bareK (xun P .neg t43) h30 fun t44 h31 =>
bothK (xconv P T.int T.uint64 t44 h31) fun t45 h32 =>
enterK C F.law_digits [t45] h32 fun t46 h33 =>
bareK (lenT t46) h33 fun t48 h34 =>
bareK (xbin P .sub T.int (.const (.int .i64 127)) (.tmp 48) (.int .i64 127) t48) h34 fun t49 h35 =>
bothK (xconv P T.int T.uint8 t49 h35) fun t50 h36 =>
bothK (bldL T.uint8 [(.int .u8 0)] 1 [(0, t50)] h36) fun t51 h37 =>
ms (fun k5 =>
L0 t46 t51 (.int .i64 0) h37 (blkK [6] 1 k5)) (seqK (fun tT_1 h38 =>
bothK (xconv P T.sl_uint8 T.string (get tT_1 6) h38) fun t66 h39 =>
k3 .ret [(2, t66)] h39) (afterK [1] k3))) (afterK [1] k3))) (fun k3 =>
bareK (xbin P .eql T.api_CellKind (.tmp 11) (.const (.int .i64 3)) t11 (.int .i64 3)) h13 fun t68 h40 =>
mc t68 (fun k6 => ms (fun k7 =>
L1 t1 (.slice none 0 0) (.int .i64 0) h40 (blkK [8] 3 k7)) (seqK (fun tT_2 h41 =>
bothK (bldL T.uint8 [(.int .u8 0)] 2 [(0, (.int .u8 0)), (1, (.int .u8 1))] h41) fun t92 h42 =>
bothK (app T.uint8 1 1 (get tT_2 8) (srcS 1 t92 h42) h42) fun t93 h43 =>
bothK (xconv P T.sl_uint8 T.string t93 h43) fun t94 h44 =>
k6 .ret [(2, t94)] h44) (afterK [1] k6))) (fun k6 =>
k6 .normal [(1, t1)] h40) (afterK [1] k3)) (afterK [1] k2)) (blkK [1] 0 k1)) (seqK (fun tT_3 h45 =>
bareK (fad 4 (get tT_3 1)) h45 fun t95 h46 =>
bareK (ld1 h46 t95) h46 fun t96 h47 =>
mc t96 (fun k8 => k8 .ret [(2, (.string (mk [1])))] h47) (fun k8 =>
k8 .normal [] h47) (seqK (fun tT_4 h48 =>
K0 .ret [(2, (.string (mk [0])))] h48) K0)) K0)

noncomputable def s_law_bytesOf_b0 (mg : GT) (mc : CT) (ms : ST) (P : Program) (C : CallF) (L0 : Value → Value → Value → AHeap → K → Res) (L1 : Value → Value → Value → AHeap → K → Res) (v5 : Value) (v6 : Value) (v7 : Value) (H : AHeap) (k : K) : Res :=
bareK (lenT v5) H fun t54 h38 =>
bareK (xbin P .lss T.int (.tmp 52) (.tmp 54) v7 t54) h38 fun t55 h39 =>
mc t55 (fun k6 => k6 .normal [(5, v5), (6, v6), (7, v7)] h39) (fun k6 =>
k6 (.exit 1) [(55, t55), (54, t54), (53, v5), (52, v7), (5, v5), (6, v6), (7, v7)] h39) (seqK (fun tT h40 =>
ms (fun k7 =>
bareK (xindex P T.string (get tT 5) (get tT 7)) h40 fun t61 h41 =>
bareK (xbin P .sub T.uint8 (.const (.int .u8 255)) (.tmp 61) (.int .u8 255) t61) h41 fun t62 h42 =>
bothK (bldL T.uint8 [(.int .u8 0)] 1 [(0, t62)] h42) fun t63 h43 =>
bothK (app T.uint8 1 1 (get tT 6) (srcS 1 t63 h43) h43) fun t64 h44 =>
k7 .normal [(5, (get tT 5)), (6, t64), (7, (get tT 7))] h44) (seqK (fun tT_1 h45 =>
bareK (xbin P .add T.int (.tmp 56) (.const (.int .i64 1)) (get tT_1 7) (.int .i64 1)) h45 fun t57 h46 =>
k .normal [(5, (get tT_1 5)), (6, (get tT_1 6)), (7, t57)] h46) (afterK [5, 6, 7] k))) (afterK [5, 6, 7] k))

noncomputable def s_law_bytesOf_b1 (mg : GT) (mc : CT) (ms : ST) (P : Program) (C : CallF) (L0 : Value → Value → Value → AHeap → K → Res) (L1 : Value → Value → Value → AHeap → K → Res) (v1 : Value) (v8 : Value) (v9 : Value) (H : AHeap) (k : K) : Res :=
bareK (fad 3 v1) H fun t70 h41 =>
bareK (ld1 h41 t70) h41 fun t71 h42 =>
bareK (lenT t71) h42 fun t72 h43 =>
bareK (xbin P .lss T.int (.tmp 69) (.tmp 72) v9 t72) h43 fun t73 h44 =>
mc t73 (fun k8 => k8 .normal [(1, v1), (8, v8), (9, v9)] h44) (fun k8 =>
k8 (.exit 3) [(73, t73), (72, t72), (71, t71), (70, t70), (69, v9), (1, v1), (8, v8), (9, v9)] h44) (seqK (fun tT h45 =>
ms (fun k9 =>
bareK (fad 3 (get tT 1)) h45 fun t77 h46 =>
bareK (ld1 h46 t77) h46 fun t78 h47 =>
bareK (xindex P T.string t78 (get tT 9)) h47 fun t80 h48 =>
bothK (bldL T.uint8 [(.int .u8 0)] 1 [(0, t80)] h48) fun t81 h49 =>
bothK (app T.uint8 1 1 (get tT 8) (srcS 1 t81 h49) h49) fun t82 h50 =>
bareK (fad 3 (get tT 1)) h50 fun t83 h51 =>
bareK (ld1 h51 t83) h51 fun t84 h52 =>
bareK (xindex P T.string t84 (get tT 9)) h52 fun t86 h53 =>
bareK (xbin P .eql T.uint8 (.tmp 86) (.const (.int .u8 0)) t86 (.int .u8 0)) h53 fun t87 h54 =>
mc t87 (fun k10 => bothK (bldL T.uint8 [(.int .u8 0)] 1 [(0, (.int .u8 255))] h54) fun t89 h55 =>
bothK (app T.uint8 1 1 t82 (srcS 1 t89 h55) h55) fun t90 h56 =>
k10 .normal [(1, (get tT 1)), (8, t90), (9, (get tT 9))] h56) (fun k10 =>
k10 .normal [(1, (get tT 1)), (8, t82), (9, (get tT 9))] h54) (blkK [1, 8, 9] 4 k9)) (seqK (fun tT_1 h57 =>
bareK (xbin P .add T.int (.tmp 74) (.const (.int .i64 1)) (get tT_1 9) (.int .i64 1)) h57 fun t75 h58 =>
k .normal [(1, (get tT_1 1)), (8, (get tT_1 8)), (9, t75)] h58) (afterK [1, 8, 9] k))) (afterK [1, 8, 9] k))

theorem s_law_bytesOf_eq (M : CombL) (C : CallF) (LP : LoopH) (a0 : Value) (H : AHeap) : dBodyL M Tryd.prog hints C LP F.law_bytesOf [a0] H = s_law_bytesOf M.b.g M.c M.s Tryd.prog C (fun v5 v6 v7 H k => loopL M Tryd.prog hints C LP F.law_bytesOf 0 [(5, v5), (6, v6), (7, v7)] H k) (fun v1 v8 v9 H k => loopL M Tryd.prog hints C LP F.law_bytesOf 1 [(1, v1), (8, v8), (9, v9)] H k) a0 H (endK Tryd.prog [.tmp 2]) := by kernel_rfl

theorem s_law_bytesOf_b0_eq (M : CombL) (C : CallF) (LP : LoopH) (v5 : Value) (v6 : Value) (v7 : Value) (H : AHeap) (k : K) : bodyL M Tryd.prog hints C LP F.law_bytesOf 0 [(5, v5), (6, v6), (7, v7)] H (afterK [5, 6, 7] k) = s_law_bytesOf_b0 M.b.g M.c M.s Tryd.prog C (fun v5 v6 v7 H k => loopL M Tryd.prog hints C LP F.law_bytesOf 0 [(5, v5), (6, v6), (7, v7)] H k) (fun v1 v8 v9 H k => loopL M Tryd.prog hints C LP F.law_bytesOf 1 [(1, v1), (8, v8), (9, v9)] H k) v5 v6 v7 H k := by kernel_rfl

theorem s_law_bytesOf_b1_eq (M : CombL) (C : CallF) (LP : LoopH) (v1 : Value) (v8 : Value) (v9 : Value) (H : AHeap) (k : K) : bodyL M Tryd.prog hints C LP F.law_bytesOf 1 [(1, v1), (8, v8), (9, v9)] H (afterK [1, 8, 9] k) = s_law_bytesOf_b1 M.b.g M.c M.s Tryd.prog C (fun v5 v6 v7 H k => loopL M Tryd.prog hints C LP F.law_bytesOf 0 [(5, v5), (6, v6), (7, v7)] H k) (fun v1 v8 v9 H k => loopL M Tryd.prog hints C LP F.law_bytesOf 1 [(1, v1), (8, v8), (9, v9)] H k) v1 v8 v9 H k := by kernel_rfl

/-! ticketline.ticketlinelaw40.take -/

noncomputable def s_law_take (mg : GT) (mc : CT) (ms : ST) (P : Program) (C : CallF) (L0 : Value → Value → Value → Value → Value → Value → AHeap → K → Res) (L1 : Value → Value → Value → Value → Value → AHeap → K → Res) (a0 : Value) (a1 : Value) (H : AHeap) (K0 : K) : Res :=
bothK (newv T.api_Cell (.agg #[(.int .i64 0), (.int .u64 0), (.int .i64 0), (.string (mk [])), (.bool false)]) H) fun t4 h1 =>
bareK (bldS #[(.int .i64 0), (.int .u64 0), (.int .i64 0), (.string (mk [])), (.bool false)] [(0, 1), (1, 1), (2, 1), (3, 1), (4, 1)] [(0, a1)]) h1 fun t12 h2 =>
bothK (newv T.api_Cell (.agg #[(.int .i64 0), (.int .u64 0), (.int .i64 0), (.string (mk [])), (.bool false)]) h2) fun t6 h3 =>
quietK (stN 5 h3 t6 t12) fun _ h4 =>
bareK (lenT a0) h4 fun t14 h5 =>
bareK (xbin P .eql T.int (.tmp 14) (.const (.int .i64 0)) t14 (.int .i64 0)) h5 fun t15 h6 =>
mc t15 (fun k1 => bareK (ldN 5 h6 t6) h6 fun t16 h7 =>
quietK (stN 5 h7 t4 t16) fun _ h8 =>
k1 .ret [(4, t4), (5, (.int .i64 0))] h8) (fun k1 =>
k1 .normal [(0, a0), (1, a1), (4, t4), (6, t6)] h6) (seqK (fun tT h9 =>
ms (fun k2 =>
L0 (get tT 0) (get tT 1) (get tT 4) (get tT 6) (.int .u64 0) (.int .i64 1) h9 (blkK [0, 1, 4, 6] 0 k2)) (seqK (fun tT_1 h10 =>
bareK (xbin P .eql T.api_CellKind (.tmp 76) (.const (.int .i64 2)) (get tT_1 1) (.int .i64 2)) h10 fun t77 h11 =>
mg t77 true (fun o3 => o3 (get tT_1 0) h11) h11 fun t79 h12 =>
mg t77 true (fun o4 => bareK (xindex P T.string t79 (.int .i64 0)) h12 o4) h12 fun t80 h13 =>
mg t77 true (fun o5 => bareK (xbin P .eql T.uint8 (.tmp 80) (.const (.int .u8 127)) t80 (.int .u8 127)) h13 o5) h13 fun t81 h14 =>
pickK t77 t81 (.bool false) fun t82 =>
mc t82 (fun k6 => bareK (fad 2 (get tT_1 6)) h14 fun t83 h15 =>
quietK (st1 h15 t83 (.int .i64 (-1))) fun _ h16 =>
k6 .normal [(0, (get tT_1 0)), (1, (get tT_1 1)), (4, (get tT_1 4)), (6, (get tT_1 6))] h16) (fun k6 =>
k6 .normal [(0, (get tT_1 0)), (1, (get tT_1 1)), (4, (get tT_1 4)), (6, (get tT_1 6))] h14) (seqK (fun tT_2 h17 =>
bareK (xbin P .eql T.api_CellKind (.tmp 84) (.const (.int .i64 4)) (get tT_2 1) (.int .i64 4)) h17 fun t85 h18 =>
mc t85 (fun k7 => bareK (xindex P T.string (get tT_2 0) (.int .i64 0)) h18 fun t87 h19 =>
bareK (xbin P .eql T.uint8 (.tmp 87) (.const (.int .u8 1)) t87 (.int .u8 1)) h19 fun t88 h20 =>
bareK (fad 4 (get tT_2 6)) h20 fun t89 h21 =>
quietK (st1 h21 t89 t88) fun _ h22 =>
k7 .normal [(0, (get tT_2 0)), (1, (get tT_2 1)), (4, (get tT_2 4)), (6, (get tT_2 6))] h22) (fun k7 =>
k7 .normal [(0, (get tT_2 0)), (1, (get tT_2 1)), (4, (get tT_2 4)), (6, (get tT_2 6))] h18) (seqK (fun tT_3 h23 =>
ms (fun k8 =>
L1 (get tT_3 0) (get tT_3 1) (get tT_3 4) (get tT_3 6) (.int .i64 0) h23 (blkK [0, 4, 6] 2 k8)) (seqK (fun tT_4 h24 =>
bareK (ldN 5 h24 (get tT_4 6)) h24 fun t126 h25 =>
enterK C F.law_bytesOf [t126] h25 fun t127 h26 =>
bareK (lenT t127) h26 fun t129 h27 =>
bareK (lenT (get tT_4 0)) h27 fun t131 h28 =>
bareK (xbin P .gtr T.int (.tmp 129) (.tmp 131) t129 t131) h28 fun t132 h29 =>
mg t132 false (fun o9 => o9 (get tT_4 0) h29) h29 fun t134 h30 =>
mg t132 false (fun o10 => o10 t127 h30) h30 fun t135 h31 =>
mg t132 false (fun o11 => bareK (lenT t135) h31 o11) h31 fun t136 h32 =>
mg t132 false (fun o12 => bareK (slT t134 none (some t136)) h32 o12) h32 fun t137 h33 =>
mg t132 false (fun o13 => o13 t127 h33) h33 fun t138 h34 =>
mg t132 false (fun o14 => bareK (xbin P .neq T.string (.tmp 137) (.tmp 138) t137 t138) h34 o14) h34 fun t139 h35 =>
pickK t132 (.bool true) t139 fun t140 =>
mc t140 (fun k15 => bareK (ldN 5 h35 (get tT_4 6)) h35 fun t141 h36 =>
quietK (stN 5 h36 (get tT_4 4) t141) fun _ h37 =>
k15 .ret [(4, (get tT_4 4)), (5, (.int .i64 0))] h37) (fun k15 =>
k15 .normal [(4, (get tT_4 4)), (6, (get tT_4 6)), (10, t127)] h35) (seqK (fun tT_5 h38 =>
bareK (ldN 5 h38 (get tT_5 6)) h38 fun t142 h39 =>
bareK (lenT (get tT_5 10)) h39 fun t144 h40 =>
quietK (stN 5 h40 (get tT_5 4) t142) fun _ h41 =>
K0 .ret [(4, (get tT_5 4)), (5, t144)] h41) K0)) K0)) K0)) K0)) K0)) K0)

noncomputable def s_law_take_b0 (mg : GT) (mc : CT) (ms : ST) (P : Program) (C : CallF) (L0 : Value → Value → Value → Value → Value → Value → AHeap → K → Res) (L1 : Value → Value → Value → Value → Value → AHeap → K → Res) (v0 : Value) (v1 : Value) (v4 : Value) (v6 : Value) (v7 : Value) (v8 : Value) (H : AHeap) (k : K) : Res :=
bareK (lenT v0) H fun t19 h10 =>
bareK (xbin P .lss T.int (.tmp 17) (.tmp 19) v8 t19) h10 fun t20 h11 =>
mg t20 true (fun o3 => o3 v8 h11) h11 fun t22 h12 =>
mg t20 true (fun o4 => bareK (xbin P .leq T.int (.tmp 22) (.const (.int .i64 8)) t22 (.int .i64 8)) h12 o4) h12 fun t23 h13 =>
pickK t20 t23 (.bool false) fun t24 =>
mc t24 (fun k5 => k5 .normal [(0, v0), (1, v1), (4, v4), (6, v6), (7, v7), (8, v8)] h13) (fun k5 =>
k5 (.exit 0) [(24, t24), (23, t23), (22, t22), (21, t20), (20, t20), (19, t19), (18, v0), (17, v8), (0, v0), (1, v1), (4, v4), (6, v6), (7, v7), (8, v8)] h13) (seqK (fun tT h14 =>
ms (fun k6 =>
bareK (xbin P .mul T.uint64 (.tmp 27) (.const (.int .u64 256)) (get tT 7) (.int .u64 256)) h14 fun t28 h15 =>
bareK (xindex P T.string (get tT 0) (get tT 8)) h15 fun t31 h16 =>
bothK (xconv P T.uint8 T.uint64 t31 h16) fun t32 h17 =>
bareK (xbin P .add T.uint64 (.tmp 28) (.tmp 32) t28 t32) h17 fun t33 h18 =>
bareK (xbin P .eql T.api_CellKind (.tmp 34) (.const (.int .i64 1)) (get tT 1) (.int .i64 1)) h18 fun t35 h19 =>
mg t35 true (fun o7 => o7 (get tT 0) h19) h19 fun t37 h20 =>
mg t35 true (fun o8 => bareK (xindex P T.string t37 (.int .i64 0)) h20 o8) h20 fun t38 h21 =>
mg t35 true (fun o9 => bothK (xconv P T.uint8 T.int t38 h21) o9) h21 fun t39 h22 =>
mg t35 true (fun o10 => o10 (get tT 8) h22) h22 fun t40 h23 =>
mg t35 true (fun o11 => bareK (xbin P .eql T.int (.tmp 39) (.tmp 40) t39 t40) h23 o11) h23 fun t41 h24 =>
pickK t35 t41 (.bool false) fun t42 =>
mc t42 (fun k12 => bareK (fad 1 (get tT 6)) h24 fun t44 h25 =>
quietK (st1 h25 t44 t33) fun _ h26 =>
k12 .normal [(0, (get tT 0)), (1, (get tT 1)), (4, (get tT 4)), (6, (get tT 6)), (7, t33), (8, (get tT 8))] h26) (fun k12 =>
k12 .normal [(0, (get tT 0)), (1, (get tT 1)), (4, (get tT 4)), (6, (get tT 6)), (7, t33), (8, (get tT 8))] h24) (seqK (fun tT_1 h27 =>
bareK (xbin P .eql T.api_CellKind (.tmp 45) (.const (.int .i64 2)) (get tT_1 1) (.int .i64 2)) h27 fun t46 h28 =>
mg t46 true (fun o13 => o13 (get tT_1 0) h28) h28 fun t48 h29 =>
mg t46 true (fun o14 => bareK (xindex P T.string t48 (.int .i64 0)) h29 o14) h29 fun t49 h30 =>
mg t46 true (fun o15 => bothK (xconv P T.uint8 T.int t49 h30) o15) h30 fun t50 h31 =>
mg t46 true (fun o16 => o16 (get tT_1 8) h31) h31 fun t51 h32 =>
mg t46 true (fun o17 => bareK (xbin P .add T.int (.const (.int .i64 128)) (.tmp 51) (.int .i64 128) t51) h32 o17) h32 fun t52 h33 =>
mg t46 true (fun o18 => bareK (xbin P .eql T.int (.tmp 50) (.tmp 52) t50 t52) h33 o18) h33 fun t53 h34 =>
pickK t46 t53 (.bool false) fun t54 =>
mc t54 (fun k19 => bothK (xconv P T.uint64 T.int (get tT_1 7) h34) fun t56 h35 =>
bareK (fad 2 (get tT_1 6)) h35 fun t57 h36 =>
quietK (st1 h36 t57 t56) fun _ h37 =>
k19 .normal [(0, (get tT_1 0)), (1, (get tT_1 1)), (4, (get tT_1 4)), (6, (get tT_1 6)), (7, (get tT_1 7)), (8, (get tT_1 8))] h37) (fun k19 =>
k19 .normal [(0, (get tT_1 0)), (1, (get tT_1 1)), (4, (get tT_1 4)), (6, (get tT_1 6)), (7, (get tT_1 7)), (8, (get tT_1 8))] h34) (seqK (fun tT_2 h38 =>
bareK (xbin P .eql T.api_CellKind (.tmp 58) (.const (.int .i64 2)) (get tT_2 1) (.int .i64 2)) h38 fun t59 h39 =>
mg t59 true (fun o20 => o20 (get tT_2 0) h39) h39 fun t61 h40 =>
mg t59 true (fun o21 => bareK (xindex P T.string t61 (.int .i64 0)) h40 o21) h40 fun t62 h41 =>
mg t59 true (fun o22 => bothK (xconv P T.uint8 T.int t62 h41) o22) h41 fun t63 h42 =>
mg t59 true (fun o23 => o23 (get tT_2 8) h42) h42 fun t64 h43 =>
mg t59 true (fun o24 => bareK (xbin P .sub T.int (.const (.int .i64 127)) (.tmp 64) (.int .i64 127) t64) h43 o24) h43 fun t65 h44 =>
mg t59 true (fun o25 => bareK (xbin P .eql T.int (.tmp 63) (.tmp 65) t63 t65) h44 o25) h44 fun t66 h45 =>
pickK t59 t66 (.bool false) fun t67 =>
mc t67 (fun k26 => enterK C F.law_most [(get tT_2 8)] h45 fun t69 h46 =>
bareK (xbin P .sub T.uint64 (.tmp 69) (.tmp 70) t69 (get tT_2 7)) h46 fun t71 h47 =>
bothK (xconv P T.uint64 T.int t71 h47) fun t72 h48 =>
bareK (xun P .neg t72) h48 fun t73 h49 =>
bareK (xbin P .sub T.int (.tmp 73) (.const (.int .i64 1)) t73 (.int .i64 1)) h49 fun t74 h50 =>
bareK (fad 2 (get tT_2 6)) h50 fun t75 h51 =>
quietK (st1 h51 t75 t74) fun _ h52 =>
k26 .normal [(0, (get tT_2 0)), (1, (get tT_2 1)), (4, (get tT_2 4)), (6, (get tT_2 6)), (7, (get tT_2 7)), (8, (get tT_2 8))] h52) (fun k26 =>
k26 .normal [(0, (get tT_2 0)), (1, (get tT_2 1)), (4, (get tT_2 4)), (6, (get tT_2 6)), (7, (get tT_2 7)), (8, (get tT_2 8))] h45) (blkK [0, 1, 4, 6, 7, 8] 1 k6)) (blkK [0, 1, 4, 6, 7, 8] 1 k6))) (blkK [0, 1, 4, 6, 7, 8] 1 k6))) (seqK (fun tT_3 h53 =>
bareK (xbin P .add T.int (.tmp 25) (.const (.int .i64 1)) (get tT_3 8) (.int .i64 1)) h53 fun t26 h54 =>
k .normal [(0, (get tT_3 0)), (1, (get tT_3 1)), (4, (get tT_3 4)), (6, (get tT_3 6)), (7, (get tT_3 7)), (8, t26)] h54) (afterK [0, 1, 4, 6, 7, 8] k))) (afterK [0, 1, 4, 6, 7, 8] k))

noncomputable def s_law_take_b1 (mg : GT) (mc : CT) (ms : ST) (P : Program) (C : CallF) (L0 : Value → Value → Value → Value → Value → Value → AHeap → K → Res) (L1 : Value → Value → Value → Value → Value → AHeap → K → Res) (v0 : Value) (v1 : Value) (v4 : Value) (v6 : Value) (v9 : Value) (H : AHeap) (k : K) : Res :=
bareK (xbin P .eql T.api_CellKind (.tmp 90) (.const (.int .i64 3)) v1 (.int .i64 3)) H fun t91 h24 =>
mc t91 (fun k9 => k9 .normal [(0, v0), (1, v1), (4, v4), (6, v6), (9, v9)] h24) (fun k9 =>
k9 (.exit 2) [(91, t91), (90, v1), (0, v0), (1, v1), (4, v4), (6, v6), (9, v9)] h24) (seqK (fun tT h25 =>
ms (fun k10 =>
bareK (xbin P .add T.int (.tmp 94) (.const (.int .i64 1)) (get tT 9) (.int .i64 1)) h25 fun t95 h26 =>
bareK (lenT (get tT 0)) h26 fun t97 h27 =>
bareK (xbin P .geq T.int (.tmp 95) (.tmp 97) t95 t97) h27 fun t98 h28 =>
mc t98 (fun k11 => bareK (ldN 5 h28 (get tT 6)) h28 fun t99 h29 =>
quietK (stN 5 h29 (get tT 4) t99) fun _ h30 =>
k11 .ret [(4, (get tT 4)), (5, (.int .i64 0))] h30) (fun k11 =>
k11 .normal [(0, (get tT 0)), (1, (get tT 1)), (4, (get tT 4)), (6, (get tT 6)), (9, (get tT 9))] h28) (seqK (fun tT_1 h31 =>
bareK (xindex P T.string (get tT_1 0) (get tT_1 9)) h31 fun t102 h32 =>
bareK (xbin P .eql T.uint8 (.tmp 102) (.const (.int .u8 0)) t102 (.int .u8 0)) h32 fun t103 h33 =>
mg t103 true (fun o12 => o12 (get tT_1 0) h33) h33 fun t105 h34 =>
mg t103 true (fun o13 => o13 (get tT_1 9) h34) h34 fun t106 h35 =>
mg t103 true (fun o14 => bareK (xbin P .add T.int (.tmp 106) (.const (.int .i64 1)) t106 (.int .i64 1)) h35 o14) h35 fun t107 h36 =>
mg t103 true (fun o15 => bareK (xindex P T.string t105 t107) h36 o15) h36 fun t108 h37 =>
mg t103 true (fun o16 => bareK (xbin P .eql T.uint8 (.tmp 108) (.const (.int .u8 1)) t108 (.int .u8 1)) h37 o16) h37 fun t109 h38 =>
pickK t103 t109 (.bool false) fun t110 =>
mc t110 (fun k17 => k17 (.exit 2) ((110, t110) :: (109, t109) :: (108, t108) :: (107, t107) :: (106, t106) :: (105, t105) :: (104, t103) :: (103, t103) :: (102, t102) :: (101, (get tT_1 9)) :: (100, (get tT_1 0)) :: tT_1) h38) (fun k17 =>
k17 .normal [(0, (get tT_1 0)), (1, (get tT_1 1)), (4, (get tT_1 4)), (6, (get tT_1 6)), (9, (get tT_1 9))] h38) (seqK (fun tT_2 h39 =>
bareK (fad 3 (get tT_2 6)) h39 fun t111 h40 =>
bareK (ld1 h40 t111) h40 fun t112 h41 =>
bareK (xbin P .add T.int (.tmp 115) (.const (.int .i64 1)) (get tT_2 9) (.int .i64 1)) h41 fun t116 h42 =>
bareK (slT (get tT_2 0) (some (get tT_2 9)) (some t116)) h42 fun t117 h43 =>
bareK (xbin P .add T.string (.tmp 112) (.tmp 117) t112 t117) h43 fun t118 h44 =>
bareK (fad 3 (get tT_2 6)) h44 fun t119 h45 =>
quietK (st1 h45 t119 t118) fun _ h46 =>
checkK true <|
bareK (xindex P T.string (get tT_2 0) (get tT_2 9)) h46 fun t122 h47 =>
bareK (xbin P .eql T.uint8 (.tmp 122) (.const (.int .u8 0)) t122 (.int .u8 0)) h47 fun t123 h48 =>
mc t123 (fun k18 => bareK (xbin P .add T.int (.tmp 124) (.const (.int .i64 1)) (get tT_2 9) (.int .i64 1)) h48 fun t125 h49 =>
k18 .normal [(0, (get tT_2 0)), (1, (get tT_2 1)), (4, (get tT_2 4)), (6, (get tT_2 6)), (9, t125)] h49) (fun k18 =>
k18 .normal [(0, (get tT_2 0)), (1, (get tT_2 1)), (4, (get tT_2 4)), (6, (get tT_2 6)), (9, (get tT_2 9))] h48) (blkK [0, 1, 4, 6, 9] 3 k10)) (blkK [0, 1, 4, 6, 9] 3 k10))) (blkK [0, 1, 4, 6, 9] 3 k10))) (seqK (fun tT_3 h50 =>
bareK (xbin P .add T.int (.tmp 92) (.const (.int .i64 1)) (get tT_3 9) (.int .i64 1)) h50 fun t93 h51 =>
k .normal [(0, (get tT_3 0)), (1, (get tT_3 1)), (4, (get tT_3 4)), (6, (get tT_3 6)), (9, t93)] h51) (afterK [0, 1, 4, 6, 9] k))) (afterK [0, 1, 4, 6, 9] k))

theorem s_law_take_eq (M : CombL) (C : CallF) (LP : LoopH) (a0 : Value) (a1 : Value) (H : AHeap) : dBodyL M Tryd.prog hints C LP F.law_take [a0, a1] H = s_law_take M.b.g M.c M.s Tryd.prog C (fun v0 v1 v4 v6 v7 v8 H k => loopL M Tryd.prog hints C LP F.law_take 0 [(0, v0), (1, v1), (4, v4), (6, v6), (7, v7), (8, v8)] H k) (fun v0 v1 v4 v6 v9 H k => loopL M Tryd.prog hints C LP F.law_take 1 [(0, v0), (1, v1), (4, v4), (6, v6), (9, v9)] H k) a0 a1 H (endK Tryd.prog [.cell 4 T.api_Cell, .tmp 5]) := by kernel_rfl

theorem s_law_take_b0_eq (M : CombL) (C : CallF) (LP : LoopH) (v0 : Value) (v1 : Value) (v4 : Value) (v6 : Value) (v7 : Value) (v8 : Value) (H : AHeap) (k : K) : bodyL M Tryd.prog hints C LP F.law_take 0 [(0, v0), (1, v1), (4, v4), (6, v6), (7, v7), (8, v8)] H (afterK [0, 1, 4, 6, 7, 8] k) = s_law_take_b0 M.b.g M.c M.s Tryd.prog C (fun v0 v1 v4 v6 v7 v8 H k => loopL M Tryd.prog hints C LP F.law_take 0 [(0, v0), (1, v1), (4, v4), (6, v6), (7, v7), (8, v8)] H k) (fun v0 v1 v4 v6 v9 H k => loopL M Tryd.prog hints C LP F.law_take 1 [(0, v0), (1, v1), (4, v4), (6, v6), (9, v9)] H k) v0 v1 v4 v6 v7 v8 H k := by kernel_rfl

theorem s_law_take_b1_eq (M : CombL) (C : CallF) (LP : LoopH) (v0 : Value) (v1 : Value) (v4 : Value) (v6 : Value) (v9 : Value) (H : AHeap) (k : K) : bodyL M Tryd.prog hints C LP F.law_take 1 [(0, v0), (1, v1), (4, v4), (6, v6), (9, v9)] H (afterK [0, 1, 4, 6, 9] k) = s_law_take_b1 M.b.g M.c M.s Tryd.prog C (fun v0 v1 v4 v6 v7 v8 H k => loopL M Tryd.prog hints C LP F.law_take 0 [(0, v0), (1, v1), (4, v4), (6, v6), (7, v7), (8, v8)] H k) (fun v0 v1 v4 v6 v9 H k => loopL M Tryd.prog hints C LP F.law_take 1 [(0, v0), (1, v1), (4, v4), (6, v6), (9, v9)] H k) v0 v1 v4 v6 v9 H k := by kernel_rfl

/-! ticketline.rows.are -/

noncomputable def s_rows_are (mg : GT) (mc : CT) (ms : ST) (P : Program) (C : CallF) (L0 : Value → Value → Value → Value → AHeap → K → Res) (a0 : Value) (a1 : Value) (H : AHeap) (K0 : K) : Res :=
bareK (lenS a0) H fun t8 h1 =>
bareK (lenS a1) h1 fun t10 h2 =>
bareK (xbin P .neq T.int (.tmp 8) (.tmp 10) t8 t10) h2 fun t11 h3 =>
mc t11 (fun k1 => k1 .ret [(4, (.bool false))] h3) (fun k1 =>
k1 .normal [(0, a0), (1, a1)] h3) (seqK (fun tT h4 =>
bareK (lenS (get tT 0)) h4 fun t13 h5 =>
ms (fun k2 =>
L0 (get tT 1) (get tT 0) t13 (.int .i64 0) h5 (blkK [] 0 k2)) (seqK (fun tT_1 h6 =>
K0 .ret [(4, (.bool true))] h6) K0)) K0)

noncomputable def s_rows_are_b0 (mg : GT) (mc : CT) (ms : ST) (P : Program) (C : CallF) (L0 : Value → Value → Value → Value → AHeap → K → Res) (v1 : Value) (v12 : Value) (v13 : Value) (v14 : Value) (H : AHeap) (k : K) : Res :=
bareK (xbin P .lss T.int (.tmp 14) (.tmp 13) v14 v13) H fun t15 h6 =>
mc t15 (fun k3 => k3 .normal [(1, v1), (12, v12), (13, v13), (14, v14)] h6) (fun k3 =>
k3 (.exit 0) [(15, t15), (1, v1), (12, v12), (13, v13), (14, v14)] h6) (seqK (fun tT h7 =>
ms (fun k4 =>
bareK (ixS 5 (get tT 12) (get tT 14)) h7 fun t17 h8 =>
bareK (ldN 5 h8 t17) h8 fun t18 h9 =>
bothK (newv T.api_Cell (.agg #[(.int .i64 0), (.int .u64 0), (.int .i64 0), (.string (mk [])), (.bool false)]) h9) fun t6 h10 =>
quietK (stN 5 h10 t6 t18) fun _ h11 =>
bareK (ldN 5 h11 t6) h11 fun t19 h12 =>
bareK (ixS 1 (get tT 1) (get tT 14)) h12 fun t22 h13 =>
bareK (ld1 h13 t22) h13 fun t23 h14 =>
enterK C F.rows_proper [t19, t23] h14 fun t24 h15 =>
bareK (xun P .not t24) h15 fun t25 h16 =>
checkK true <|
mc t25 (fun k5 => k5 .ret [(4, (.bool false))] h16) (fun k5 =>
k5 .normal [(1, (get tT 1)), (12, (get tT 12)), (13, (get tT 13)), (14, (get tT 14))] h16) (blkK [1, 12, 13, 14] 1 k4)) (seqK (fun tT_1 h17 =>
bareK (xbin P .add T.int (.tmp 14) (.const (.int .i64 1)) (get tT_1 14) (.int .i64 1)) h17 fun t26 h18 =>
k .normal [(1, (get tT_1 1)), (12, (get tT_1 12)), (13, (get tT_1 13)), (14, t26)] h18) (afterK [1, 12, 13, 14] k))) (afterK [1, 12, 13, 14] k))

theorem s_rows_are_eq (M : CombL) (C : CallF) (LP : LoopH) (a0 : Value) (a1 : Value) (H : AHeap) : dBodyL M Tryd.prog hints C LP F.rows_are [a0, a1] H = s_rows_are M.b.g M.c M.s Tryd.prog C (fun v1 v12 v13 v14 H k => loopL M Tryd.prog hints C LP F.rows_are 0 [(1, v1), (12, v12), (13, v13), (14, v14)] H k) a0 a1 H (endK Tryd.prog [.tmp 4]) := by kernel_rfl

theorem s_rows_are_b0_eq (M : CombL) (C : CallF) (LP : LoopH) (v1 : Value) (v12 : Value) (v13 : Value) (v14 : Value) (H : AHeap) (k : K) : bodyL M Tryd.prog hints C LP F.rows_are 0 [(1, v1), (12, v12), (13, v13), (14, v14)] H (afterK [1, 12, 13, 14] k) = s_rows_are_b0 M.b.g M.c M.s Tryd.prog C (fun v1 v12 v13 v14 H k => loopL M Tryd.prog hints C LP F.rows_are 0 [(1, v1), (12, v12), (13, v13), (14, v14)] H k) v1 v12 v13 v14 H k := by kernel_rfl

/-! slices.Concat[[]ticketline.api.CellKind,ticketline.api.CellKind] -/

noncomputable def s_slices_Concat_CellKind (mg : GT) (mc : CT) (ms : ST) (P : Program) (C : CallF) (L0 : Value → Value → Value → Value → Value → AHeap → K → Res) (L1 : Value → Value → Value → Value → AHeap → K → Res) (a0 : Value) (H : AHeap) (K0 : K) : Res :=
bareK (lenS a0) H fun t10 h1 =>
ms (fun k1 =>
L0 a0 (.int .i64 0) a0 t10 (.int .i64 0) h1 (blkK [0, 3] 0 k1)) (seqK (fun tT h2 =>
enterK C F.slices_Grow_CellKind [(.slice none 0 0), (get tT 3)] h2 fun t24 h3 =>
bareK (lenS (get tT 0)) h3 fun t26 h4 =>
ms (fun k2 =>
L1 t24 (get tT 0) t26 (.int .i64 0) h4 (blkK [6] 2 k2)) (seqK (fun tT_1 h5 =>
K0 .ret [(2, (get tT_1 6))] h5) K0)) K0)

noncomputable def s_slices_Concat_CellKind_b0 (mg : GT) (mc : CT) (ms : ST) (P : Program) (C : CallF) (L0 : Value → Value → Value → Value → Value → AHeap → K → Res) (L1 : Value → Value → Value → Value → AHeap → K → Res) (v0 : Value) (v3 : Value) (v9 : Value) (v10 : Value) (v11 : Value) (H : AHeap) (k : K) : Res :=
bareK (xbin P .lss T.int (.tmp 11) (.tmp 10) v11 v10) H fun t12 h2 =>
mc t12 (fun k2 => k2 .normal [(0, v0), (3, v3), (9, v9), (10, v10), (11, v11)] h2) (fun k2 =>
k2 (.exit 0) [(12, t12), (0, v0), (3, v3), (9, v9), (10, v10), (11, v11)] h2) (seqK (fun tT h3 =>
ms (fun k3 =>
bareK (ixS 1 (get tT 9) (get tT 11)) h3 fun t13 h4 =>
bareK (ld1 h4 t13) h4 fun t14 h5 =>
bareK (lenS t14) h5 fun t17 h6 =>
bareK (xbin P .add T.int (.tmp 15) (.tmp 17) (get tT 3) t17) h6 fun t18 h7 =>
bareK (xbin P .lss T.int (.tmp 19) (.const (.int .i64 0)) t18 (.int .i64 0)) h7 fun t20 h8 =>
mc t20 (fun k4 => none) (fun k4 =>
k4 .normal [(0, (get tT 0)), (3, t18), (9, (get tT 9)), (10, (get tT 10)), (11, (get tT 11))] h8) (blkK [0, 3, 9, 10, 11] 1 k3)) (seqK (fun tT_1 h9 =>
bareK (xbin P .add T.int (.tmp 11) (.const (.int .i64 1)) (get tT_1 11) (.int .i64 1)) h9 fun t22 h10 =>
k .normal [(0, (get tT_1 0)), (3, (get tT_1 3)), (9, (get tT_1 9)), (10, (get tT_1 10)), (11, t22)] h10) (afterK [0, 3, 9, 10, 11] k))) (afterK [0, 3, 9, 10, 11] k))

noncomputable def s_slices_Concat_CellKind_b1 (mg : GT) (mc : CT) (ms : ST) (P : Program) (C : CallF) (L0 : Value → Value → Value → Value → Value → AHeap → K → Res) (L1 : Value → Value → Value → Value → AHeap → K → Res) (v6 : Value) (v25 : Value) (v26 : Value) (v27 : Value) (H : AHeap) (k : K) : Res :=
bareK (xbin P .lss T.int (.tmp 27) (.tmp 26) v27 v26) H fun t28 h5 =>
mc t28 (fun k3 => k3 .normal [(6, v6), (25, v25), (26, v26), (27, v27)] h5) (fun k3 =>
k3 (.exit 2) [(28, t28), (6, v6), (25, v25), (26, v26), (27, v27)] h5) (seqK (fun tT h6 =>
ms (fun k4 =>
bareK (ixS 1 (get tT 25) (get tT 27)) h6 fun t29 h7 =>
bareK (ld1 h7 t29) h7 fun t30 h8 =>
bothK (app T.api_CellKind 1 8 (get tT 6) (srcS 1 t30 h8) h8) fun t33 h9 =>
k4 .normal [(6, t33), (25, (get tT 25)), (26, (get tT 26)), (27, (get tT 27))] h9) (seqK (fun tT_1 h10 =>
bareK (xbin P .add T.int (.tmp 27) (.const (.int .i64 1)) (get tT_1 27) (.int .i64 1)) h10 fun t34 h11 =>
k .normal [(6, (get tT_1 6)), (25, (get tT_1 25)), (26, (get tT_1 26)), (27, t34)] h11) (afterK [6, 25, 26, 27] k))) (afterK [6, 25, 26, 27] k))

theorem s_slices_Concat_CellKind_eq (M : CombL) (C : CallF) (LP : LoopH) (a0 : Value) (H : AHeap) : dBodyL M Tryd.prog hints C LP F.slices_Concat_CellKind [a0] H = s_slices_Concat_CellKind M.b.g M.c M.s Tryd.prog C (fun v0 v3 v9 v10 v11 H k => loopL M Tryd.prog hints C LP F.slices_Concat_CellKind 0 [(0, v0), (3, v3), (9, v9), (10, v10), (11, v11)] H k) (fun v6 v25 v26 v27 H k => loopL M Tryd.prog hints C LP F.slices_Concat_CellKind 1 [(6, v6), (25, v25), (26, v26), (27, v27)] H k) a0 H (endK Tryd.prog [.tmp 2]) := by kernel_rfl

theorem s_slices_Concat_CellKind_b0_eq (M : CombL) (C : CallF) (LP : LoopH) (v0 : Value) (v3 : Value) (v9 : Value) (v10 : Value) (v11 : Value) (H : AHeap) (k : K) : bodyL M Tryd.prog hints C LP F.slices_Concat_CellKind 0 [(0, v0), (3, v3), (9, v9), (10, v10), (11, v11)] H (afterK [0, 3, 9, 10, 11] k) = s_slices_Concat_CellKind_b0 M.b.g M.c M.s Tryd.prog C (fun v0 v3 v9 v10 v11 H k => loopL M Tryd.prog hints C LP F.slices_Concat_CellKind 0 [(0, v0), (3, v3), (9, v9), (10, v10), (11, v11)] H k) (fun v6 v25 v26 v27 H k => loopL M Tryd.prog hints C LP F.slices_Concat_CellKind 1 [(6, v6), (25, v25), (26, v26), (27, v27)] H k) v0 v3 v9 v10 v11 H k := by kernel_rfl

theorem s_slices_Concat_CellKind_b1_eq (M : CombL) (C : CallF) (LP : LoopH) (v6 : Value) (v25 : Value) (v26 : Value) (v27 : Value) (H : AHeap) (k : K) : bodyL M Tryd.prog hints C LP F.slices_Concat_CellKind 1 [(6, v6), (25, v25), (26, v26), (27, v27)] H (afterK [6, 25, 26, 27] k) = s_slices_Concat_CellKind_b1 M.b.g M.c M.s Tryd.prog C (fun v0 v3 v9 v10 v11 H k => loopL M Tryd.prog hints C LP F.slices_Concat_CellKind 0 [(0, v0), (3, v3), (9, v9), (10, v10), (11, v11)] H k) (fun v6 v25 v26 v27 H k => loopL M Tryd.prog hints C LP F.slices_Concat_CellKind 1 [(6, v6), (25, v25), (26, v26), (27, v27)] H k) v6 v25 v26 v27 H k := by kernel_rfl

/-! ticketline.rows.puts -/

noncomputable def s_rows_puts (mg : GT) (mc : CT) (ms : ST) (P : Program) (C : CallF) (L0 : Value → Value → Value → Value → AHeap → K → Res) (a0 : Value) (a1 : Value) (H : AHeap) (K0 : K) : Res :=
bareK (lenS a1) H fun t8 h1 =>
ms (fun k1 =>
L0 a0 a1 t8 (.int .i64 0) h1 (blkK [0] 0 k1)) (seqK (fun tT h2 =>
bothK (xconv P T.sl_uint8 T.string (get tT 0) h2) fun t18 h3 =>
K0 .ret [(4, t18)] h3) K0)

noncomputable def s_rows_puts_b0 (mg : GT) (mc : CT) (ms : ST) (P : Program) (C : CallF) (L0 : Value → Value → Value → Value → AHeap → K → Res) (v0 : Value) (v7 : Value) (v8 : Value) (v9 : Value) (H : AHeap) (k : K) : Res :=
bareK (xbin P .lss T.int (.tmp 9) (.tmp 8) v9 v8) H fun t10 h2 =>
mc t10 (fun k2 => k2 .normal [(0, v0), (7, v7), (8, v8), (9, v9)] h2) (fun k2 =>
k2 (.exit 0) [(10, t10), (0, v0), (7, v7), (8, v8), (9, v9)] h2) (seqK (fun tT h3 =>
ms (fun k3 =>
bareK (ixS 5 (get tT 7) (get tT 9)) h3 fun t11 h4 =>
bareK (ldN 5 h4 t11) h4 fun t12 h5 =>
bothK (newv T.api_Cell (.agg #[(.int .i64 0), (.int .u64 0), (.int .i64 0), (.string (mk [])), (.bool false)]) h5) fun t6 h6 =>
quietK (stN 5 h6 t6 t12) fun _ h7 =>
bareK (ldN 5 h7 t6) h7 fun t14 h8 =>
enterK C F.rows_put [(get tT 0), t14] h8 fun t15 h9 =>
k3 .normal [(0, t15), (7, (get tT 7)), (8, (get tT 8)), (9, (get tT 9))] h9) (seqK (fun tT_1 h10 =>
bareK (xbin P .add T.int (.tmp 9) (.const (.int .i64 1)) (get tT_1 9) (.int .i64 1)) h10 fun t16 h11 =>
k .normal [(0, (get tT_1 0)), (7, (get tT_1 7)), (8, (get tT_1 8)), (9, t16)] h11) (afterK [0, 7, 8, 9] k))) (afterK [0, 7, 8, 9] k))

theorem s_rows_puts_eq (M : CombL) (C : CallF) (LP : LoopH) (a0 : Value) (a1 : Value) (H : AHeap) : dBodyL M Tryd.prog hints C LP F.rows_puts [a0, a1] H = s_rows_puts M.b.g M.c M.s Tryd.prog C (fun v0 v7 v8 v9 H k => loopL M Tryd.prog hints C LP F.rows_puts 0 [(0, v0), (7, v7), (8, v8), (9, v9)] H k) a0 a1 H (endK Tryd.prog [.tmp 4]) := by kernel_rfl

theorem s_rows_puts_b0_eq (M : CombL) (C : CallF) (LP : LoopH) (v0 : Value) (v7 : Value) (v8 : Value) (v9 : Value) (H : AHeap) (k : K) : bodyL M Tryd.prog hints C LP F.rows_puts 0 [(0, v0), (7, v7), (8, v8), (9, v9)] H (afterK [0, 7, 8, 9] k) = s_rows_puts_b0 M.b.g M.c M.s Tryd.prog C (fun v0 v7 v8 v9 H k => loopL M Tryd.prog hints C LP F.rows_puts 0 [(0, v0), (7, v7), (8, v8), (9, v9)] H k) v0 v7 v8 v9 H k := by kernel_rfl

/-! cmp.Compare[uint64] -/

noncomputable def s_cmp_Compare_uint64 (mg : GT) (mc : CT) (ms : ST) (P : Program) (C : CallF) (a0 : Value) (a1 : Value) (H : AHeap) (K0 : K) : Res :=
enterK C F.cmp_isNaN_uint64 [a0] H fun t8 h1 =>
enterK C F.cmp_isNaN_uint64 [a1] h1 fun t10 h2 =>
mc t8 (fun k1 => mc t10 (fun k2 => k2 .ret [(4, (.int .i64 0))] h2) (fun k2 =>
k2 .normal [] h2) (seqK (fun tT h3 =>
k1 .ret [(4, (.int .i64 (-1)))] h3) (afterK [0, 1, 6] k1))) (fun k1 =>
k1 .normal [(0, a0), (1, a1), (6, t10)] h2) (seqK (fun tT_1 h4 =>
mc (get tT_1 6) (fun k3 => k3 .ret [(4, (.int .i64 1))] h4) (fun k3 =>
k3 .normal [(0, (get tT_1 0)), (1, (get tT_1 1))] h4) (seqK (fun tT_2 h5 =>
bareK (xbin P .lss T.uint64 (.tmp 14) (.tmp 15) (get tT_2 0) (get tT_2 1)) h5 fun t16 h6 =>
mc t16 (fun k4 => k4 .ret [(4, (.int .i64 (-1)))] h6) (fun k4 =>
k4 .normal [(0, (get tT_2 0)), (1, (get tT_2 1))] h6) (seqK (fun tT_3 h7 =>
bareK (xbin P .gtr T.uint64 (.tmp 17) (.tmp 18) (get tT_3 0) (get tT_3 1)) h7 fun t19 h8 =>
mc t19 (fun k5 => k5 .ret [(4, (.int .i64 1))] h8) (fun k5 =>
k5 .normal [] h8) (seqK (fun tT_4 h9 =>
K0 .ret [(4, (.int .i64 0))] h9) K0)) K0)) K0)) K0)

theorem s_cmp_Compare_uint64_eq (M : CombL) (C : CallF) (LP : LoopH) (a0 : Value) (a1 : Value) (H : AHeap) : dBodyL M Tryd.prog hints C LP F.cmp_Compare_uint64 [a0, a1] H = s_cmp_Compare_uint64 M.b.g M.c M.s Tryd.prog C a0 a1 H (endK Tryd.prog [.tmp 4]) := by kernel_rfl

/-! cmp.Compare[int] -/

noncomputable def s_cmp_Compare_int (mg : GT) (mc : CT) (ms : ST) (P : Program) (C : CallF) (a0 : Value) (a1 : Value) (H : AHeap) (K0 : K) : Res :=
enterK C F.cmp_isNaN_int [a0] H fun t8 h1 =>
enterK C F.cmp_isNaN_int [a1] h1 fun t10 h2 =>
mc t8 (fun k1 => mc t10 (fun k2 => k2 .ret [(4, (.int .i64 0))] h2) (fun k2 =>
k2 .normal [] h2) (seqK (fun tT h3 =>
k1 .ret [(4, (.int .i64 (-1)))] h3) (afterK [0, 1, 6] k1))) (fun k1 =>
k1 .normal [(0, a0), (1, a1), (6, t10)] h2) (seqK (fun tT_1 h4 =>
mc (get tT_1 6) (fun k3 => k3 .ret [(4, (.int .i64 1))] h4) (fun k3 =>
k3 .normal [(0, (get tT_1 0)), (1, (get tT_1 1))] h4) (seqK (fun tT_2 h5 =>
bareK (xbin P .lss T.int (.tmp 14) (.tmp 15) (get tT_2 0) (get tT_2 1)) h5 fun t16 h6 =>
mc t16 (fun k4 => k4 .ret [(4, (.int .i64 (-1)))] h6) (fun k4 =>
k4 .normal [(0, (get tT_2 0)), (1, (get tT_2 1))] h6) (seqK (fun tT_3 h7 =>
bareK (xbin P .gtr T.int (.tmp 17) (.tmp 18) (get tT_3 0) (get tT_3 1)) h7 fun t19 h8 =>
mc t19 (fun k5 => k5 .ret [(4, (.int .i64 1))] h8) (fun k5 =>
k5 .normal [] h8) (seqK (fun tT_4 h9 =>
K0 .ret [(4, (.int .i64 0))] h9) K0)) K0)) K0)) K0)

theorem s_cmp_Compare_int_eq (M : CombL) (C : CallF) (LP : LoopH) (a0 : Value) (a1 : Value) (H : AHeap) : dBodyL M Tryd.prog hints C LP F.cmp_Compare_int [a0, a1] H = s_cmp_Compare_int M.b.g M.c M.s Tryd.prog C a0 a1 H (endK Tryd.prog [.tmp 4]) := by kernel_rfl

/-! cmp.Compare[string] -/

noncomputable def s_cmp_Compare_string (mg : GT) (mc : CT) (ms : ST) (P : Program) (C : CallF) (a0 : Value) (a1 : Value) (H : AHeap) (K0 : K) : Res :=
enterK C F.cmp_isNaN_string [a0] H fun t8 h1 =>
enterK C F.cmp_isNaN_string [a1] h1 fun t10 h2 =>
mc t8 (fun k1 => mc t10 (fun k2 => k2 .ret [(4, (.int .i64 0))] h2) (fun k2 =>
k2 .normal [] h2) (seqK (fun tT h3 =>
k1 .ret [(4, (.int .i64 (-1)))] h3) (afterK [0, 1, 6] k1))) (fun k1 =>
k1 .normal [(0, a0), (1, a1), (6, t10)] h2) (seqK (fun tT_1 h4 =>
mc (get tT_1 6) (fun k3 => k3 .ret [(4, (.int .i64 1))] h4) (fun k3 =>
k3 .normal [(0, (get tT_1 0)), (1, (get tT_1 1))] h4) (seqK (fun tT_2 h5 =>
bareK (xbin P .lss T.string (.tmp 14) (.tmp 15) (get tT_2 0) (get tT_2 1)) h5 fun t16 h6 =>
mc t16 (fun k4 => k4 .ret [(4, (.int .i64 (-1)))] h6) (fun k4 =>
k4 .normal [(0, (get tT_2 0)), (1, (get tT_2 1))] h6) (seqK (fun tT_3 h7 =>
bareK (xbin P .gtr T.string (.tmp 17) (.tmp 18) (get tT_3 0) (get tT_3 1)) h7 fun t19 h8 =>
mc t19 (fun k5 => k5 .ret [(4, (.int .i64 1))] h8) (fun k5 =>
k5 .normal [] h8) (seqK (fun tT_4 h9 =>
K0 .ret [(4, (.int .i64 0))] h9) K0)) K0)) K0)) K0)

theorem s_cmp_Compare_string_eq (M : CombL) (C : CallF) (LP : LoopH) (a0 : Value) (a1 : Value) (H : AHeap) : dBodyL M Tryd.prog hints C LP F.cmp_Compare_string [a0, a1] H = s_cmp_Compare_string M.b.g M.c M.s Tryd.prog C a0 a1 H (endK Tryd.prog [.tmp 4]) := by kernel_rfl

/-! slices.ContainsFunc[[]ticketline.api.CellKind,ticketline.api.CellKind] -/

noncomputable def s_slices_ContainsFunc_CellKind (mg : GT) (mc : CT) (ms : ST) (P : Program) (C : CallF) (a0 : Value) (a1 : Value) (H : AHeap) (K0 : K) : Res :=
enterK C F.slices_IndexFunc_CellKind [a0, a1] H fun t7 h1 =>
bareK (xbin P .geq T.int (.tmp 7) (.const (.int .i64 0)) t7 (.int .i64 0)) h1 fun t8 h2 =>
K0 .ret [(4, t8)] h2

theorem s_slices_ContainsFunc_CellKind_eq (M : CombL) (C : CallF) (LP : LoopH) (a0 : Value) (a1 : Value) (H : AHeap) : dBodyL M Tryd.prog hints C LP F.slices_ContainsFunc_CellKind [a0, a1] H = s_slices_ContainsFunc_CellKind M.b.g M.c M.s Tryd.prog C a0 a1 H (endK Tryd.prog [.tmp 4]) := by kernel_rfl

/-! ticketline.rows.Valid$1 -/

noncomputable def s_rows_Valid_1 (mg : GT) (mc : CT) (ms : ST) (P : Program) (C : CallF) (a0 : Value) (H : AHeap) (K0 : K) : Res :=
enterK C F.rows_kind [a0] H fun t4 h1 =>
bareK (xun P .not t4) h1 fun t5 h2 =>
K0 .ret [(2, t5)] h2

theorem s_rows_Valid_1_eq (M : CombL) (C : CallF) (LP : LoopH) (a0 : Value) (H : AHeap) : dBodyL M Tryd.prog hints C LP F.rows_Valid_1 [a0] H = s_rows_Valid_1 M.b.g M.c M.s Tryd.prog C a0 H (endK Tryd.prog [.tmp 2]) := by kernel_rfl

/-! ticketline.rows.kind -/

noncomputable def s_rows_kind (mg : GT) (mc : CT) (ms : ST) (P : Program) (C : CallF) (a0 : Value) (H : AHeap) (K0 : K) : Res :=
bareK (xbin P .geq T.api_CellKind (.tmp 3) (.const (.int .i64 1)) a0 (.int .i64 1)) H fun t4 h1 =>
mg t4 true (fun o1 => o1 a0 h1) h1 fun t6 h2 =>
mg t4 true (fun o2 => bareK (xbin P .leq T.api_CellKind (.tmp 6) (.const (.int .i64 4)) t6 (.int .i64 4)) h2 o2) h2 fun t7 h3 =>
pickK t4 t7 (.bool false) fun t8 =>
K0 .ret [(2, t8)] h3

theorem s_rows_kind_eq (M : CombL) (C : CallF) (LP : LoopH) (a0 : Value) (H : AHeap) : dBodyL M Tryd.prog hints C LP F.rows_kind [a0] H = s_rows_kind M.b.g M.c M.s Tryd.prog C a0 H (endK Tryd.prog [.tmp 2]) := by kernel_rfl

/-! ticketline.rows.Key -/

noncomputable def s_rows_Key (mg : GT) (mc : CT) (ms : ST) (P : Program) (C : CallF) (a0 : Value) (a1 : Value) (H : AHeap) (K0 : K) : Res :=
bothK (newv T.api_Table a0 H) fun t2 h1 =>
bareK (ldN 3 h1 t2) h1 fun t7 h2 =>
enterK C F.rows_Valid [t7] h2 fun t8 h3 =>
bareK (xun P .not t8) h3 fun t9 h4 =>
mg t9 false (fun o1 => o1 a1 h4) h4 fun t11 h5 =>
mg t9 false (fun o2 => bareK (fad 1 t2) h5 o2) h5 fun t12 h6 =>
mg t9 false (fun o3 => bareK (ld1 h6 t12) h6 o3) h6 fun t13 h7 =>
mg t9 false (fun o4 => enterK C F.rows_are [t11, t13] h7 o4) h7 fun t14 h8 =>
mg t9 false (fun o5 => bareK (xun P .not t14) h8 o5) h8 fun t15 h9 =>
pickK t9 (.bool true) t15 fun t16 =>
mc t16 (fun k6 => k6 .ret [(4, (.string (mk []))), (5, (.int .i64 2))] h9) (fun k6 =>
k6 .normal [(1, a1), (2, t2)] h9) (seqK (fun tT h10 =>
bareK (fad 0 (get tT 2)) h10 fun t17 h11 =>
bareK (ld1 h11 t17) h11 fun t18 h12 =>
bothK (xconv P T.int T.uint8 t18 h12) fun t19 h13 =>
bothK (bldL T.uint8 [(.int .u8 0)] 1 [(0, t19)] h13) fun t20 h14 =>
enterK C F.rows_puts [t20, (get tT 1)] h14 fun t22 h15 =>
bareK (lenT t22) h15 fun t24 h16 =>
bareK (xbin P .gtr T.int (.tmp 24) (.const (.int .i64 24)) t24 (.int .i64 24)) h16 fun t25 h17 =>
mc t25 (fun k7 => k7 .ret [(4, (.string (mk []))), (5, (.int .i64 5))] h17) (fun k7 =>
k7 .normal [(6, t22)] h17) (seqK (fun tT_1 h18 =>
K0 .ret [(4, (get tT_1 6)), (5, (.int .i64 0))] h18) K0)) K0)

theorem s_rows_Key_eq (M : CombL) (C : CallF) (LP : LoopH) (a0 : Value) (a1 : Value) (H : AHeap) : dBodyL M Tryd.prog hints C LP F.rows_Key [a0, a1] H = s_rows_Key M.b.g M.c M.s Tryd.prog C a0 a1 H (endK Tryd.prog [.tmp 4, .tmp 5]) := by kernel_rfl

/-! slices.Equal[[]ticketline.api.Cell,ticketline.api.Cell] -/

noncomputable def s_slices_Equal_Cell (mg : GT) (mc : CT) (ms : ST) (P : Program) (C : CallF) (L0 : Value → Value → Value → Value → AHeap → K → Res) (a0 : Value) (a1 : Value) (H : AHeap) (K0 : K) : Res :=
bareK (lenS a0) H fun t7 h1 =>
bareK (lenS a1) h1 fun t9 h2 =>
bareK (xbin P .neq T.int (.tmp 7) (.tmp 9) t7 t9) h2 fun t10 h3 =>
mc t10 (fun k1 => k1 .ret [(4, (.bool false))] h3) (fun k1 =>
k1 .normal [(0, a0), (1, a1)] h3) (seqK (fun tT h4 =>
bareK (lenS (get tT 0)) h4 fun t12 h5 =>
ms (fun k2 =>
L0 (get tT 0) (get tT 1) t12 (.int .i64 0) h5 (blkK [] 0 k2)) (seqK (fun tT_1 h6 =>
K0 .ret [(4, (.bool true))] h6) K0)) K0)

noncomputable def s_slices_Equal_Cell_b0 (mg : GT) (mc : CT) (ms : ST) (P : Program) (C : CallF) (L0 : Value → Value → Value → Value → AHeap → K → Res) (v0 : Value) (v1 : Value) (v12 : Value) (v13 : Value) (H : AHeap) (k : K) : Res :=
bareK (xbin P .lss T.int (.tmp 13) (.tmp 12) v13 v12) H fun t14 h6 =>
mc t14 (fun k3 => k3 .normal [(0, v0), (1, v1), (12, v12), (13, v13)] h6) (fun k3 =>
k3 (.exit 0) [(14, t14), (0, v0), (1, v1), (12, v12), (13, v13)] h6) (seqK (fun tT h7 =>
ms (fun k4 =>
bareK (ixS 5 (get tT 0) (get tT 13)) h7 fun t18 h8 =>
bareK (ldN 5 h8 t18) h8 fun t19 h9 =>
bareK (ixS 5 (get tT 1) (get tT 13)) h9 fun t22 h10 =>
bareK (ldN 5 h10 t22) h10 fun t23 h11 =>
bareK (xbin P .neq T.api_Cell (.tmp 19) (.tmp 23) t19 t23) h11 fun t24 h12 =>
checkK true <|
mc t24 (fun k5 => k5 .ret [(4, (.bool false))] h12) (fun k5 =>
k5 .normal [(0, (get tT 0)), (1, (get tT 1)), (12, (get tT 12)), (13, (get tT 13))] h12) (blkK [0, 1, 12, 13] 1 k4)) (seqK (fun tT_1 h13 =>
bareK (xbin P .add T.int (.tmp 13) (.const (.int .i64 1)) (get tT_1 13) (.int .i64 1)) h13 fun t25 h14 =>
k .normal [(0, (get tT_1 0)), (1, (get tT_1 1)), (12, (get tT_1 12)), (13, t25)] h14) (afterK [0, 1, 12, 13] k))) (afterK [0, 1, 12, 13] k))

theorem s_slices_Equal_Cell_eq (M : CombL) (C : CallF) (LP : LoopH) (a0 : Value) (a1 : Value) (H : AHeap) : dBodyL M Tryd.prog hints C LP F.slices_Equal_Cell [a0, a1] H = s_slices_Equal_Cell M.b.g M.c M.s Tryd.prog C (fun v0 v1 v12 v13 H k => loopL M Tryd.prog hints C LP F.slices_Equal_Cell 0 [(0, v0), (1, v1), (12, v12), (13, v13)] H k) a0 a1 H (endK Tryd.prog [.tmp 4]) := by kernel_rfl

theorem s_slices_Equal_Cell_b0_eq (M : CombL) (C : CallF) (LP : LoopH) (v0 : Value) (v1 : Value) (v12 : Value) (v13 : Value) (H : AHeap) (k : K) : bodyL M Tryd.prog hints C LP F.slices_Equal_Cell 0 [(0, v0), (1, v1), (12, v12), (13, v13)] H (afterK [0, 1, 12, 13] k) = s_slices_Equal_Cell_b0 M.b.g M.c M.s Tryd.prog C (fun v0 v1 v12 v13 H k => loopL M Tryd.prog hints C LP F.slices_Equal_Cell 0 [(0, v0), (1, v1), (12, v12), (13, v13)] H k) v0 v1 v12 v13 H k := by kernel_rfl

/-! ticketline.rows.take -/

noncomputable def s_rows_take (mg : GT) (mc : CT) (ms : ST) (P : Program) (C : CallF) (a0 : Value) (a1 : Value) (H : AHeap) (K0 : K) : Res :=
bothK (newv T.api_Cell (.agg #[(.int .i64 0), (.int .u64 0), (.int .i64 0), (.string (mk [])), (.bool false)]) H) fun t4 h1 =>
bareK (bldS #[(.int .i64 0), (.int .u64 0), (.int .i64 0), (.string (mk [])), (.bool false)] [(0, 1), (1, 1), (2, 1), (3, 1), (4, 1)] [(0, a1)]) h1 fun t14 h2 =>
bothK (newv T.api_Cell (.agg #[(.int .i64 0), (.int .u64 0), (.int .i64 0), (.string (mk [])), (.bool false)]) h2) fun t7 h3 =>
quietK (stN 5 h3 t7 t14) fun _ h4 =>
bareK (xbin P .eql T.string (.tmp 15) (.const (.string (mk []))) a0 (.string (mk []))) h4 fun t16 h5 =>
mc t16 (fun k1 => bareK (ldN 5 h5 t7) h5 fun t17 h6 =>
quietK (stN 5 h6 t4 t17) fun _ h7 =>
k1 .ret [(4, t4), (5, (.string (mk []))), (6, (.bool false))] h7) (fun k1 =>
k1 .normal [(0, a0), (1, a1), (4, t4), (7, t7)] h5) (seqK (fun tT h8 =>
bareK (xindex P T.string (get tT 0) (.int .i64 0)) h8 fun t19 h9 =>
bothK (xconv P T.uint8 T.int t19 h9) fun t20 h10 =>
ms (fun k2 =>
bareK (xbin P .eql T.api_CellKind (.tmp 21) (.const (.int .i64 1)) (get tT 1) (.int .i64 1)) h10 fun t23 h11 =>
mc t23 (fun k3 => bareK (slT (get tT 0) (some (.int .i64 1)) none) h11 fun t26 h12 =>
enterK C F.rows_number [t26, t20, (.bool false)] h12 fun t28 h13 =>
bareK (xextract t28 0) h13 fun t29 h14 =>
bareK (xextract t28 1) h14 fun t30 h15 =>
bareK (xextract t28 2) h15 fun t31 h16 =>
bareK (fad 1 (get tT 7)) h16 fun t32 h17 =>
quietK (st1 h17 t32 t29) fun _ h18 =>
bareK (ldN 5 h18 (get tT 7)) h18 fun t33 h19 =>
quietK (stN 5 h19 (get tT 4) t33) fun _ h20 =>
k3 .ret [(4, (get tT 4)), (5, t30), (6, t31)] h20) (fun k3 =>
bareK (xbin P .eql T.api_CellKind (.tmp 21) (.const (.int .i64 2)) (get tT 1) (.int .i64 2)) h11 fun t37 h21 =>
mc t37 (fun k4 => bareK (xbin P .geq T.int (.tmp 38) (.const (.int .i64 128)) t20 (.int .i64 128)) h21 fun t39 h22 =>
mc t39 (fun k5 => bareK (slT (get tT 0) (some (.int .i64 1)) none) h22 fun t42 h23 =>
bareK (xbin P .sub T.int (.tmp 43) (.const (.int .i64 128)) t20 (.int .i64 128)) h23 fun t44 h24 =>
enterK C F.rows_number [t42, t44, (.bool false)] h24 fun t45 h25 =>
bareK (xextract t45 0) h25 fun t46 h26 =>
bareK (xextract t45 1) h26 fun t47 h27 =>
bareK (xextract t45 2) h27 fun t48 h28 =>
bothK (xconv P T.uint64 T.int t46 h28) fun t50 h29 =>
bareK (fad 2 (get tT 7)) h29 fun t51 h30 =>
quietK (st1 h30 t51 t50) fun _ h31 =>
k5 .normal [(4, (get tT 4)), (7, (get tT 7)), (9, t48), (11, t47)] h31) (fun k5 =>
bareK (slT (get tT 0) (some (.int .i64 1)) none) h22 fun t54 h32 =>
bareK (xbin P .sub T.int (.const (.int .i64 127)) (.tmp 55) (.int .i64 127) t20) h32 fun t56 h33 =>
enterK C F.rows_number [t54, t56, (.bool true)] h33 fun t57 h34 =>
bareK (xextract t57 0) h34 fun t58 h35 =>
bareK (xextract t57 1) h35 fun t59 h36 =>
bareK (xextract t57 2) h36 fun t60 h37 =>
bothK (xconv P T.uint64 T.int t58 h37) fun t62 h38 =>
bareK (xun P .neg t62) h38 fun t63 h39 =>
bareK (xbin P .sub T.int (.tmp 63) (.const (.int .i64 1)) t63 (.int .i64 1)) h39 fun t64 h40 =>
bareK (fad 2 (get tT 7)) h40 fun t65 h41 =>
quietK (st1 h41 t65 t64) fun _ h42 =>
k5 .normal [(4, (get tT 4)), (7, (get tT 7)), (9, t60), (11, t59)] h42) (seqK (fun tT_1 h43 =>
bareK (ldN 5 h43 (get tT_1 7)) h43 fun t66 h44 =>
quietK (stN 5 h44 (get tT_1 4) t66) fun _ h45 =>
k4 .ret [(4, (get tT_1 4)), (5, (get tT_1 11)), (6, (get tT_1 9))] h45) (afterK [0, 4, 7, 8] k4))) (fun k4 =>
bareK (xbin P .eql T.api_CellKind (.tmp 21) (.const (.int .i64 3)) (get tT 1) (.int .i64 3)) h21 fun t70 h46 =>
mc t70 (fun k6 => enterK C F.strings_Index [(get tT 0), (.string (mk [0, 1]))] h46 fun t72 h47 =>
bareK (xbin P .lss T.int (.tmp 73) (.const (.int .i64 0)) t72 (.int .i64 0)) h47 fun t74 h48 =>
mc t74 (fun k7 => bareK (ldN 5 h48 (get tT 7)) h48 fun t75 h49 =>
quietK (stN 5 h49 (get tT 4) t75) fun _ h50 =>
k7 .ret [(4, (get tT 4)), (5, (.string (mk []))), (6, (.bool false))] h50) (fun k7 =>
k7 .normal [(0, (get tT 0)), (4, (get tT 4)), (7, (get tT 7)), (12, t72)] h48) (seqK (fun tT_2 h51 =>
bareK (slT (get tT_2 0) none (some (get tT_2 12))) h51 fun t78 h52 =>
enterK C F.strings_ReplaceAll [t78, (.string (mk [0, 255])), (.string (mk [0]))] h52 fun t79 h53 =>
bareK (fad 3 (get tT_2 7)) h53 fun t80 h54 =>
quietK (st1 h54 t80 t79) fun _ h55 =>
bareK (ldN 5 h55 (get tT_2 7)) h55 fun t81 h56 =>
bareK (xbin P .add T.int (.tmp 83) (.const (.int .i64 2)) (get tT_2 12) (.int .i64 2)) h56 fun t84 h57 =>
bareK (slT (get tT_2 0) (some t84) none) h57 fun t85 h58 =>
quietK (stN 5 h58 (get tT_2 4) t81) fun _ h59 =>
checkK (okV (some true) none h58 h59 h56 h56 && (okV (some true) none h58 h59 h56 h56 && (okV (some true) none h58 h59 h56 h57 && (okV (some true) (blockOf (get tT_2 0)) h58 h59 h57 h58 && true)))) <|
k6 .ret [(4, (get tT_2 4)), (5, t85), (6, (.bool true))] h59) (afterK [0, 4, 7, 8] k6))) (fun k6 =>
k6 .normal [(0, (get tT 0)), (4, (get tT 4)), (7, (get tT 7)), (8, t20)] h46) (afterK [0, 4, 7, 8] k4)) (afterK [0, 4, 7, 8] k3)) (blkK [0, 4, 7, 8] 0 k2)) (seqK (fun tT_3 h60 =>
bareK (xbin P .eql T.int (.tmp 86) (.const (.int .i64 1)) (get tT_3 8) (.int .i64 1)) h60 fun t87 h61 =>
bareK (fad 4 (get tT_3 7)) h61 fun t88 h62 =>
quietK (st1 h62 t88 t87) fun _ h63 =>
bareK (ldN 5 h63 (get tT_3 7)) h63 fun t89 h64 =>
bareK (slT (get tT_3 0) (some (.int .i64 1)) none) h64 fun t91 h65 =>
quietK (stN 5 h65 (get tT_3 4) t89) fun _ h66 =>
checkK (okV (some true) none h65 h66 h64 h64 && (okV (some true) (blockOf (get tT_3 0)) h65 h66 h64 h65 && true)) <|
K0 .ret [(4, (get tT_3 4)), (5, t91), (6, (.bool true))] h66) K0)) K0)

theorem s_rows_take_eq (M : CombL) (C : CallF) (LP : LoopH) (a0 : Value) (a1 : Value) (H : AHeap) : dBodyL M Tryd.prog hints C LP F.rows_take [a0, a1] H = s_rows_take M.b.g M.c M.s Tryd.prog C a0 a1 H (endK Tryd.prog [.cell 4 T.api_Cell, .tmp 5, .tmp 6]) := by kernel_rfl

/-! ticketline.ticketlinelaw40.digits -/

noncomputable def s_law_digits (mg : GT) (mc : CT) (ms : ST) (P : Program) (C : CallF) (a0 : Value) (H : AHeap) (K0 : K) : Res :=
bareK (xbin P .eql T.uint64 (.tmp 3) (.const (.int .u64 0)) a0 (.int .u64 0)) H fun t4 h1 =>
mc t4 (fun k1 => k1 .ret [(2, (.string (mk [])))] h1) (fun k1 =>
k1 .normal [(0, a0)] h1) (seqK (fun tT h2 =>
bareK (xbin P .quo T.uint64 (.tmp 5) (.const (.int .u64 256)) (get tT 0) (.int .u64 256)) h2 fun t6 h3 =>
enterK C F.law_digits [t6] h3 fun t7 h4 =>
bareK (xbin P .rem T.uint64 (.tmp 8) (.const (.int .u64 256)) (get tT 0) (.int .u64 256)) h4 fun t9 h5 =>
bothK (xconv P T.uint64 T.uint8 t9 h5) fun t10 h6 =>
bothK (bldL T.uint8 [(.int .u8 0)] 1 [(0, t10)] h6) fun t11 h7 =>
bothK (xconv P T.sl_uint8 T.string t11 h7) fun t12 h8 =>
bareK (xbin P .add T.string (.tmp 7) (.tmp 12) t7 t12) h8 fun t13 h9 =>
checkK (okV (some true) none h3 h4 h4 h4 && (okV (some true) none h3 h4 h4 h5 && (okV (some true) (blockOf t9) h3 h4 h5 h6 && (okV (some true) none h3 h4 h6 h7 && (okV (some true) (blockOf t11) h3 h4 h7 h8 && true))))) <|
K0 .ret [(2, t13)] h9) K0)

theorem s_law_digits_eq (M : CombL) (C : CallF) (LP : LoopH) (a0 : Value) (H : AHeap) : dBodyL M Tryd.prog hints C LP F.law_digits [a0] H = s_law_digits M.b.g M.c M.s Tryd.prog C a0 H (endK Tryd.prog [.tmp 2]) := by kernel_rfl

/-! ticketline.ticketlinelaw40.most -/

noncomputable def s_law_most (mg : GT) (mc : CT) (ms : ST) (P : Program) (C : CallF) (L0 : Value → Value → Value → AHeap → K → Res) (a0 : Value) (H : AHeap) (K0 : K) : Res :=
ms (fun k1 =>
L0 a0 (.int .u64 0) (.int .i64 0) H (blkK [3] 0 k1)) (seqK (fun tT h1 =>
K0 .ret [(2, (get tT 3))] h1) K0)

noncomputable def s_law_most_b0 (mg : GT) (mc : CT) (ms : ST) (P : Program) (C : CallF) (L0 : Value → Value → Value → AHeap → K → Res) (v0 : Value) (v3 : Value) (v4 : Value) (H : AHeap) (k : K) : Res :=
bareK (xbin P .lss T.int (.tmp 5) (.tmp 6) v4 v0) H fun t7 h1 =>
mc t7 (fun k2 => k2 .normal [(0, v0), (3, v3), (4, v4)] h1) (fun k2 =>
k2 (.exit 0) [(7, t7), (6, v0), (5, v4), (0, v0), (3, v3), (4, v4)] h1) (seqK (fun tT h2 =>
ms (fun k3 =>
bareK (xbin P .mul T.uint64 (.tmp 10) (.const (.int .u64 256)) (get tT 3) (.int .u64 256)) h2 fun t11 h3 =>
bareK (xbin P .add T.uint64 (.tmp 11) (.const (.int .u64 255)) t11 (.int .u64 255)) h3 fun t12 h4 =>
k3 .normal [(0, (get tT 0)), (3, t12), (4, (get tT 4))] h4) (seqK (fun tT_1 h5 =>
bareK (xbin P .add T.int (.tmp 8) (.const (.int .i64 1)) (get tT_1 4) (.int .i64 1)) h5 fun t9 h6 =>
k .normal [(0, (get tT_1 0)), (3, (get tT_1 3)), (4, t9)] h6) (afterK [0, 3, 4] k))) (afterK [0, 3, 4] k))

theorem s_law_most_eq (M : CombL) (C : CallF) (LP : LoopH) (a0 : Value) (H : AHeap) : dBodyL M Tryd.prog hints C LP F.law_most [a0] H = s_law_most M.b.g M.c M.s Tryd.prog C (fun v0 v3 v4 H k => loopL M Tryd.prog hints C LP F.law_most 0 [(0, v0), (3, v3), (4, v4)] H k) a0 H (endK Tryd.prog [.tmp 2]) := by kernel_rfl

theorem s_law_most_b0_eq (M : CombL) (C : CallF) (LP : LoopH) (v0 : Value) (v3 : Value) (v4 : Value) (H : AHeap) (k : K) : bodyL M Tryd.prog hints C LP F.law_most 0 [(0, v0), (3, v3), (4, v4)] H (afterK [0, 3, 4] k) = s_law_most_b0 M.b.g M.c M.s Tryd.prog C (fun v0 v3 v4 H k => loopL M Tryd.prog hints C LP F.law_most 0 [(0, v0), (3, v3), (4, v4)] H k) v0 v3 v4 H k := by kernel_rfl

/-! ticketline.rows.proper -/

noncomputable def s_rows_proper (mg : GT) (mc : CT) (ms : ST) (P : Program) (C : CallF) (a0 : Value) (a1 : Value) (H : AHeap) (K0 : K) : Res :=
bothK (newv T.api_Cell a0 H) fun t2 h1 =>
bareK (bldS #[(.int .i64 0), (.int .u64 0), (.int .i64 0), (.string (mk [])), (.bool false)] [(0, 1), (1, 1), (2, 1), (3, 1), (4, 1)] [(0, a1)]) h1 fun t7 h2 =>
bothK (newv T.api_Cell (.agg #[(.int .i64 0), (.int .u64 0), (.int .i64 0), (.string (mk [])), (.bool false)]) h2) fun t5 h3 =>
quietK (stN 5 h3 t5 t7) fun _ h4 =>
ms (fun k1 =>
bareK (xbin P .eql T.api_CellKind (.tmp 8) (.const (.int .i64 1)) a1 (.int .i64 1)) h4 fun t10 h5 =>
mc t10 (fun k2 => bareK (fad 1 t2) h5 fun t11 h6 =>
bareK (ld1 h6 t11) h6 fun t12 h7 =>
bareK (fad 1 t5) h7 fun t13 h8 =>
quietK (st1 h8 t13 t12) fun _ h9 =>
k2 .normal [(2, t2), (5, t5)] h9) (fun k2 =>
bareK (xbin P .eql T.api_CellKind (.tmp 8) (.const (.int .i64 2)) a1 (.int .i64 2)) h5 fun t15 h10 =>
mc t15 (fun k3 => bareK (fad 2 t2) h10 fun t16 h11 =>
bareK (ld1 h11 t16) h11 fun t17 h12 =>
bareK (fad 2 t5) h12 fun t18 h13 =>
quietK (st1 h13 t18 t17) fun _ h14 =>
k3 .normal [(2, t2), (5, t5)] h14) (fun k3 =>
bareK (xbin P .eql T.api_CellKind (.tmp 8) (.const (.int .i64 3)) a1 (.int .i64 3)) h10 fun t20 h15 =>
mc t20 (fun k4 => bareK (fad 3 t2) h15 fun t21 h16 =>
bareK (ld1 h16 t21) h16 fun t22 h17 =>
bareK (fad 3 t5) h17 fun t23 h18 =>
quietK (st1 h18 t23 t22) fun _ h19 =>
k4 .normal [(2, t2), (5, t5)] h19) (fun k4 =>
bareK (xbin P .eql T.api_CellKind (.tmp 8) (.const (.int .i64 4)) a1 (.int .i64 4)) h15 fun t25 h20 =>
mc t25 (fun k5 => bareK (fad 4 t2) h20 fun t26 h21 =>
bareK (ld1 h21 t26) h21 fun t27 h22 =>
bareK (fad 4 t5) h22 fun t28 h23 =>
quietK (st1 h23 t28 t27) fun _ h24 =>
k5 .normal [(2, t2), (5, t5)] h24) (fun k5 =>
k5 .normal [(2, t2), (5, t5)] h20) (afterK [2, 5] k4)) (afterK [2, 5] k3)) (afterK [2, 5] k2)) (blkK [2, 5] 0 k1)) (seqK (fun tT h25 =>
bareK (ldN 5 h25 (get tT 5)) h25 fun t29 h26 =>
bareK (ldN 5 h26 (get tT 2)) h26 fun t30 h27 =>
bareK (xbin P .eql T.api_Cell (.tmp 29) (.tmp 30) t29 t30) h27 fun t31 h28 =>
K0 .ret [(4, t31)] h28) K0)

theorem s_rows_proper_eq (M : CombL) (C : CallF) (LP : LoopH) (a0 : Value) (a1 : Value) (H : AHeap) : dBodyL M Tryd.prog hints C LP F.rows_proper [a0, a1] H = s_rows_proper M.b.g M.c M.s Tryd.prog C a0 a1 H (endK Tryd.prog [.tmp 4]) := by kernel_rfl

/-! slices.Grow[[]ticketline.api.CellKind,ticketline.api.CellKind] -/

noncomputable def s_slices_Grow_CellKind (mg : GT) (mc : CT) (ms : ST) (P : Program) (C : CallF) (a0 : Value) (a1 : Value) (H : AHeap) (K0 : K) : Res :=
bareK (xbin P .lss T.int (.tmp 5) (.const (.int .i64 0)) a1 (.int .i64 0)) H fun t6 h1 =>
mc t6 (fun k1 => none) (fun k1 =>
k1 .normal [(0, a0), (1, a1)] h1) (seqK (fun tT h2 =>
nextK C h2 (xbuiltin P .cap [T.sl_api_CellKind] [(get tT 0)] h2) fun t10 h3 =>
bareK (lenS (get tT 0)) h3 fun t12 h4 =>
bareK (xbin P .sub T.int (.tmp 10) (.tmp 12) t10 t12) h4 fun t13 h5 =>
bareK (xbin P .sub T.int (.tmp 8) (.tmp 13) (get tT 1) t13) h5 fun t14 h6 =>
bareK (xbin P .gtr T.int (.tmp 15) (.const (.int .i64 0)) t14 (.int .i64 0)) h6 fun t16 h7 =>
mc t16 (fun k2 => nextK C h7 (xbuiltin P .cap [T.sl_api_CellKind] [(get tT 0)] h7) fun t19 h8 =>
bareK (slS T.api_CellKind 1 (get tT 0) none (some t19) none h8) h8 fun t20 h9 =>
bothK (app T.api_CellKind 1 8 t20 (srcZ [(.int .i64 0)] 8 t14) h9) fun t22 h10 =>
bareK (lenS (get tT 0)) h10 fun t24 h11 =>
bareK (slS T.api_CellKind 1 t22 none (some t24) none h11) h11 fun t25 h12 =>
k2 .normal [(0, t25)] h12) (fun k2 =>
k2 .normal [(0, (get tT 0))] h7) (seqK (fun tT_1 h13 =>
K0 .ret [(4, (get tT_1 0))] h13) K0)) K0)

theorem s_slices_Grow_CellKind_eq (M : CombL) (C : CallF) (LP : LoopH) (a0 : Value) (a1 : Value) (H : AHeap) : dBodyL M Tryd.prog hints C LP F.slices_Grow_CellKind [a0, a1] H = s_slices_Grow_CellKind M.b.g M.c M.s Tryd.prog C a0 a1 H (endK Tryd.prog [.tmp 4]) := by kernel_rfl

/-! ticketline.rows.put -/

noncomputable def s_rows_put (mg : GT) (mc : CT) (ms : ST) (P : Program) (C : CallF) (L0 : Value → Value → Value → Value → AHeap → K → Res) (a0 : Value) (a1 : Value) (H : AHeap) (K0 : K) : Res :=
bothK (newv T.api_Cell a1 H) fun t3 h1 =>
bareK (fad 0 t3) h1 fun t9 h2 =>
bareK (ld1 h2 t9) h2 fun t10 h3 =>
ms (fun k1 =>
bareK (xbin P .eql T.api_CellKind (.tmp 10) (.const (.int .i64 1)) t10 (.int .i64 1)) h3 fun t12 h4 =>
mc t12 (fun k2 => bareK (fad 1 t3) h4 fun t13 h5 =>
bareK (ld1 h5 t13) h5 fun t14 h6 =>
enterK C F.rows_digits [t14] h6 fun t15 h7 =>
bareK (lenS t15) h7 fun t18 h8 =>
bothK (xconv P T.int T.uint8 t18 h8) fun t19 h9 =>
bothK (bldL T.uint8 [(.int .u8 0)] 1 [(0, t19)] h9) fun t20 h10 =>
bothK (app T.uint8 1 1 a0 (srcS 1 t20 h10) h10) fun t21 h11 =>
bothK (app T.uint8 1 1 t21 (srcS 1 t15 h11) h11) fun t23 h12 =>
k2 .ret [(4, t23)] h12) (fun k2 =>
bareK (xbin P .eql T.api_CellKind (.tmp 10) (.const (.int .i64 2)) t10 (.int .i64 2)) h4 fun t25 h13 =>
mc t25 (fun k3 => bareK (fad 2 t3) h13 fun t26 h14 =>
bareK (ld1 h14 t26) h14 fun t27 h15 =>
bareK (xbin P .geq T.int (.tmp 27) (.const (.int .i64 0)) t27 (.int .i64 0)) h15 fun t28 h16 =>
mc t28 (fun k4 => bareK (fad 2 t3) h16 fun t29 h17 =>
bareK (ld1 h17 t29) h17 fun t30 h18 =>
bothK (xconv P T.int T.uint64 t30 h18) fun t31 h19 =>
enterK C F.rows_digits [t31] h19 fun t32 h20 =>
bareK (lenS t32) h20 fun t35 h21 =>
bareK (xbin P .add T.int (.const (.int .i64 128)) (.tmp 35) (.int .i64 128) t35) h21 fun t36 h22 =>
bothK (xconv P T.int T.uint8 t36 h22) fun t37 h23 =>
bothK (bldL T.uint8 [(.int .u8 0)] 1 [(0, t37)] h23) fun t38 h24 =>
bothK (app T.uint8 1 1 a0 (srcS 1 t38 h24) h24) fun t39 h25 =>
bothK (app T.uint8 1 1 t39 (srcS 1 t32 h25) h25) fun t41 h26 =>
k4 .ret [(4, t41)] h26) (fun k4 =>
k4 .normal [(0, a0), (3, t3)] h16) (seqK (fun tT h27 =>
bareK (fad 2 (get tT 3)) h27 fun t42 h28 =>
bareK (ld1 h28 t42) h28 fun t43 h29 =>
bareK (xbin P .add T.int (.tmp 43) (.const (.int .i64 1)) t43 (.int .i64 1)) h29 fun t44 h30 =>
bareK (xun P .neg t44) h30 fun t45 h31 =>
bothK (xconv P T.int T.uint64 t45 h31) fun t46 h32 =>
enterK C F.rows_digits [t46] h32 fun t47 h33 =>
bareK (lenS t47) h33 fun t49 h34 =>
ms (fun k5 =>
L0 (get tT 0) t47 t49 (.int .i64 0) h34 (blkK [0, 7] 1 k5)) (seqK (fun tT_1 h35 =>
bareK (lenS (get tT_1 7)) h35 fun t64 h36 =>
bareK (xbin P .sub T.int (.const (.int .i64 127)) (.tmp 64) (.int .i64 127) t64) h36 fun t65 h37 =>
bothK (xconv P T.int T.uint8 t65 h37) fun t66 h38 =>
bothK (bldL T.uint8 [(.int .u8 0)] 1 [(0, t66)] h38) fun t67 h39 =>
bothK (app T.uint8 1 1 (get tT_1 0) (srcS 1 t67 h39) h39) fun t68 h40 =>
bothK (app T.uint8 1 1 t68 (srcS 1 (get tT_1 7) h40) h40) fun t70 h41 =>
k3 .ret [(4, t70)] h41) (afterK [0, 3] k3))) (afterK [0, 3] k3))) (fun k3 =>
bareK (xbin P .eql T.api_CellKind (.tmp 10) (.const (.int .i64 3)) t10 (.int .i64 3)) h13 fun t72 h42 =>
mc t72 (fun k6 => bareK (fad 3 t3) h42 fun t74 h43 =>
bareK (ld1 h43 t74) h43 fun t75 h44 =>
enterK C F.strings_ReplaceAll [t75, (.string (mk [0])), (.string (mk [0, 255]))] h44 fun t76 h45 =>
bothK (app T.uint8 1 1 a0 (srcT t76) h45) fun t77 h46 =>
bothK (bldL T.uint8 [(.int .u8 0)] 2 [(0, (.int .u8 0)), (1, (.int .u8 1))] h46) fun t78 h47 =>
bothK (app T.uint8 1 1 t77 (srcS 1 t78 h47) h47) fun t79 h48 =>
k6 .ret [(4, t79)] h48) (fun k6 =>
k6 .normal [(0, a0), (3, t3)] h42) (afterK [0, 3] k3)) (afterK [0, 3] k2)) (blkK [0, 3] 0 k1)) (seqK (fun tT_2 h49 =>
bareK (fad 4 (get tT_2 3)) h49 fun t80 h50 =>
bareK (ld1 h50 t80) h50 fun t81 h51 =>
mc t81 (fun k7 => bothK (bldL T.uint8 [(.int .u8 0)] 1 [(0, (.int .u8 1))] h51) fun t83 h52 =>
bothK (app T.uint8 1 1 (get tT_2 0) (srcS 1 t83 h52) h52) fun t84 h53 =>
k7 .ret [(4, t84)] h53) (fun k7 =>
k7 .normal [(0, (get tT_2 0))] h51) (seqK (fun tT_3 h54 =>
bothK (bldL T.uint8 [(.int .u8 0)] 1 [(0, (.int .u8 0))] h54) fun t86 h55 =>
bothK (app T.uint8 1 1 (get tT_3 0) (srcS 1 t86 h55) h55) fun t87 h56 =>
K0 .ret [(4, t87)] h56) K0)) K0)

noncomputable def s_rows_put_b0 (mg : GT) (mc : CT) (ms : ST) (P : Program) (C : CallF) (L0 : Value → Value → Value → Value → AHeap → K → Res) (v0 : Value) (v7 : Value) (v49 : Value) (v50 : Value) (H : AHeap) (k : K) : Res :=
bareK (xbin P .lss T.int (.tmp 50) (.tmp 49) v50 v49) H fun t51 h35 =>
mc t51 (fun k6 => k6 .normal [(0, v0), (7, v7), (49, v49), (50, v50)] h35) (fun k6 =>
k6 (.exit 1) [(51, t51), (0, v0), (7, v7), (49, v49), (50, v50)] h35) (seqK (fun tT h36 =>
ms (fun k7 =>
bareK (ixS 1 (get tT 7) (get tT 50)) h36 fun t57 h37 =>
bareK (ld1 h37 t57) h37 fun t58 h38 =>
bareK (xbin P .sub T.uint8 (.const (.int .u8 255)) (.tmp 58) (.int .u8 255) t58) h38 fun t59 h39 =>
bareK (ixS 1 (get tT 7) (get tT 50)) h39 fun t60 h40 =>
quietK (st1 h40 t60 t59) fun _ h41 =>
k7 .normal [(0, (get tT 0)), (7, (get tT 7)), (49, (get tT 49)), (50, (get tT 50))] h41) (seqK (fun tT_1 h42 =>
bareK (xbin P .add T.int (.tmp 50) (.const (.int .i64 1)) (get tT_1 50) (.int .i64 1)) h42 fun t61 h43 =>
k .normal [(0, (get tT_1 0)), (7, (get tT_1 7)), (49, (get tT_1 49)), (50, t61)] h43) (afterK [0, 7, 49, 50] k))) (afterK [0, 7, 49, 50] k))

theorem s_rows_put_eq (M : CombL) (C : CallF) (LP : LoopH) (a0 : Value) (a1 : Value) (H : AHeap) : dBodyL M Tryd.prog hints C LP F.rows_put [a0, a1] H = s_rows_put M.b.g M.c M.s Tryd.prog C (fun v0 v7 v49 v50 H k => loopL M Tryd.prog hints C LP F.rows_put 0 [(0, v0), (7, v7), (49, v49), (50, v50)] H k) a0 a1 H (endK Tryd.prog [.tmp 4]) := by kernel_rfl

theorem s_rows_put_b0_eq (M : CombL) (C : CallF) (LP : LoopH) (v0 : Value) (v7 : Value) (v49 : Value) (v50 : Value) (H : AHeap) (k : K) : bodyL M Tryd.prog hints C LP F.rows_put 0 [(0, v0), (7, v7), (49, v49), (50, v50)] H (afterK [0, 7, 49, 50] k) = s_rows_put_b0 M.b.g M.c M.s Tryd.prog C (fun v0 v7 v49 v50 H k => loopL M Tryd.prog hints C LP F.rows_put 0 [(0, v0), (7, v7), (49, v49), (50, v50)] H k) v0 v7 v49 v50 H k := by kernel_rfl

/-! cmp.isNaN[uint64] -/

noncomputable def s_cmp_isNaN_uint64 (mg : GT) (mc : CT) (ms : ST) (P : Program) (C : CallF) (a0 : Value) (H : AHeap) (K0 : K) : Res :=
bareK (xbin P .neq T.uint64 (.tmp 3) (.tmp 4) a0 a0) H fun t5 h1 =>
K0 .ret [(2, t5)] h1

theorem s_cmp_isNaN_uint64_eq (M : CombL) (C : CallF) (LP : LoopH) (a0 : Value) (H : AHeap) : dBodyL M Tryd.prog hints C LP F.cmp_isNaN_uint64 [a0] H = s_cmp_isNaN_uint64 M.b.g M.c M.s Tryd.prog C a0 H (endK Tryd.prog [.tmp 2]) := by kernel_rfl

/-! cmp.isNaN[int] -/

noncomputable def s_cmp_isNaN_int (mg : GT) (mc : CT) (ms : ST) (P : Program) (C : CallF) (a0 : Value) (H : AHeap) (K0 : K) : Res :=
bareK (xbin P .neq T.int (.tmp 3) (.tmp 4) a0 a0) H fun t5 h1 =>
K0 .ret [(2, t5)] h1

theorem s_cmp_isNaN_int_eq (M : CombL) (C : CallF) (LP : LoopH) (a0 : Value) (H : AHeap) : dBodyL M Tryd.prog hints C LP F.cmp_isNaN_int [a0] H = s_cmp_isNaN_int M.b.g M.c M.s Tryd.prog C a0 H (endK Tryd.prog [.tmp 2]) := by kernel_rfl

/-! cmp.isNaN[string] -/

noncomputable def s_cmp_isNaN_string (mg : GT) (mc : CT) (ms : ST) (P : Program) (C : CallF) (a0 : Value) (H : AHeap) (K0 : K) : Res :=
bareK (xbin P .neq T.string (.tmp 3) (.tmp 4) a0 a0) H fun t5 h1 =>
K0 .ret [(2, t5)] h1

theorem s_cmp_isNaN_string_eq (M : CombL) (C : CallF) (LP : LoopH) (a0 : Value) (H : AHeap) : dBodyL M Tryd.prog hints C LP F.cmp_isNaN_string [a0] H = s_cmp_isNaN_string M.b.g M.c M.s Tryd.prog C a0 H (endK Tryd.prog [.tmp 2]) := by kernel_rfl

/-! slices.IndexFunc[[]ticketline.api.CellKind,ticketline.api.CellKind] -/

noncomputable def s_slices_IndexFunc_CellKind (mg : GT) (mc : CT) (ms : ST) (P : Program) (C : CallF) (L0 : Value → Value → Value → Value → AHeap → K → Res) (a0 : Value) (a1 : Value) (H : AHeap) (K0 : K) : Res :=
bareK (lenS a0) H fun t7 h1 =>
ms (fun k1 =>
L0 a0 a1 t7 (.int .i64 0) h1 (blkK [] 0 k1)) (seqK (fun tT h2 =>
K0 .ret [(4, (.int .i64 (-1)))] h2) K0)

noncomputable def s_slices_IndexFunc_CellKind_b0 (mg : GT) (mc : CT) (ms : ST) (P : Program) (C : CallF) (L0 : Value → Value → Value → Value → AHeap → K → Res) (v0 : Value) (v1 : Value) (v7 : Value) (v8 : Value) (H : AHeap) (k : K) : Res :=
bareK (xbin P .lss T.int (.tmp 8) (.tmp 7) v8 v7) H fun t9 h2 =>
mc t9 (fun k2 => k2 .normal [(0, v0), (1, v1), (7, v7), (8, v8)] h2) (fun k2 =>
k2 (.exit 0) [(9, t9), (0, v0), (1, v1), (7, v7), (8, v8)] h2) (seqK (fun tT h3 =>
ms (fun k3 =>
bareK (ixS 1 (get tT 0) (get tT 8)) h3 fun t14 h4 =>
bareK (ld1 h4 t14) h4 fun t15 h5 =>
callK P C (get tT 1) [t15] h5 fun t16 h6 =>
mc t16 (fun k4 => k4 .ret [(4, (get tT 8))] h6) (fun k4 =>
k4 .normal [(0, (get tT 0)), (1, (get tT 1)), (7, (get tT 7)), (8, (get tT 8))] h6) (blkK [0, 1, 7, 8] 1 k3)) (seqK (fun tT_1 h7 =>
bareK (xbin P .add T.int (.tmp 8) (.const (.int .i64 1)) (get tT_1 8) (.int .i64 1)) h7 fun t18 h8 =>
k .normal [(0, (get tT_1 0)), (1, (get tT_1 1)), (7, (get tT_1 7)), (8, t18)] h8) (afterK [0, 1, 7, 8] k))) (afterK [0, 1, 7, 8] k))

theorem s_slices_IndexFunc_CellKind_eq (M : CombL) (C : CallF) (LP : LoopH) (a0 : Value) (a1 : Value) (H : AHeap) : dBodyL M Tryd.prog hints C LP F.slices_IndexFunc_CellKind [a0, a1] H = s_slices_IndexFunc_CellKind M.b.g M.c M.s Tryd.prog C (fun v0 v1 v7 v8 H k => loopL M Tryd.prog hints C LP F.slices_IndexFunc_CellKind 0 [(0, v0), (1, v1), (7, v7), (8, v8)] H k) a0 a1 H (endK Tryd.prog [.tmp 4]) := by kernel_rfl

theorem s_slices_IndexFunc_CellKind_b0_eq (M : CombL) (C : CallF) (LP : LoopH) (v0 : Value) (v1 : Value) (v7 : Value) (v8 : Value) (H : AHeap) (k : K) : bodyL M Tryd.prog hints C LP F.slices_IndexFunc_CellKind 0 [(0, v0), (1, v1), (7, v7), (8, v8)] H (afterK [0, 1, 7, 8] k) = s_slices_IndexFunc_CellKind_b0 M.b.g M.c M.s Tryd.prog C (fun v0 v1 v7 v8 H k => loopL M Tryd.prog hints C LP F.slices_IndexFunc_CellKind 0 [(0, v0), (1, v1), (7, v7), (8, v8)] H k) v0 v1 v7 v8 H k := by kernel_rfl

/-! ticketline.rows.number -/

noncomputable def s_rows_number (mg : GT) (mc : CT) (ms : ST) (P : Program) (C : CallF) (L0 : Value → Value → Value → Value → Value → Value → Value → AHeap → K → Res) (a0 : Value) (a1 : Value) (a2 : Value) (H : AHeap) (K0 : K) : Res :=
bareK (xbin P .gtr T.int (.tmp 12) (.const (.int .i64 8)) a1 (.int .i64 8)) H fun t13 h1 =>
mg t13 false (fun o1 => o1 a1 h1) h1 fun t15 h2 =>
mg t13 false (fun o2 => o2 a0 h2) h2 fun t16 h3 =>
mg t13 false (fun o3 => bareK (lenT t16) h3 o3) h3 fun t17 h4 =>
mg t13 false (fun o4 => bareK (xbin P .gtr T.int (.tmp 15) (.tmp 17) t15 t17) h4 o4) h4 fun t18 h5 =>
pickK t13 (.bool true) t18 fun t19 =>
mc t19 (fun k5 => k5 .ret [(6, (.int .u64 0)), (7, (.string (mk []))), (8, (.bool false))] h5) (fun k5 =>
k5 .normal [(0, a0), (1, a1), (2, a2)] h5) (seqK (fun tT h6 =>
bareK (slT (get tT 0) none (some (get tT 1))) h6 fun t22 h7 =>
bothK (xconv P T.string T.sl_uint8 t22 h7) fun t23 h8 =>
bareK (lenS t23) h8 fun t24 h9 =>
ms (fun k6 =>
L0 (get tT 0) (get tT 1) (get tT 2) (.int .u64 0) t23 t24 (.int .i64 0) h9 (blkK [0, 1, 9] 0 k6)) (seqK (fun tT_1 h10 =>
bareK (slT (get tT_1 0) (some (get tT_1 1)) none) h10 fun t41 h11 =>
checkK true <|
K0 .ret [(6, (get tT_1 9)), (7, t41), (8, (.bool true))] h11) K0)) K0)

noncomputable def s_rows_number_b0 (mg : GT) (mc : CT) (ms : ST) (P : Program) (C : CallF) (L0 : Value → Value → Value → Value → Value → Value → Value → AHeap → K → Res) (v0 : Value) (v1 : Value) (v2 : Value) (v9 : Value) (v23 : Value) (v24 : Value) (v25 : Value) (H : AHeap) (k : K) : Res :=
bareK (xbin P .lss T.int (.tmp 25) (.tmp 24) v25 v24) H fun t26 h10 =>
mc t26 (fun k7 => k7 .normal [(0, v0), (1, v1), (2, v2), (9, v9), (23, v23), (24, v24), (25, v25)] h10) (fun k7 =>
k7 (.exit 0) [(26, t26), (0, v0), (1, v1), (2, v2), (9, v9), (23, v23), (24, v24), (25, v25)] h10) (seqK (fun tT h11 =>
ms (fun k8 =>
bareK (ixS 1 (get tT 23) (get tT 25)) h11 fun t27 h12 =>
bareK (ld1 h12 t27) h12 fun t28 h13 =>
mc (get tT 2) (fun k9 => bareK (xbin P .sub T.uint8 (.const (.int .u8 255)) (.tmp 30) (.int .u8 255) t28) h13 fun t31 h14 =>
k9 .normal [(0, (get tT 0)), (1, (get tT 1)), (2, (get tT 2)), (9, (get tT 9)), (11, t31), (23, (get tT 23)), (24, (get tT 24)), (25, (get tT 25))] h14) (fun k9 =>
k9 .normal [(0, (get tT 0)), (1, (get tT 1)), (2, (get tT 2)), (9, (get tT 9)), (11, t28), (23, (get tT 23)), (24, (get tT 24)), (25, (get tT 25))] h13) (seqK (fun tT_1 h15 =>
bareK (xbin P .shl T.uint64 (.tmp 32) (.const (.int .u64 8)) (get tT_1 9) (.int .u64 8)) h15 fun t33 h16 =>
bothK (xconv P T.uint8 T.uint64 (get tT_1 11) h16) fun t35 h17 =>
bareK (xbin P .or T.uint64 (.tmp 33) (.tmp 35) t33 t35) h17 fun t36 h18 =>
k8 .normal [(0, (get tT_1 0)), (1, (get tT_1 1)), (2, (get tT_1 2)), (9, t36), (23, (get tT_1 23)), (24, (get tT_1 24)), (25, (get tT_1 25))] h18) (blkK [0, 1, 2, 9, 23, 24, 25] 1 k8))) (seqK (fun tT_2 h19 =>
bareK (xbin P .add T.int (.tmp 25) (.const (.int .i64 1)) (get tT_2 25) (.int .i64 1)) h19 fun t37 h20 =>
k .normal [(0, (get tT_2 0)), (1, (get tT_2 1)), (2, (get tT_2 2)), (9, (get tT_2 9)), (23, (get tT_2 23)), (24, (get tT_2 24)), (25, t37)] h20) (afterK [0, 1, 2, 9, 23, 24, 25] k))) (afterK [0, 1, 2, 9, 23, 24, 25] k))

theorem s_rows_number_eq (M : CombL) (C : CallF) (LP : LoopH) (a0 : Value) (a1 : Value) (a2 : Value) (H : AHeap) : dBodyL M Tryd.prog hints C LP F.rows_number [a0, a1, a2] H = s_rows_number M.b.g M.c M.s Tryd.prog C (fun v0 v1 v2 v9 v23 v24 v25 H k => loopL M Tryd.prog hints C LP F.rows_number 0 [(0, v0), (1, v1), (2, v2), (9, v9), (23, v23), (24, v24), (25, v25)] H k) a0 a1 a2 H (endK Tryd.prog [.tmp 6, .tmp 7, .tmp 8]) := by kernel_rfl

theorem s_rows_number_b0_eq (M : CombL) (C : CallF) (LP : LoopH) (v0 : Value) (v1 : Value) (v2 : Value) (v9 : Value) (v23 : Value) (v24 : Value) (v25 : Value) (H : AHeap) (k : K) : bodyL M Tryd.prog hints C LP F.rows_number 0 [(0, v0), (1, v1), (2, v2), (9, v9), (23, v23), (24, v24), (25, v25)] H (afterK [0, 1, 2, 9, 23, 24, 25] k) = s_rows_number_b0 M.b.g M.c M.s Tryd.prog C (fun v0 v1 v2 v9 v23 v24 v25 H k => loopL M Tryd.prog hints C LP F.rows_number 0 [(0, v0), (1, v1), (2, v2), (9, v9), (23, v23), (24, v24), (25, v25)] H k) v0 v1 v2 v9 v23 v24 v25 H k := by kernel_rfl

/-! strings.Index -/

noncomputable def s_strings_Index (mg : GT) (mc : CT) (ms : ST) (P : Program) (C : CallF) (a0 : Value) (a1 : Value) (H : AHeap) (K0 : K) : Res :=
enterK C F.internal_stringslite_Index [a0, a1] H fun t7 h1 =>
K0 .ret [(4, t7)] h1

theorem s_strings_Index_eq (M : CombL) (C : CallF) (LP : LoopH) (a0 : Value) (a1 : Value) (H : AHeap) : dBodyL M Tryd.prog hints C LP F.strings_Index [a0, a1] H = s_strings_Index M.b.g M.c M.s Tryd.prog C a0 a1 H (endK Tryd.prog [.tmp 4]) := by kernel_rfl

/-! strings.ReplaceAll -/

noncomputable def s_strings_ReplaceAll (mg : GT) (mc : CT) (ms : ST) (P : Program) (C : CallF) (a0 : Value) (a1 : Value) (a2 : Value) (H : AHeap) (K0 : K) : Res :=
enterK C F.strings_Replace [a0, a1, a2, (.int .i64 (-1))] H fun t10 h1 =>
K0 .ret [(6, t10)] h1

theorem s_strings_ReplaceAll_eq (M : CombL) (C : CallF) (LP : LoopH) (a0 : Value) (a1 : Value) (a2 : Value) (H : AHeap) : dBodyL M Tryd.prog hints C LP F.strings_ReplaceAll [a0, a1, a2] H = s_strings_ReplaceAll M.b.g M.c M.s Tryd.prog C a0 a1 a2 H (endK Tryd.prog [.tmp 6]) := by kernel_rfl

/-! ticketline.rows.digits -/

noncomputable def s_rows_digits (mg : GT) (mc : CT) (ms : ST) (P : Program) (C : CallF) (L0 : Value → Value → AHeap → K → Res) (a0 : Value) (H : AHeap) (K0 : K) : Res :=
ms (fun k1 =>
L0 a0 (.slice none 0 0) H (blkK [3] 0 k1)) (seqK (fun tT h1 =>
enterK C F.slices_Reverse_byte [(get tT 3)] h1 fun t14 h2 =>
K0 .ret [(2, (get tT 3))] h2) K0)

noncomputable def s_rows_digits_b0 (mg : GT) (mc : CT) (ms : ST) (P : Program) (C : CallF) (L0 : Value → Value → AHeap → K → Res) (v0 : Value) (v3 : Value) (H : AHeap) (k : K) : Res :=
bareK (xbin P .gtr T.uint64 (.tmp 4) (.const (.int .u64 0)) v0 (.int .u64 0)) H fun t5 h1 =>
mc t5 (fun k2 => k2 .normal [(0, v0), (3, v3)] h1) (fun k2 =>
k2 (.exit 0) [(5, t5), (4, v0), (0, v0), (3, v3)] h1) (seqK (fun tT h2 =>
ms (fun k3 =>
bothK (xconv P T.uint64 T.uint8 (get tT 0) h2) fun t10 h3 =>
bothK (bldL T.uint8 [(.int .u8 0)] 1 [(0, t10)] h3) fun t11 h4 =>
bothK (app T.uint8 1 1 (get tT 3) (srcS 1 t11 h4) h4) fun t12 h5 =>
k3 .normal [(0, (get tT 0)), (3, t12)] h5) (seqK (fun tT_1 h6 =>
bareK (xbin P .shr T.uint64 (.tmp 6) (.const (.int .u64 8)) (get tT_1 0) (.int .u64 8)) h6 fun t7 h7 =>
k .normal [(0, t7), (3, (get tT_1 3))] h7) (afterK [0, 3] k))) (afterK [0, 3] k))

theorem s_rows_digits_eq (M : CombL) (C : CallF) (LP : LoopH) (a0 : Value) (H : AHeap) : dBodyL M Tryd.prog hints C LP F.rows_digits [a0] H = s_rows_digits M.b.g M.c M.s Tryd.prog C (fun v0 v3 H k => loopL M Tryd.prog hints C LP F.rows_digits 0 [(0, v0), (3, v3)] H k) a0 H (endK Tryd.prog [.tmp 2]) := by kernel_rfl

theorem s_rows_digits_b0_eq (M : CombL) (C : CallF) (LP : LoopH) (v0 : Value) (v3 : Value) (H : AHeap) (k : K) : bodyL M Tryd.prog hints C LP F.rows_digits 0 [(0, v0), (3, v3)] H (afterK [0, 3] k) = s_rows_digits_b0 M.b.g M.c M.s Tryd.prog C (fun v0 v3 H k => loopL M Tryd.prog hints C LP F.rows_digits 0 [(0, v0), (3, v3)] H k) v0 v3 H k := by kernel_rfl

/-! internal.stringslite.Index -/

noncomputable def s_internal_stringslite_Index (mg : GT) (mc : CT) (ms : ST) (P : Program) (C : CallF) (L0 : Value → Value → Value → Value → Value → Value → Value → Value → AHeap → K → Res) (a0 : Value) (a1 : Value) (H : AHeap) (K0 : K) : Res :=
bareK (lenT a1) H fun t15 h1 =>
ms (fun k1 =>
bareK (xbin P .eql T.int (.tmp 17) (.const (.int .i64 0)) t15 (.int .i64 0)) h1 fun t18 h2 =>
mg t18 false (fun o2 => o2 a1 h2) h2 fun t20 h3 =>
mg t18 false (fun o3 => o3 a0 h3) h3 fun t21 h4 =>
mg t18 false (fun o4 => bareK (xbin P .eql T.string (.tmp 20) (.tmp 21) t20 t21) h4 o4) h4 fun t22 h5 =>
pickK t18 (.bool true) t22 fun t23 =>
mc t23 (fun k5 => k5 .ret [(4, (.int .i64 0))] h5) (fun k5 =>
bareK (xbin P .eql T.int (.tmp 25) (.const (.int .i64 1)) t15 (.int .i64 1)) h5 fun t26 h6 =>
mc t26 (fun k6 => bareK (xindex P T.string a1 (.int .i64 0)) h6 fun t29 h7 =>
enterK C F.internal_stringslite_IndexByte [a0, t29] h7 fun t30 h8 =>
k6 .ret [(4, t30)] h8) (fun k6 =>
bareK (lenT a0) h6 fun t34 h9 =>
bareK (xbin P .geq T.int (.tmp 32) (.tmp 34) t15 t34) h9 fun t35 h10 =>
mc t35 (fun k7 => k7 .ret [(4, (.int .i64 (-1)))] h10) (fun k7 =>
bareK (ld1 h10 top) h10 fun t38 h11 =>
bareK (xbin P .leq T.int (.tmp 37) (.tmp 38) t15 t38) h11 fun t39 h12 =>
mg t39 true (fun o8 => o8 a0 h12) h12 fun t41 h13 =>
mg t39 true (fun o9 => bareK (lenT t41) h13 o9) h13 fun t42 h14 =>
mg t39 true (fun o10 => bareK (xbin P .leq T.int (.tmp 42) (.const (.int .i64 64)) t42 (.int .i64 64)) h14 o10) h14 fun t43 h15 =>
pickK t39 t43 (.bool false) fun t44 =>
mc t44 (fun k11 => bareK (xext P Tryd.f63 [a0, a1] h15) h15 fun t47 h16 =>
k11 .ret [(4, t47)] h16) (fun k11 =>
k11 .normal [(0, a0), (1, a1), (5, t15)] h15) (afterK [0, 1, 5] k7)) (afterK [0, 1, 5] k6)) (afterK [0, 1, 5] k5)) (blkK [0, 1, 5] 0 k1)) (seqK (fun tT h17 =>
bareK (xindex P T.string (get tT 1) (.int .i64 0)) h17 fun t49 h18 =>
bareK (xindex P T.string (get tT 1) (.int .i64 1)) h18 fun t51 h19 =>
bareK (lenT (get tT 0)) h19 fun t53 h20 =>
bareK (xbin P .sub T.int (.tmp 53) (.tmp 54) t53 (get tT 5)) h20 fun t55 h21 =>
bareK (xbin P .add T.int (.tmp 55) (.const (.int .i64 1)) t55 (.int .i64 1)) h21 fun t56 h22 =>
ms (fun k12 =>
L0 (get tT 0) (get tT 1) (get tT 5) t49 t51 (.int .i64 0) t56 (.int .i64 0) h22 (blkK [] 1 k12)) (seqK (fun tT_1 h23 =>
K0 .ret [(4, (.int .i64 (-1)))] h23) K0)) K0)

noncomputable def s_internal_stringslite_Index_b0 (mg : GT) (mc : CT) (ms : ST) (P : Program) (C : CallF) (L0 : Value → Value → Value → Value → Value → Value → Value → Value → AHeap → K → Res) (v0 : Value) (v1 : Value) (v5 : Value) (v6 : Value) (v7 : Value) (v8 : Value) (v9 : Value) (v10 : Value) (H : AHeap) (k : K) : Res :=
bareK (xbin P .lss T.int (.tmp 57) (.tmp 58) v8 v9) H fun t59 h23 =>
mc t59 (fun k13 => k13 .normal [(0, v0), (1, v1), (5, v5), (6, v6), (7, v7), (8, v8), (9, v9), (10, v10)] h23) (fun k13 =>
k13 (.exit 1) [(59, t59), (58, v9), (57, v8), (0, v0), (1, v1), (5, v5), (6, v6), (7, v7), (8, v8), (9, v9), (10, v10)] h23) (seqK (fun tT h24 =>
ms (fun k14 =>
bareK (xindex P T.string (get tT 0) (get tT 8)) h24 fun t62 h25 =>
bareK (xbin P .neq T.uint8 (.tmp 62) (.tmp 63) t62 (get tT 6)) h25 fun t64 h26 =>
mc t64 (fun k15 => bareK (xbin P .add T.int (.tmp 66) (.const (.int .i64 1)) (get tT 8) (.int .i64 1)) h26 fun t67 h27 =>
bareK (slT (get tT 0) (some t67) (some (get tT 9))) h27 fun t69 h28 =>
enterK C F.internal_stringslite_IndexByte [t69, (get tT 6)] h28 fun t71 h29 =>
bareK (xbin P .lss T.int (.tmp 72) (.const (.int .i64 0)) t71 (.int .i64 0)) h29 fun t73 h30 =>
mc t73 (fun k16 => k16 .ret [(4, (.int .i64 (-1)))] h30) (fun k16 =>
k16 .normal [(0, (get tT 0)), (1, (get tT 1)), (5, (get tT 5)), (6, (get tT 6)), (7, (get tT 7)), (8, (get tT 8)), (9, (get tT 9)), (10, (get tT 10)), (11, t71)] h30) (seqK (fun tT_1 h31 =>
bareK (xbin P .add T.int (.tmp 75) (.const (.int .i64 1)) (get tT_1 11) (.int .i64 1)) h31 fun t76 h32 =>
bareK (xbin P .add T.int (.tmp 74) (.tmp 76) (get tT_1 8) t76) h32 fun t77 h33 =>
k15 .normal [(0, (get tT_1 0)), (1, (get tT_1 1)), (5, (get tT_1 5)), (6, (get tT_1 6)), (7, (get tT_1 7)), (8, t77), (9, (get tT_1 9)), (10, (get tT_1 10))] h33) (afterK [0, 1, 5, 6, 7, 8, 9, 10] k15))) (fun k15 =>
k15 .normal [(0, (get tT 0)), (1, (get tT 1)), (5, (get tT 5)), (6, (get tT 6)), (7, (get tT 7)), (8, (get tT 8)), (9, (get tT 9)), (10, (get tT 10))] h26) (seqK (fun tT_2 h34 =>
bareK (xbin P .add T.int (.tmp 79) (.const (.int .i64 1)) (get tT_2 8) (.int .i64 1)) h34 fun t80 h35 =>
bareK (xindex P T.string (get tT_2 0) t80) h35 fun t81 h36 =>
bareK (xbin P .eql T.uint8 (.tmp 81) (.tmp 82) t81 (get tT_2 7)) h36 fun t83 h37 =>
mg t83 true (fun o17 => o17 (get tT_2 0) h37) h37 fun t85 h38 =>
mg t83 true (fun o18 => o18 (get tT_2 8) h38) h38 fun t86 h39 =>
mg t83 true (fun o19 => o19 (get tT_2 8) h39) h39 fun t87 h40 =>
mg t83 true (fun o20 => o20 (get tT_2 5) h40) h40 fun t88 h41 =>
mg t83 true (fun o21 => bareK (xbin P .add T.int (.tmp 87) (.tmp 88) t87 t88) h41 o21) h41 fun t89 h42 =>
mg t83 true (fun o22 => bareK (slT t85 (some t86) (some t89)) h42 o22) h42 fun t90 h43 =>
mg t83 true (fun o23 => o23 (get tT_2 1) h43) h43 fun t91 h44 =>
mg t83 true (fun o24 => bareK (xbin P .eql T.string (.tmp 90) (.tmp 91) t90 t91) h44 o24) h44 fun t92 h45 =>
pickK t83 t92 (.bool false) fun t93 =>
mc t93 (fun k25 => k25 .ret [(4, (get tT_2 8))] h45) (fun k25 =>
k25 .normal [(0, (get tT_2 0)), (1, (get tT_2 1)), (5, (get tT_2 5)), (6, (get tT_2 6)), (7, (get tT_2 7)), (8, (get tT_2 8)), (9, (get tT_2 9)), (10, (get tT_2 10))] h45) (seqK (fun tT_3 h46 =>
bareK (xbin P .add T.int (.tmp 95) (.const (.int .i64 1)) (get tT_3 8) (.int .i64 1)) h46 fun t96 h47 =>
bareK (xbin P .add T.int (.tmp 97) (.const (.int .i64 1)) (get tT_3 10) (.int .i64 1)) h47 fun t98 h48 =>
bareK (ld1 h48 top) h48 fun t100 h49 =>
bareK (xbin P .leq T.int (.tmp 99) (.tmp 100) (get tT_3 5) t100) h49 fun t101 h50 =>
mg t101 true (fun o26 => o26 t98 h50) h50 fun t103 h51 =>
mg t101 true (fun o27 => o27 t96 h51) h51 fun t104 h52 =>
mg t101 true (fun o28 => enterK C F.internal_bytealg_Cutover [t104] h52 o28) h52 fun t105 h53 =>
mg t101 true (fun o29 => bareK (xbin P .gtr T.int (.tmp 103) (.tmp 105) t103 t105) h53 o29) h53 fun t106 h54 =>
pickK t101 t106 (.bool false) fun t107 =>
mc t107 (fun k30 => bareK (slT (get tT_3 0) (some t96) none) h54 fun t110 h55 =>
bareK (xext P Tryd.f63 [t110, (get tT_3 1)] h55) h55 fun t112 h56 =>
bareK (xbin P .geq T.int (.tmp 113) (.const (.int .i64 0)) t112 (.int .i64 0)) h56 fun t114 h57 =>
mc t114 (fun k31 => bareK (xbin P .add T.int (.tmp 115) (.tmp 116) t112 t96) h57 fun t117 h58 =>
k31 .ret [(4, t117)] h58) (fun k31 =>
k31 .normal [] h57) (seqK (fun tT_4 h59 =>
k30 .ret [(4, (.int .i64 (-1)))] h59) (afterK [0, 1, 5, 6, 7, 8, 9, 10] k30))) (fun k30 =>
bareK (ld1 h54 top) h54 fun t119 h60 =>
bareK (xbin P .gtr T.int (.tmp 118) (.tmp 119) (get tT_3 5) t119) h60 fun t120 h61 =>
mg t120 true (fun o32 => o32 t98 h61) h61 fun t122 h62 =>
mg t120 true (fun o33 => o33 t96 h62) h62 fun t123 h63 =>
mg t120 true (fun o34 => bareK (xbin P .shr T.int (.tmp 123) (.const (.int .u64 4)) t123 (.int .u64 4)) h63 o34) h63 fun t124 h64 =>
mg t120 true (fun o35 => bareK (xbin P .add T.int (.const (.int .i64 4)) (.tmp 124) (.int .i64 4) t124) h64 o35) h64 fun t125 h65 =>
mg t120 true (fun o36 => bareK (xbin P .geq T.int (.tmp 122) (.tmp 125) t122 t125) h65 o36) h65 fun t126 h66 =>
pickK t120 t126 (.bool false) fun t127 =>
mg t127 true (fun o37 => o37 t96 h66) h66 fun t129 h67 =>
mg t127 true (fun o38 => o38 (get tT_3 9) h67) h67 fun t130 h68 =>
mg t127 true (fun o39 => bareK (xbin P .lss T.int (.tmp 129) (.tmp 130) t129 t130) h68 o39) h68 fun t131 h69 =>
pickK t127 t131 (.bool false) fun t132 =>
mc t132 (fun k40 => bareK (slT (get tT_3 0) (some t96) none) h69 fun t135 h70 =>
enterK C F.internal_bytealg_IndexRabinKarp_string [t135, (get tT_3 1)] h70 fun t137 h71 =>
bareK (xbin P .lss T.int (.tmp 138) (.const (.int .i64 0)) t137 (.int .i64 0)) h71 fun t139 h72 =>
mc t139 (fun k41 => k41 .ret [(4, (.int .i64 (-1)))] h72) (fun k41 =>
k41 .normal [(8, t96), (13, t137)] h72) (seqK (fun tT_5 h73 =>
bareK (xbin P .add T.int (.tmp 140) (.tmp 141) (get tT_5 8) (get tT_5 13)) h73 fun t142 h74 =>
k40 .ret [(4, t142)] h74) (afterK [0, 1, 5, 6, 7, 8, 9, 10] k40))) (fun k40 =>
k40 .normal [(0, (get tT_3 0)), (1, (get tT_3 1)), (5, (get tT_3 5)), (6, (get tT_3 6)), (7, (get tT_3 7)), (8, t96), (9, (get tT_3 9)), (10, t98)] h69) (afterK [0, 1, 5, 6, 7, 8, 9, 10] k30)) (blkK [0, 1, 5, 6, 7, 8, 9, 10] 2 k14)) (blkK [0, 1, 5, 6, 7, 8, 9, 10] 2 k14))) (blkK [0, 1, 5, 6, 7, 8, 9, 10] 2 k14))) (afterK [0, 1, 5, 6, 7, 8, 9, 10] k)) (afterK [0, 1, 5, 6, 7, 8, 9, 10] k))

theorem s_internal_stringslite_Index_eq (M : CombL) (C : CallF) (LP : LoopH) (a0 : Value) (a1 : Value) (H : AHeap) : dBodyL M Tryd.prog hints C LP F.internal_stringslite_Index [a0, a1] H = s_internal_stringslite_Index M.b.g M.c M.s Tryd.prog C (fun v0 v1 v5 v6 v7 v8 v9 v10 H k => loopL M Tryd.prog hints C LP F.internal_stringslite_Index 0 [(0, v0), (1, v1), (5, v5), (6, v6), (7, v7), (8, v8), (9, v9), (10, v10)] H k) a0 a1 H (endK Tryd.prog [.tmp 4]) := by kernel_rfl

theorem s_internal_stringslite_Index_b0_eq (M : CombL) (C : CallF) (LP : LoopH) (v0 : Value) (v1 : Value) (v5 : Value) (v6 : Value) (v7 : Value) (v8 : Value) (v9 : Value) (v10 : Value) (H : AHeap) (k : K) : bodyL M Tryd.prog hints C LP F.internal_stringslite_Index 0 [(0, v0), (1, v1), (5, v5), (6, v6), (7, v7), (8, v8), (9, v9), (10, v10)] H (afterK [0, 1, 5, 6, 7, 8, 9, 10] k) = s_internal_stringslite_Index_b0 M.b.g M.c M.s Tryd.prog C (fun v0 v1 v5 v6 v7 v8 v9 v10 H k => loopL M Tryd.prog hints C LP F.internal_stringslite_Index 0 [(0, v0), (1, v1), (5, v5), (6, v6), (7, v7), (8, v8), (9, v9), (10, v10)] H k) v0 v1 v5 v6 v7 v8 v9 v10 H k := by kernel_rfl

/-! strings.Replace -/

noncomputable def s_strings_Replace (mg : GT) (mc : CT) (ms : ST) (P : Program) (C : CallF) (L0 : Value → Value → Value → Value → Value → Value → Value → AHeap → K → Res) (L1 : Value → Value → Value → Value → Value → Value → AHeap → K → Res) (a0 : Value) (a1 : Value) (a2 : Value) (a3 : Value) (H : AHeap) (K0 : K) : Res :=
bareK (xbin P .eql T.string (.tmp 16) (.tmp 17) a1 a2) H fun t18 h1 =>
mg t18 false (fun o1 => o1 a3 h1) h1 fun t20 h2 =>
mg t18 false (fun o2 => bareK (xbin P .eql T.int (.tmp 20) (.const (.int .i64 0)) t20 (.int .i64 0)) h2 o2) h2 fun t21 h3 =>
pickK t18 (.bool true) t21 fun t22 =>
mc t22 (fun k3 => k3 .ret [(8, a0)] h3) (fun k3 =>
k3 .normal [(0, a0), (1, a1), (2, a2), (3, a3)] h3) (seqK (fun tT h4 =>
enterK C F.strings_Count [(get tT 0), (get tT 1)] h4 fun t26 h5 =>
bareK (xbin P .eql T.int (.tmp 27) (.const (.int .i64 0)) t26 (.int .i64 0)) h5 fun t28 h6 =>
mc t28 (fun k4 => k4 .ret [(8, (get tT 0))] h6) (fun k4 =>
bareK (xbin P .lss T.int (.tmp 30) (.const (.int .i64 0)) (get tT 3) (.int .i64 0)) h6 fun t31 h7 =>
mg t31 false (fun o5 => o5 t26 h7) h7 fun t33 h8 =>
mg t31 false (fun o6 => o6 (get tT 3) h8) h8 fun t34 h9 =>
mg t31 false (fun o7 => bareK (xbin P .lss T.int (.tmp 33) (.tmp 34) t33 t34) h9 o7) h9 fun t35 h10 =>
pickK t31 (.bool true) t35 fun t36 =>
mc t36 (fun k8 => k8 .normal [(0, (get tT 0)), (1, (get tT 1)), (2, (get tT 2)), (3, t26)] h10) (fun k8 =>
k8 .normal [(0, (get tT 0)), (1, (get tT 1)), (2, (get tT 2)), (3, (get tT 3))] h10) (afterK [0, 1, 2, 3] k4)) (seqK (fun tT_1 h11 =>
bothK (newv T.strings_Builder (.agg #[(.pointer none), (.slice none 0 0)]) h11) fun t10 h12 =>
bareK (lenT (get tT_1 0)) h12 fun t39 h13 =>
bareK (lenT (get tT_1 2)) h13 fun t42 h14 =>
bareK (lenT (get tT_1 1)) h14 fun t44 h15 =>
bareK (xbin P .sub T.int (.tmp 42) (.tmp 44) t42 t44) h15 fun t45 h16 =>
bareK (xbin P .mul T.int (.tmp 40) (.tmp 45) (get tT_1 3) t45) h16 fun t46 h17 =>
bareK (xbin P .add T.int (.tmp 39) (.tmp 46) t39 t46) h17 fun t47 h18 =>
enterK C F.strings_Builder_Grow [t10, t47] h18 fun t48 h19 =>
bareK (lenT (get tT_1 1)) h19 fun t50 h20 =>
bareK (xbin P .gtr T.int (.tmp 50) (.const (.int .i64 0)) t50 (.int .i64 0)) h20 fun t51 h21 =>
mc t51 (fun k9 => ms (fun k10 =>
L0 (get tT_1 0) (get tT_1 1) (get tT_1 2) t10 (.int .i64 0) (get tT_1 3) (.int .i64 0) h21 (blkK [0, 10, 11] 0 k10)) (afterK [0, 10, 11] k9)) (fun k9 =>
enterK C F.strings_Builder_WriteString [t10, (get tT_1 2)] h21 fun t75 h22 =>
bareK (xbin P .sub T.int (.tmp 76) (.const (.int .i64 1)) (get tT_1 3) (.int .i64 1)) h22 fun t77 h23 =>
ms (fun k11 =>
L1 (get tT_1 0) (get tT_1 2) t10 (.int .i64 0) t77 (.int .i64 0) h23 (blkK [0, 10, 11] 2 k11)) (afterK [0, 10, 11] k9)) (seqK (fun tT_2 h24 =>
bareK (slT (get tT_2 0) (some (get tT_2 11)) none) h24 fun t101 h25 =>
enterK C F.strings_Builder_WriteString [(get tT_2 10), t101] h25 fun t102 h26 =>
enterK C F.strings_Builder_String [(get tT_2 10)] h26 fun t103 h27 =>
K0 .ret [(8, t103)] h27) K0)) K0)) K0)

noncomputable def s_strings_Replace_b0 (mg : GT) (mc : CT) (ms : ST) (P : Program) (C : CallF) (L0 : Value → Value → Value → Value → Value → Value → Value → AHeap → K → Res) (L1 : Value → Value → Value → Value → Value → Value → AHeap → K → Res) (v0 : Value) (v1 : Value) (v2 : Value) (v10 : Value) (v11 : Value) (v52 : Value) (v53 : Value) (H : AHeap) (k : K) : Res :=
bareK (xbin P .lss T.int (.tmp 53) (.tmp 52) v53 v52) H fun t54 h22 =>
mc t54 (fun k11 => k11 .normal [(0, v0), (1, v1), (2, v2), (10, v10), (11, v11), (52, v52), (53, v53)] h22) (fun k11 =>
k11 (.exit 0) [(54, t54), (0, v0), (1, v1), (2, v2), (10, v10), (11, v11), (52, v52), (53, v53)] h22) (seqK (fun tT h23 =>
ms (fun k12 =>
bareK (slT (get tT 0) (some (get tT 11)) none) h23 fun t58 h24 =>
enterK C F.strings_Index [t58, (get tT 1)] h24 fun t60 h25 =>
bareK (xbin P .add T.int (.tmp 55) (.tmp 60) (get tT 11) t60) h25 fun t61 h26 =>
bareK (slT (get tT 0) (some (get tT 11)) (some t61)) h26 fun t65 h27 =>
enterK C F.strings_Builder_WriteString [(get tT 10), t65] h27 fun t66 h28 =>
enterK C F.strings_Builder_WriteString [(get tT 10), (get tT 2)] h28 fun t68 h29 =>
bareK (lenT (get tT 1)) h29 fun t71 h30 =>
bareK (xbin P .add T.int (.tmp 69) (.tmp 71) t61 t71) h30 fun t72 h31 =>
k12 .normal [(0, (get tT 0)), (1, (get tT 1)), (2, (get tT 2)), (10, (get tT 10)), (11, t72), (52, (get tT 52)), (53, (get tT 53))] h31) (seqK (fun tT_1 h32 =>
bareK (xbin P .add T.int (.tmp 53) (.const (.int .i64 1)) (get tT_1 53) (.int .i64 1)) h32 fun t73 h33 =>
k .normal [(0, (get tT_1 0)), (1, (get tT_1 1)), (2, (get tT_1 2)), (10, (get tT_1 10)), (11, (get tT_1 11)), (52, (get tT_1 52)), (53, t73)] h33) (afterK [0, 1, 2, 10, 11, 52, 53] k))) (afterK [0, 1, 2, 10, 11, 52, 53] k))

noncomputable def s_strings_Replace_b1 (mg : GT) (mc : CT) (ms : ST) (P : Program) (C : CallF) (L0 : Value → Value → Value → Value → Value → Value → Value → AHeap → K → Res) (L1 : Value → Value → Value → Value → Value → Value → AHeap → K → Res) (v0 : Value) (v2 : Value) (v10 : Value) (v11 : Value) (v77 : Value) (v78 : Value) (H : AHeap) (k : K) : Res :=
bareK (xbin P .lss T.int (.tmp 78) (.tmp 77) v78 v77) H fun t79 h24 =>
mc t79 (fun k12 => k12 .normal [(0, v0), (2, v2), (10, v10), (11, v11), (77, v77), (78, v78)] h24) (fun k12 =>
k12 (.exit 2) [(79, t79), (0, v0), (2, v2), (10, v10), (11, v11), (77, v77), (78, v78)] h24) (seqK (fun tT h25 =>
ms (fun k13 =>
bareK (slT (get tT 0) (some (get tT 11)) none) h25 fun t83 h26 =>
enterK C F.unicode_utf8_DecodeRuneInString [t83] h26 fun t84 h27 =>
bareK (xextract t84 0) h27 fun t85 h28 =>
bareK (xextract t84 1) h28 fun t86 h29 =>
bareK (xbin P .add T.int (.tmp 87) (.tmp 88) (get tT 11) t86) h29 fun t89 h30 =>
bareK (slT (get tT 0) (some (get tT 11)) (some t89)) h30 fun t93 h31 =>
enterK C F.strings_Builder_WriteString [(get tT 10), t93] h31 fun t94 h32 =>
enterK C F.strings_Builder_WriteString [(get tT 10), (get tT 2)] h32 fun t96 h33 =>
k13 .normal [(0, (get tT 0)), (2, (get tT 2)), (10, (get tT 10)), (11, t89), (77, (get tT 77)), (78, (get tT 78))] h33) (seqK (fun tT_1 h34 =>
bareK (xbin P .add T.int (.tmp 78) (.const (.int .i64 1)) (get tT_1 78) (.int .i64 1)) h34 fun t98 h35 =>
k .normal [(0, (get tT_1 0)), (2, (get tT_1 2)), (10, (get tT_1 10)), (11, (get tT_1 11)), (77, (get tT_1 77)), (78, t98)] h35) (afterK [0, 2, 10, 11, 77, 78] k))) (afterK [0, 2, 10, 11, 77, 78] k))

theorem s_strings_Replace_eq (M : CombL) (C : CallF) (LP : LoopH) (a0 : Value) (a1 : Value) (a2 : Value) (a3 : Value) (H : AHeap) : dBodyL M Tryd.prog hints C LP F.strings_Replace [a0, a1, a2, a3] H = s_strings_Replace M.b.g M.c M.s Tryd.prog C (fun v0 v1 v2 v10 v11 v52 v53 H k => loopL M Tryd.prog hints C LP F.strings_Replace 0 [(0, v0), (1, v1), (2, v2), (10, v10), (11, v11), (52, v52), (53, v53)] H k) (fun v0 v2 v10 v11 v77 v78 H k => loopL M Tryd.prog hints C LP F.strings_Replace 1 [(0, v0), (2, v2), (10, v10), (11, v11), (77, v77), (78, v78)] H k) a0 a1 a2 a3 H (endK Tryd.prog [.tmp 8]) := by kernel_rfl

theorem s_strings_Replace_b0_eq (M : CombL) (C : CallF) (LP : LoopH) (v0 : Value) (v1 : Value) (v2 : Value) (v10 : Value) (v11 : Value) (v52 : Value) (v53 : Value) (H : AHeap) (k : K) : bodyL M Tryd.prog hints C LP F.strings_Replace 0 [(0, v0), (1, v1), (2, v2), (10, v10), (11, v11), (52, v52), (53, v53)] H (afterK [0, 1, 2, 10, 11, 52, 53] k) = s_strings_Replace_b0 M.b.g M.c M.s Tryd.prog C (fun v0 v1 v2 v10 v11 v52 v53 H k => loopL M Tryd.prog hints C LP F.strings_Replace 0 [(0, v0), (1, v1), (2, v2), (10, v10), (11, v11), (52, v52), (53, v53)] H k) (fun v0 v2 v10 v11 v77 v78 H k => loopL M Tryd.prog hints C LP F.strings_Replace 1 [(0, v0), (2, v2), (10, v10), (11, v11), (77, v77), (78, v78)] H k) v0 v1 v2 v10 v11 v52 v53 H k := by kernel_rfl

theorem s_strings_Replace_b1_eq (M : CombL) (C : CallF) (LP : LoopH) (v0 : Value) (v2 : Value) (v10 : Value) (v11 : Value) (v77 : Value) (v78 : Value) (H : AHeap) (k : K) : bodyL M Tryd.prog hints C LP F.strings_Replace 1 [(0, v0), (2, v2), (10, v10), (11, v11), (77, v77), (78, v78)] H (afterK [0, 2, 10, 11, 77, 78] k) = s_strings_Replace_b1 M.b.g M.c M.s Tryd.prog C (fun v0 v1 v2 v10 v11 v52 v53 H k => loopL M Tryd.prog hints C LP F.strings_Replace 0 [(0, v0), (1, v1), (2, v2), (10, v10), (11, v11), (52, v52), (53, v53)] H k) (fun v0 v2 v10 v11 v77 v78 H k => loopL M Tryd.prog hints C LP F.strings_Replace 1 [(0, v0), (2, v2), (10, v10), (11, v11), (77, v77), (78, v78)] H k) v0 v2 v10 v11 v77 v78 H k := by kernel_rfl

/-! slices.Reverse[[]byte,byte] -/

noncomputable def s_slices_Reverse_byte (mg : GT) (mc : CT) (ms : ST) (P : Program) (C : CallF) (L0 : Value → Value → Value → AHeap → K → Res) (a0 : Value) (H : AHeap) (K0 : K) : Res :=
bareK (lenS a0) H fun t5 h1 =>
bareK (xbin P .sub T.int (.tmp 5) (.const (.int .i64 1)) t5 (.int .i64 1)) h1 fun t6 h2 =>
ms (fun k1 =>
L0 a0 (.int .i64 0) t6 h2 (blkK [] 0 k1)) K0

noncomputable def s_slices_Reverse_byte_b0 (mg : GT) (mc : CT) (ms : ST) (P : Program) (C : CallF) (L0 : Value → Value → Value → AHeap → K → Res) (v0 : Value) (v2 : Value) (v3 : Value) (H : AHeap) (k : K) : Res :=
bareK (xbin P .lss T.int (.tmp 7) (.tmp 8) v2 v3) H fun t9 h3 =>
mc t9 (fun k2 => k2 .normal [(0, v0), (2, v2), (3, v3)] h3) (fun k2 =>
k2 (.exit 0) [(9, t9), (8, v3), (7, v2), (0, v0), (2, v2), (3, v3)] h3) (seqK (fun tT h4 =>
ms (fun k3 =>
bareK (ixS 1 (get tT 0) (get tT 3)) h4 fun t20 h5 =>
bareK (ld1 h5 t20) h5 fun t21 h6 =>
bareK (ixS 1 (get tT 0) (get tT 2)) h6 fun t24 h7 =>
bareK (ld1 h7 t24) h7 fun t25 h8 =>
bareK (ixS 1 (get tT 0) (get tT 2)) h8 fun t26 h9 =>
quietK (st1 h9 t26 t21) fun _ h10 =>
bareK (ixS 1 (get tT 0) (get tT 3)) h10 fun t27 h11 =>
quietK (st1 h11 t27 t25) fun _ h12 =>
checkK (okV (some true) none h9 h10 h4 h4 && (okV (some true) none h9 h10 h4 h4 && true)) <|
k3 .normal [(0, (get tT 0)), (2, (get tT 2)), (3, (get tT 3))] h12) (seqK (fun tT_1 h13 =>
bareK (xbin P .add T.int (.tmp 10) (.const (.int .i64 1)) (get tT_1 2) (.int .i64 1)) h13 fun t11 h14 =>
bareK (xbin P .sub T.int (.tmp 12) (.const (.int .i64 1)) (get tT_1 3) (.int .i64 1)) h14 fun t13 h15 =>
k .normal [(0, (get tT_1 0)), (2, t11), (3, t13)] h15) (afterK [0, 2, 3] k))) (afterK [0, 2, 3] k))

theorem s_slices_Reverse_byte_eq (M : CombL) (C : CallF) (LP : LoopH) (a0 : Value) (H : AHeap) : dBodyL M Tryd.prog hints C LP F.slices_Reverse_byte [a0] H = s_slices_Reverse_byte M.b.g M.c M.s Tryd.prog C (fun v0 v2 v3 H k => loopL M Tryd.prog hints C LP F.slices_Reverse_byte 0 [(0, v0), (2, v2), (3, v3)] H k) a0 H (endK Tryd.prog []) := by kernel_rfl

theorem s_slices_Reverse_byte_b0_eq (M : CombL) (C : CallF) (LP : LoopH) (v0 : Value) (v2 : Value) (v3 : Value) (H : AHeap) (k : K) : bodyL M Tryd.prog hints C LP F.slices_Reverse_byte 0 [(0, v0), (2, v2), (3, v3)] H (afterK [0, 2, 3] k) = s_slices_Reverse_byte_b0 M.b.g M.c M.s Tryd.prog C (fun v0 v2 v3 H k => loopL M Tryd.prog hints C LP F.slices_Reverse_byte 0 [(0, v0), (2, v2), (3, v3)] H k) v0 v2 v3 H k := by kernel_rfl

/-! internal.stringslite.IndexByte -/

noncomputable def s_internal_stringslite_IndexByte (mg : GT) (mc : CT) (ms : ST) (P : Program) (C : CallF) (a0 : Value) (a1 : Value) (H : AHeap) (K0 : K) : Res :=
bareK (xext P Tryd.f71 [a0, a1] H) H fun t7 h1 =>
K0 .ret [(4, t7)] h1

theorem s_internal_stringslite_IndexByte_eq (M : CombL) (C : CallF) (LP : LoopH) (a0 : Value) (a1 : Value) (H : AHeap) : dBodyL M Tryd.prog hints C LP F.internal_stringslite_IndexByte [a0, a1] H = s_internal_stringslite_IndexByte M.b.g M.c M.s Tryd.prog C a0 a1 H (endK Tryd.prog [.tmp 4]) := by kernel_rfl

/-! internal.bytealg.Cutover -/

noncomputable def s_internal_bytealg_Cutover (mg : GT) (mc : CT) (ms : ST) (P : Program) (C : CallF) (a0 : Value) (H : AHeap) (K0 : K) : Res :=
bareK (xbin P .add T.int (.tmp 3) (.const (.int .i64 16)) a0 (.int .i64 16)) H fun t4 h1 =>
bareK (xbin P .quo T.int (.tmp 4) (.const (.int .i64 8)) t4 (.int .i64 8)) h1 fun t5 h2 =>
K0 .ret [(2, t5)] h2

theorem s_internal_bytealg_Cutover_eq (M : CombL) (C : CallF) (LP : LoopH) (a0 : Value) (H : AHeap) : dBodyL M Tryd.prog hints C LP F.internal_bytealg_Cutover [a0] H = s_internal_bytealg_Cutover M.b.g M.c M.s Tryd.prog C a0 H (endK Tryd.prog [.tmp 2]) := by kernel_rfl

/-! internal.bytealg.IndexRabinKarp[string] -/

noncomputable def s_internal_bytealg_IndexRabinKarp_string (mg : GT) (mc : CT) (ms : ST) (P : Program) (C : CallF) (L0 : Value → Value → Value → Value → Value → Value → Value → AHeap → K → Res) (L1 : Value → Value → Value → Value → Value → Value → Value → AHeap → K → Res) (a0 : Value) (a1 : Value) (H : AHeap) (K0 : K) : Res :=
enterK C F.internal_bytealg_hashStr_string [a1] H fun t13 h1 =>
bareK (xextract t13 0) h1 fun t14 h2 =>
bareK (xextract t13 1) h2 fun t15 h3 =>
bareK (lenT a1) h3 fun t17 h4 =>
ms (fun k1 =>
L0 a0 a1 t14 t15 t17 (.int .u32 0) (.int .i64 0) h4 (blkK [0, 1, 5, 6, 7, 8] 0 k1)) (seqK (fun tT h5 =>
bareK (xbin P .eql T.uint32 (.tmp 30) (.tmp 31) (get tT 8) (get tT 5)) h5 fun t32 h6 =>
mg t32 true (fun o2 => o2 (get tT 0) h6) h6 fun t34 h7 =>
mg t32 true (fun o3 => o3 (get tT 7) h7) h7 fun t35 h8 =>
mg t32 true (fun o4 => bareK (slT t34 none (some t35)) h8 o4) h8 fun t36 h9 =>
mg t32 true (fun o5 => o5 (get tT 1) h9) h9 fun t37 h10 =>
mg t32 true (fun o6 => bareK (xbin P .eql T.string (.tmp 36) (.tmp 37) t36 t37) h10 o6) h10 fun t38 h11 =>
pickK t32 t38 (.bool false) fun t39 =>
mc t39 (fun k7 => k7 .ret [(4, (.int .i64 0))] h11) (fun k7 =>
k7 .normal [(0, (get tT 0)), (1, (get tT 1)), (5, (get tT 5)), (6, (get tT 6)), (7, (get tT 7)), (8, (get tT 8))] h11) (seqK (fun tT_1 h12 =>
ms (fun k8 =>
L1 (get tT_1 0) (get tT_1 1) (get tT_1 5) (get tT_1 6) (get tT_1 7) (get tT_1 8) (get tT_1 7) h12 (blkK [] 2 k8)) (seqK (fun tT_2 h13 =>
K0 .ret [(4, (.int .i64 (-1)))] h13) K0)) K0)) K0)

noncomputable def s_internal_bytealg_IndexRabinKarp_string_b0 (mg : GT) (mc : CT) (ms : ST) (P : Program) (C : CallF) (L0 : Value → Value → Value → Value → Value → Value → Value → AHeap → K → Res) (L1 : Value → Value → Value → Value → Value → Value → Value → AHeap → K → Res) (v0 : Value) (v1 : Value) (v5 : Value) (v6 : Value) (v7 : Value) (v8 : Value) (v9 : Value) (H : AHeap) (k : K) : Res :=
bareK (xbin P .lss T.int (.tmp 18) (.tmp 19) v9 v7) H fun t20 h5 =>
mc t20 (fun k2 => k2 .normal [(0, v0), (1, v1), (5, v5), (6, v6), (7, v7), (8, v8), (9, v9)] h5) (fun k2 =>
k2 (.exit 0) [(20, t20), (19, v7), (18, v9), (0, v0), (1, v1), (5, v5), (6, v6), (7, v7), (8, v8), (9, v9)] h5) (seqK (fun tT h6 =>
ms (fun k3 =>
bareK (xbin P .mul T.uint32 (.tmp 23) (.const (.int .u32 16777619)) (get tT 8) (.int .u32 16777619)) h6 fun t24 h7 =>
bareK (xindex P T.string (get tT 0) (get tT 9)) h7 fun t27 h8 =>
bothK (xconv P T.uint8 T.uint32 t27 h8) fun t28 h9 =>
bareK (xbin P .add T.uint32 (.tmp 24) (.tmp 28) t24 t28) h9 fun t29 h10 =>
k3 .normal [(0, (get tT 0)), (1, (get tT 1)), (5, (get tT 5)), (6, (get tT 6)), (7, (get tT 7)), (8, t29), (9, (get tT 9))] h10) (seqK (fun tT_1 h11 =>
bareK (xbin P .add T.int (.tmp 21) (.const (.int .i64 1)) (get tT_1 9) (.int .i64 1)) h11 fun t22 h12 =>
k .normal [(0, (get tT_1 0)), (1, (get tT_1 1)), (5, (get tT_1 5)), (6, (get tT_1 6)), (7, (get tT_1 7)), (8, (get tT_1 8)), (9, t22)] h12) (afterK [0, 1, 5, 6, 7, 8, 9] k))) (afterK [0, 1, 5, 6, 7, 8, 9] k))

noncomputable def s_internal_bytealg_IndexRabinKarp_string_b1 (mg : GT) (mc : CT) (ms : ST) (P : Program) (C : CallF) (L0 : Value → Value → Value → Value → Value → Value → Value → AHeap → K → Res) (L1 : Value → Value → Value → Value → Value → Value → Value → AHeap → K → Res) (v0 : Value) (v1 : Value) (v5 : Value) (v6 : Value) (v7 : Value) (v8 : Value) (v10 : Value) (H : AHeap) (k : K) : Res :=
bareK (lenT v0) H fun t43 h13 =>
bareK (xbin P .lss T.int (.tmp 41) (.tmp 43) v10 t43) h13 fun t44 h14 =>
mc t44 (fun k9 => k9 .normal [(0, v0), (1, v1), (5, v5), (6, v6), (7, v7), (8, v8), (10, v10)] h14) (fun k9 =>
k9 (.exit 2) [(44, t44), (43, t43), (42, v0), (41, v10), (0, v0), (1, v1), (5, v5), (6, v6), (7, v7), (8, v8), (10, v10)] h14) (seqK (fun tT h15 =>
ms (fun k10 =>
bareK (xbin P .mul T.uint32 (.tmp 45) (.const (.int .u32 16777619)) (get tT 8) (.int .u32 16777619)) h15 fun t46 h16 =>
bareK (xindex P T.string (get tT 0) (get tT 10)) h16 fun t50 h17 =>
bothK (xconv P T.uint8 T.uint32 t50 h17) fun t51 h18 =>
bareK (xbin P .add T.uint32 (.tmp 47) (.tmp 51) t46 t51) h18 fun t52 h19 =>
bareK (xbin P .sub T.int (.tmp 56) (.tmp 57) (get tT 10) (get tT 7)) h19 fun t58 h20 =>
bareK (xindex P T.string (get tT 0) t58) h20 fun t59 h21 =>
bothK (xconv P T.uint8 T.uint32 t59 h21) fun t60 h22 =>
bareK (xbin P .mul T.uint32 (.tmp 54) (.tmp 60) (get tT 6) t60) h22 fun t61 h23 =>
bareK (xbin P .sub T.uint32 (.tmp 53) (.tmp 61) t52 t61) h23 fun t62 h24 =>
bareK (xbin P .add T.int (.tmp 63) (.const (.int .i64 1)) (get tT 10) (.int .i64 1)) h24 fun t64 h25 =>
bareK (xbin P .eql T.uint32 (.tmp 65) (.tmp 66) t62 (get tT 5)) h25 fun t67 h26 =>
mg t67 true (fun o11 => o11 (get tT 0) h26) h26 fun t69 h27 =>
mg t67 true (fun o12 => o12 t64 h27) h27 fun t70 h28 =>
mg t67 true (fun o13 => o13 (get tT 7) h28) h28 fun t71 h29 =>
mg t67 true (fun o14 => bareK (xbin P .sub T.int (.tmp 70) (.tmp 71) t70 t71) h29 o14) h29 fun t72 h30 =>
mg t67 true (fun o15 => o15 t64 h30) h30 fun t73 h31 =>
mg t67 true (fun o16 => bareK (slT t69 (some t72) (some t73)) h31 o16) h31 fun t74 h32 =>
mg t67 true (fun o17 => o17 (get tT 1) h32) h32 fun t75 h33 =>
mg t67 true (fun o18 => bareK (xbin P .eql T.string (.tmp 74) (.tmp 75) t74 t75) h33 o18) h33 fun t76 h34 =>
pickK t67 t76 (.bool false) fun t77 =>
mc t77 (fun k19 => bareK (xbin P .sub T.int (.tmp 78) (.tmp 79) t64 (get tT 7)) h34 fun t80 h35 =>
k19 .ret [(4, t80)] h35) (fun k19 =>
k19 .normal [(0, (get tT 0)), (1, (get tT 1)), (5, (get tT 5)), (6, (get tT 6)), (7, (get tT 7)), (8, t62), (10, t64)] h34) (blkK [0, 1, 5, 6, 7, 8, 10] 3 k10)) (afterK [0, 1, 5, 6, 7, 8, 10] k)) (afterK [0, 1, 5, 6, 7, 8, 10] k))

theorem s_internal_bytealg_IndexRabinKarp_string_eq (M : CombL) (C : CallF) (LP : LoopH) (a0 : Value) (a1 : Value) (H : AHeap) : dBodyL M Tryd.prog hints C LP F.internal_bytealg_IndexRabinKarp_string [a0, a1] H = s_internal_bytealg_IndexRabinKarp_string M.b.g M.c M.s Tryd.prog C (fun v0 v1 v5 v6 v7 v8 v9 H k => loopL M Tryd.prog hints C LP F.internal_bytealg_IndexRabinKarp_string 0 [(0, v0), (1, v1), (5, v5), (6, v6), (7, v7), (8, v8), (9, v9)] H k) (fun v0 v1 v5 v6 v7 v8 v10 H k => loopL M Tryd.prog hints C LP F.internal_bytealg_IndexRabinKarp_string 1 [(0, v0), (1, v1), (5, v5), (6, v6), (7, v7), (8, v8), (10, v10)] H k) a0 a1 H (endK Tryd.prog [.tmp 4]) := by kernel_rfl

theorem s_internal_bytealg_IndexRabinKarp_string_b0_eq (M : CombL) (C : CallF) (LP : LoopH) (v0 : Value) (v1 : Value) (v5 : Value) (v6 : Value) (v7 : Value) (v8 : Value) (v9 : Value) (H : AHeap) (k : K) : bodyL M Tryd.prog hints C LP F.internal_bytealg_IndexRabinKarp_string 0 [(0, v0), (1, v1), (5, v5), (6, v6), (7, v7), (8, v8), (9, v9)] H (afterK [0, 1, 5, 6, 7, 8, 9] k) = s_internal_bytealg_IndexRabinKarp_string_b0 M.b.g M.c M.s Tryd.prog C (fun v0 v1 v5 v6 v7 v8 v9 H k => loopL M Tryd.prog hints C LP F.internal_bytealg_IndexRabinKarp_string 0 [(0, v0), (1, v1), (5, v5), (6, v6), (7, v7), (8, v8), (9, v9)] H k) (fun v0 v1 v5 v6 v7 v8 v10 H k => loopL M Tryd.prog hints C LP F.internal_bytealg_IndexRabinKarp_string 1 [(0, v0), (1, v1), (5, v5), (6, v6), (7, v7), (8, v8), (10, v10)] H k) v0 v1 v5 v6 v7 v8 v9 H k := by kernel_rfl

theorem s_internal_bytealg_IndexRabinKarp_string_b1_eq (M : CombL) (C : CallF) (LP : LoopH) (v0 : Value) (v1 : Value) (v5 : Value) (v6 : Value) (v7 : Value) (v8 : Value) (v10 : Value) (H : AHeap) (k : K) : bodyL M Tryd.prog hints C LP F.internal_bytealg_IndexRabinKarp_string 1 [(0, v0), (1, v1), (5, v5), (6, v6), (7, v7), (8, v8), (10, v10)] H (afterK [0, 1, 5, 6, 7, 8, 10] k) = s_internal_bytealg_IndexRabinKarp_string_b1 M.b.g M.c M.s Tryd.prog C (fun v0 v1 v5 v6 v7 v8 v9 H k => loopL M Tryd.prog hints C LP F.internal_bytealg_IndexRabinKarp_string 0 [(0, v0), (1, v1), (5, v5), (6, v6), (7, v7), (8, v8), (9, v9)] H k) (fun v0 v1 v5 v6 v7 v8 v10 H k => loopL M Tryd.prog hints C LP F.internal_bytealg_IndexRabinKarp_string 1 [(0, v0), (1, v1), (5, v5), (6, v6), (7, v7), (8, v8), (10, v10)] H k) v0 v1 v5 v6 v7 v8 v10 H k := by kernel_rfl

/-! strings.Count -/

noncomputable def s_strings_Count (mg : GT) (mc : CT) (ms : ST) (P : Program) (C : CallF) (L0 : Value → Value → Value → AHeap → K → Res) (a0 : Value) (a1 : Value) (H : AHeap) (K0 : K) : Res :=
bareK (lenT a1) H fun t8 h1 =>
bareK (xbin P .eql T.int (.tmp 8) (.const (.int .i64 0)) t8 (.int .i64 0)) h1 fun t9 h2 =>
mc t9 (fun k1 => enterK C F.unicode_utf8_RuneCountInString [a0] h2 fun t11 h3 =>
bareK (xbin P .add T.int (.tmp 11) (.const (.int .i64 1)) t11 (.int .i64 1)) h3 fun t12 h4 =>
k1 .ret [(4, t12)] h4) (fun k1 =>
k1 .normal [(0, a0), (1, a1)] h2) (seqK (fun tT h5 =>
bareK (lenT (get tT 1)) h5 fun t14 h6 =>
bareK (xbin P .eql T.int (.tmp 14) (.const (.int .i64 1)) t14 (.int .i64 1)) h6 fun t15 h7 =>
mc t15 (fun k2 => bareK (xindex P T.string (get tT 1) (.int .i64 0)) h7 fun t18 h8 =>
bareK (xext P Tryd.f74 [(get tT 0), t18] h8) h8 fun t19 h9 =>
k2 .ret [(4, t19)] h9) (fun k2 =>
k2 .normal [(0, (get tT 0)), (1, (get tT 1))] h7) (seqK (fun tT_1 h10 =>
ms (fun k3 =>
L0 (get tT_1 0) (get tT_1 1) (.int .i64 0) h10 (blkK [4] 0 k3)) K0) K0)) K0)

noncomputable def s_strings_Count_b0 (mg : GT) (mc : CT) (ms : ST) (P : Program) (C : CallF) (L0 : Value → Value → Value → AHeap → K → Res) (v0 : Value) (v1 : Value) (v5 : Value) (H : AHeap) (k : K) : Res :=
ms (fun k4 =>
enterK C F.strings_Index [v0, v1] H fun t22 h11 =>
bareK (xbin P .eql T.int (.tmp 23) (.const (.int .i64 (-1))) t22 (.int .i64 (-1))) h11 fun t24 h12 =>
mc t24 (fun k5 => k5 .ret [(4, v5)] h12) (fun k5 =>
k5 .normal [(0, v0), (1, v1), (5, v5), (6, t22)] h12) (seqK (fun tT h13 =>
bareK (xbin P .add T.int (.tmp 26) (.const (.int .i64 1)) (get tT 5) (.int .i64 1)) h13 fun t27 h14 =>
bareK (lenT (get tT 1)) h14 fun t31 h15 =>
bareK (xbin P .add T.int (.tmp 29) (.tmp 31) (get tT 6) t31) h15 fun t32 h16 =>
bareK (slT (get tT 0) (some t32) none) h16 fun t33 h17 =>
k4 .normal [(0, t33), (1, (get tT 1)), (5, t27)] h17) (blkK [0, 1, 5] 1 k4))) (afterK [0, 1, 5] k)

theorem s_strings_Count_eq (M : CombL) (C : CallF) (LP : LoopH) (a0 : Value) (a1 : Value) (H : AHeap) : dBodyL M Tryd.prog hints C LP F.strings_Count [a0, a1] H = s_strings_Count M.b.g M.c M.s Tryd.prog C (fun v0 v1 v5 H k => loopL M Tryd.prog hints C LP F.strings_Count 0 [(0, v0), (1, v1), (5, v5)] H k) a0 a1 H (endK Tryd.prog [.tmp 4]) := by kernel_rfl

theorem s_strings_Count_b0_eq (M : CombL) (C : CallF) (LP : LoopH) (v0 : Value) (v1 : Value) (v5 : Value) (H : AHeap) (k : K) : bodyL M Tryd.prog hints C LP F.strings_Count 0 [(0, v0), (1, v1), (5, v5)] H (afterK [0, 1, 5] k) = s_strings_Count_b0 M.b.g M.c M.s Tryd.prog C (fun v0 v1 v5 H k => loopL M Tryd.prog hints C LP F.strings_Count 0 [(0, v0), (1, v1), (5, v5)] H k) v0 v1 v5 H k := by kernel_rfl

/-! (*strings.Builder).Grow -/

noncomputable def s_strings_Builder_Grow (mg : GT) (mc : CT) (ms : ST) (P : Program) (C : CallF) (a0 : Value) (a1 : Value) (H : AHeap) (K0 : K) : Res :=
enterK C F.strings_Builder_copyCheck [a0] H fun t5 h1 =>
bareK (xbin P .lss T.int (.tmp 6) (.const (.int .i64 0)) a1 (.int .i64 0)) h1 fun t7 h2 =>
mc t7 (fun k1 => none) (fun k1 =>
k1 .normal [(0, a0), (1, a1)] h2) (seqK (fun tT h3 =>
bareK (xnilCheck (get tT 0)) h3 fun t10 h4 =>
bareK (fad 1 t10) h4 fun t11 h5 =>
bareK (ld1 h5 t11) h5 fun t12 h6 =>
nextK C h6 (xbuiltin P .cap [T.sl_uint8] [t12] h6) fun t13 h7 =>
bareK (xnilCheck (get tT 0)) h7 fun t15 h8 =>
bareK (fad 1 t15) h8 fun t16 h9 =>
bareK (ld1 h9 t16) h9 fun t17 h10 =>
bareK (lenS t17) h10 fun t18 h11 =>
bareK (xbin P .sub T.int (.tmp 13) (.tmp 18) t13 t18) h11 fun t19 h12 =>
bareK (xbin P .lss T.int (.tmp 19) (.tmp 20) t19 (get tT 1)) h12 fun t21 h13 =>
checkK (okV (some true) none h6 h7 h7 h7 && (okV (some true) none h6 h7 h7 h8 && (okV (some true) none h6 h7 h8 h9 && (okV (some true) (blockOf t16) h6 h7 h9 h10 && (okV (some true) none h6 h7 h10 h11 && (okV (some true) none h6 h7 h12 h12 && true)))))) <|
mc t21 (fun k2 => enterK C F.strings_Builder_grow [(get tT 0), (get tT 1)] h13 fun t24 h14 =>
k2 .normal [] h14) (fun k2 =>
k2 .normal [] h13) K0) K0)

theorem s_strings_Builder_Grow_eq (M : CombL) (C : CallF) (LP : LoopH) (a0 : Value) (a1 : Value) (H : AHeap) : dBodyL M Tryd.prog hints C LP F.strings_Builder_Grow [a0, a1] H = s_strings_Builder_Grow M.b.g M.c M.s Tryd.prog C a0 a1 H (endK Tryd.prog []) := by kernel_rfl

/-! (*strings.Builder).WriteString -/

noncomputable def s_strings_Builder_WriteString (mg : GT) (mc : CT) (ms : ST) (P : Program) (C : CallF) (a0 : Value) (a1 : Value) (H : AHeap) (K0 : K) : Res :=
enterK C F.strings_Builder_copyCheck [a0] H fun t7 h1 =>
bareK (xnilCheck a0) h1 fun t10 h2 =>
bareK (fad 1 t10) h2 fun t11 h3 =>
bareK (ld1 h3 t11) h3 fun t12 h4 =>
bothK (app T.uint8 1 1 t12 (srcT a1) h4) fun t14 h5 =>
bareK (xnilCheck a0) h5 fun t15 h6 =>
bareK (fad 1 t15) h6 fun t16 h7 =>
quietK (st1 h7 t16 t14) fun _ h8 =>
bareK (lenT a1) h8 fun t18 h9 =>
K0 .ret [(4, t18), (5, .nilIface)] h9

theorem s_strings_Builder_WriteString_eq (M : CombL) (C : CallF) (LP : LoopH) (a0 : Value) (a1 : Value) (H : AHeap) : dBodyL M Tryd.prog hints C LP F.strings_Builder_WriteString [a0, a1] H = s_strings_Builder_WriteString M.b.g M.c M.s Tryd.prog C a0 a1 H (endK Tryd.prog [.tmp 4, .tmp 5]) := by kernel_rfl

/-! unicode.utf8.DecodeRuneInString -/

noncomputable def s_unicode_utf8_DecodeRuneInString (mg : GT) (mc : CT) (ms : ST) (P : Program) (C : CallF) (a0 : Value) (H : AHeap) (K0 : K) : Res :=
bareK (xbin P .neq T.string (.tmp 4) (.const (.string (mk []))) a0 (.string (mk []))) H fun t5 h1 =>
mg t5 true (fun o1 => o1 a0 h1) h1 fun t7 h2 =>
mg t5 true (fun o2 => bareK (xindex P T.string t7 (.int .i64 0)) h2 o2) h2 fun t8 h3 =>
mg t5 true (fun o3 => bareK (xbin P .lss T.uint8 (.tmp 8) (.const (.int .u8 128)) t8 (.int .u8 128)) h3 o3) h3 fun t9 h4 =>
pickK t5 t9 (.bool false) fun t10 =>
mc t10 (fun k4 => bareK (xindex P T.string a0 (.int .i64 0)) h4 fun t12 h5 =>
bothK (xconv P T.uint8 T.int32 t12 h5) fun t13 h6 =>
k4 .ret [(2, t13), (3, (.int .i64 1))] h6) (fun k4 =>
enterK C F.unicode_utf8_decodeRuneInStringSlow [a0] h4 fun t16 h7 =>
bareK (xextract t16 0) h7 fun t17 h8 =>
bareK (xextract t16 1) h8 fun t18 h9 =>
k4 .normal [(2, t17), (3, t18)] h9) (seqK (fun tT h10 =>
K0 .ret [(2, (get tT 2)), (3, (get tT 3))] h10) K0)

theorem s_unicode_utf8_DecodeRuneInString_eq (M : CombL) (C : CallF) (LP : LoopH) (a0 : Value) (H : AHeap) : dBodyL M Tryd.prog hints C LP F.unicode_utf8_DecodeRuneInString [a0] H = s_unicode_utf8_DecodeRuneInString M.b.g M.c M.s Tryd.prog C a0 H (endK Tryd.prog [.tmp 2, .tmp 3]) := by kernel_rfl

/-! (*strings.Builder).String -/

noncomputable def s_strings_Builder_String (mg : GT) (mc : CT) (ms : ST) (P : Program) (C : CallF) (a0 : Value) (H : AHeap) (K0 : K) : Res :=
bareK (xnilCheck a0) H fun t4 h1 =>
bareK (fad 1 t4) h1 fun t5 h2 =>
bareK (ld1 h2 t5) h2 fun t6 h3 =>
nextK C h3 (xbuiltin P .unsafeSliceData [T.sl_uint8] [t6] h3) fun t7 h4 =>
bareK (xnilCheck a0) h4 fun t9 h5 =>
bareK (fad 1 t9) h5 fun t10 h6 =>
bareK (ld1 h6 t10) h6 fun t11 h7 =>
bareK (lenS t11) h7 fun t12 h8 =>
nextK C h8 (xbuiltin P .unsafeString [T.p_uint8, T.int] [t7, t12] h8) fun t13 h9 =>
checkK (okV (some true) none h3 h4 h4 h4 && (okV (some true) none h3 h4 h4 h5 && (okV (some true) none h3 h4 h5 h6 && (okV (some true) (blockOf t10) h3 h4 h6 h7 && (okV (some true) none h3 h4 h7 h8 && true))))) <|
K0 .ret [(2, t13)] h9

theorem s_strings_Builder_String_eq (M : CombL) (C : CallF) (LP : LoopH) (a0 : Value) (H : AHeap) : dBodyL M Tryd.prog hints C LP F.strings_Builder_String [a0] H = s_strings_Builder_String M.b.g M.c M.s Tryd.prog C a0 H (endK Tryd.prog [.tmp 2]) := by kernel_rfl

/-! internal.bytealg.hashStr[string] -/

noncomputable def s_internal_bytealg_hashStr_string (mg : GT) (mc : CT) (ms : ST) (P : Program) (C : CallF) (L0 : Value → Value → Value → AHeap → K → Res) (L1 : Value → Value → Value → Value → AHeap → K → Res) (a0 : Value) (H : AHeap) (K0 : K) : Res :=
ms (fun k1 =>
L0 a0 (.int .u32 0) (.int .i64 0) H (blkK [0, 4] 0 k1)) (seqK (fun tT h1 =>
bareK (lenT (get tT 0)) h1 fun t23 h2 =>
ms (fun k2 =>
L1 (get tT 4) (.int .u32 1) (.int .u32 16777619) t23 h2 (blkK [4, 6] 2 k2)) (seqK (fun tT_1 h3 =>
K0 .ret [(2, (get tT_1 4)), (3, (get tT_1 6))] h3) K0)) K0)

noncomputable def s_internal_bytealg_hashStr_string_b0 (mg : GT) (mc : CT) (ms : ST) (P : Program) (C : CallF) (L0 : Value → Value → Value → AHeap → K → Res) (L1 : Value → Value → Value → Value → AHeap → K → Res) (v0 : Value) (v4 : Value) (v5 : Value) (H : AHeap) (k : K) : Res :=
bareK (lenT v0) H fun t11 h1 =>
bareK (xbin P .lss T.int (.tmp 9) (.tmp 11) v5 t11) h1 fun t12 h2 =>
mc t12 (fun k2 => k2 .normal [(0, v0), (4, v4), (5, v5)] h2) (fun k2 =>
k2 (.exit 0) [(12, t12), (11, t11), (10, v0), (9, v5), (0, v0), (4, v4), (5, v5)] h2) (seqK (fun tT h3 =>
ms (fun k3 =>
bareK (xbin P .mul T.uint32 (.tmp 15) (.const (.int .u32 16777619)) (get tT 4) (.int .u32 16777619)) h3 fun t16 h4 =>
bareK (xindex P T.string (get tT 0) (get tT 5)) h4 fun t19 h5 =>
bothK (xconv P T.uint8 T.uint32 t19 h5) fun t20 h6 =>
bareK (xbin P .add T.uint32 (.tmp 16) (.tmp 20) t16 t20) h6 fun t21 h7 =>
k3 .normal [(0, (get tT 0)), (4, t21), (5, (get tT 5))] h7) (seqK (fun tT_1 h8 =>
bareK (xbin P .add T.int (.tmp 13) (.const (.int .i64 1)) (get tT_1 5) (.int .i64 1)) h8 fun t14 h9 =>
k .normal [(0, (get tT_1 0)), (4, (get tT_1 4)), (5, t14)] h9) (afterK [0, 4, 5] k))) (afterK [0, 4, 5] k))

noncomputable def s_internal_bytealg_hashStr_string_b1 (mg : GT) (mc : CT) (ms : ST) (P : Program) (C : CallF) (L0 : Value → Value → Value → AHeap → K → Res) (L1 : Value → Value → Value → Value → AHeap → K → Res) (v4 : Value) (v6 : Value) (v7 : Value) (v8 : Value) (H : AHeap) (k : K) : Res :=
bareK (xbin P .gtr T.int (.tmp 24) (.const (.int .i64 0)) v8 (.int .i64 0)) H fun t25 h3 =>
mc t25 (fun k3 => k3 .normal [(4, v4), (6, v6), (7, v7), (8, v8)] h3) (fun k3 =>
k3 (.exit 2) [(25, t25), (24, v8), (4, v4), (6, v6), (7, v7), (8, v8)] h3) (seqK (fun tT h4 =>
ms (fun k4 =>
bareK (xbin P .and T.int (.tmp 28) (.const (.int .i64 1)) (get tT 8) (.int .i64 1)) h4 fun t29 h5 =>
bareK (xbin P .neq T.int (.tmp 29) (.const (.int .i64 0)) t29 (.int .i64 0)) h5 fun t30 h6 =>
mc t30 (fun k5 => bareK (xbin P .mul T.uint32 (.tmp 31) (.tmp 32) (get tT 6) (get tT 7)) h6 fun t33 h7 =>
k5 .normal [(4, (get tT 4)), (6, t33), (7, (get tT 7)), (8, (get tT 8))] h7) (fun k5 =>
k5 .normal [(4, (get tT 4)), (6, (get tT 6)), (7, (get tT 7)), (8, (get tT 8))] h6) (seqK (fun tT_1 h8 =>
bareK (xbin P .mul T.uint32 (.tmp 34) (.tmp 35) (get tT_1 7) (get tT_1 7)) h8 fun t36 h9 =>
k4 .normal [(4, (get tT_1 4)), (6, (get tT_1 6)), (7, t36), (8, (get tT_1 8))] h9) (blkK [4, 6, 7, 8] 3 k4))) (seqK (fun tT_2 h10 =>
bareK (xbin P .shr T.int (.tmp 26) (.const (.int .u64 1)) (get tT_2 8) (.int .u64 1)) h10 fun t27 h11 =>
k .normal [(4, (get tT_2 4)), (6, (get tT_2 6)), (7, (get tT_2 7)), (8, t27)] h11) (afterK [4, 6, 7, 8] k))) (afterK [4, 6, 7, 8] k))

theorem s_internal_bytealg_hashStr_string_eq (M : CombL) (C : CallF) (LP : LoopH) (a0 : Value) (H : AHeap) : dBodyL M Tryd.prog hints C LP F.internal_bytealg_hashStr_string [a0] H = s_internal_bytealg_hashStr_string M.b.g M.c M.s Tryd.prog C (fun v0 v4 v5 H k => loopL M Tryd.prog hints C LP F.internal_bytealg_hashStr_string 0 [(0, v0), (4, v4), (5, v5)] H k) (fun v4 v6 v7 v8 H k => loopL M Tryd.prog hints C LP F.internal_bytealg_hashStr_string 1 [(4, v4), (6, v6), (7, v7), (8, v8)] H k) a0 H (endK Tryd.prog [.tmp 2, .tmp 3]) := by kernel_rfl

theorem s_internal_bytealg_hashStr_string_b0_eq (M : CombL) (C : CallF) (LP : LoopH) (v0 : Value) (v4 : Value) (v5 : Value) (H : AHeap) (k : K) : bodyL M Tryd.prog hints C LP F.internal_bytealg_hashStr_string 0 [(0, v0), (4, v4), (5, v5)] H (afterK [0, 4, 5] k) = s_internal_bytealg_hashStr_string_b0 M.b.g M.c M.s Tryd.prog C (fun v0 v4 v5 H k => loopL M Tryd.prog hints C LP F.internal_bytealg_hashStr_string 0 [(0, v0), (4, v4), (5, v5)] H k) (fun v4 v6 v7 v8 H k => loopL M Tryd.prog hints C LP F.internal_bytealg_hashStr_string 1 [(4, v4), (6, v6), (7, v7), (8, v8)] H k) v0 v4 v5 H k := by kernel_rfl

theorem s_internal_bytealg_hashStr_string_b1_eq (M : CombL) (C : CallF) (LP : LoopH) (v4 : Value) (v6 : Value) (v7 : Value) (v8 : Value) (H : AHeap) (k : K) : bodyL M Tryd.prog hints C LP F.internal_bytealg_hashStr_string 1 [(4, v4), (6, v6), (7, v7), (8, v8)] H (afterK [4, 6, 7, 8] k) = s_internal_bytealg_hashStr_string_b1 M.b.g M.c M.s Tryd.prog C (fun v0 v4 v5 H k => loopL M Tryd.prog hints C LP F.internal_bytealg_hashStr_string 0 [(0, v0), (4, v4), (5, v5)] H k) (fun v4 v6 v7 v8 H k => loopL M Tryd.prog hints C LP F.internal_bytealg_hashStr_string 1 [(4, v4), (6, v6), (7, v7), (8, v8)] H k) v4 v6 v7 v8 H k := by kernel_rfl

/-! (*strings.Builder).grow -/

noncomputable def s_strings_Builder_grow (mg : GT) (mc : CT) (ms : ST) (P : Program) (C : CallF) (a0 : Value) (a1 : Value) (H : AHeap) (K0 : K) : Res :=
bareK (xnilCheck a0) H fun t6 h1 =>
bareK (fad 1 t6) h1 fun t7 h2 =>
bareK (ld1 h2 t7) h2 fun t8 h3 =>
nextK C h3 (xbuiltin P .cap [T.sl_uint8] [t8] h3) fun t9 h4 =>
bareK (xbin P .mul T.int (.const (.int .i64 2)) (.tmp 9) (.int .i64 2) t9) h4 fun t10 h5 =>
bareK (xbin P .add T.int (.tmp 10) (.tmp 11) t10 a1) h5 fun t12 h6 =>
bareK (xext P Tryd.f79 [t12] h6) h6 fun t13 h7 =>
bareK (xnilCheck a0) h7 fun t15 h8 =>
bareK (fad 1 t15) h8 fun t16 h9 =>
bareK (ld1 h9 t16) h9 fun t17 h10 =>
bareK (lenS t17) h10 fun t18 h11 =>
bareK (slS T.uint8 1 t13 none (some t18) none h11) h11 fun t19 h12 =>
checkK (okV (some true) none h3 h4 h5 h5 && (okV (some true) none h3 h4 h7 h7 && (okV (some true) none h3 h4 h7 h8 && (okV (some true) none h3 h4 h8 h9 && (okV (some true) (blockOf t16) h3 h4 h9 h10 && (okV (some true) none h3 h4 h10 h11 && (okV (some true) none h6 h7 h7 h7 && (okV (some true) none h6 h7 h7 h8 && (okV (some true) none h6 h7 h8 h9 && (okV (some true) (blockOf t16) h6 h7 h9 h10 && (okV (some true) none h6 h7 h10 h11 && true))))))))))) <|
bareK (xnilCheck a0) h12 fun t22 h13 =>
bareK (fad 1 t22) h13 fun t23 h14 =>
bareK (ld1 h14 t23) h14 fun t24 h15 =>
bothK (cpy 1 t19 t24 h15) fun t25 h16 =>
bareK (xnilCheck a0) h16 fun t28 h17 =>
bareK (fad 1 t28) h17 fun t29 h18 =>
quietK (st1 h18 t29 t19) fun _ h19 =>
K0 .normal [(29, t29), (28, t28), (27, t19), (26, a0), (25, t25), (24, t24), (23, t23), (22, t22), (21, a0), (20, t19), (4, t19), (19, t19), (18, t18), (17, t17), (16, t16), (15, t15), (14, a0), (13, t13), (12, t12), (11, a1), (10, t10), (9, t9), (8, t8), (7, t7), (6, t6), (5, a0), (0, a0), (1, a1)] h19

theorem s_strings_Builder_grow_eq (M : CombL) (C : CallF) (LP : LoopH) (a0 : Value) (a1 : Value) (H : AHeap) : dBodyL M Tryd.prog hints C LP F.strings_Builder_grow [a0, a1] H = s_strings_Builder_grow M.b.g M.c M.s Tryd.prog C a0 a1 H (endK Tryd.prog []) := by kernel_rfl

/-! unicode.utf8.decodeRuneInStringSlow -/

noncomputable def s_unicode_utf8_decodeRuneInStringSlow (mg : GT) (mc : CT) (ms : ST) (P : Program) (C : CallF) (a0 : Value) (H : AHeap) (K0 : K) : Res :=
bareK (lenT a0) H fun t14 h1 =>
bareK (xbin P .lss T.int (.tmp 15) (.const (.int .i64 1)) t14 (.int .i64 1)) h1 fun t16 h2 =>
mc t16 (fun k1 => k1 .ret [(2, (.int .i32 65533)), (3, (.int .i64 0))] h2) (fun k1 =>
k1 .normal [(0, a0), (4, t14)] h2) (seqK (fun tT h3 =>
bareK (xindex P T.string (get tT 0) (.int .i64 0)) h3 fun t18 h4 =>
bareK (ixA 256 1 top t18) h4 fun t20 h5 =>
bareK (ld1 h5 t20) h5 fun t21 h6 =>
bareK (xbin P .geq T.uint8 (.tmp 22) (.const (.int .u8 240)) t21 (.int .u8 240)) h6 fun t23 h7 =>
mc t23 (fun k2 => bothK (xconv P T.uint8 T.int32 t21 h7) fun t25 h8 =>
bareK (xbin P .shl T.int32 (.tmp 25) (.const (.int .u64 31)) t25 (.int .u64 31)) h8 fun t26 h9 =>
bareK (xbin P .shr T.int32 (.tmp 26) (.const (.int .u64 31)) t26 (.int .u64 31)) h9 fun t27 h10 =>
bareK (xindex P T.string (get tT 0) (.int .i64 0)) h10 fun t29 h11 =>
bothK (xconv P T.uint8 T.int32 t29 h11) fun t30 h12 =>
bareK (xbin P .andNot T.int32 (.tmp 30) (.tmp 31) t30 t27) h12 fun t32 h13 =>
bareK (xbin P .and T.int32 (.const (.int .i32 65533)) (.tmp 33) (.int .i32 65533) t27) h13 fun t34 h14 =>
bareK (xbin P .or T.int32 (.tmp 32) (.tmp 34) t32 t34) h14 fun t35 h15 =>
k2 .ret [(2, t35), (3, (.int .i64 1))] h15) (fun k2 =>
k2 .normal [(0, (get tT 0)), (4, (get tT 4)), (5, t18), (6, t21)] h7) (seqK (fun tT_1 h16 =>
bareK (xbin P .and T.uint8 (.tmp 36) (.const (.int .u8 7)) (get tT_1 6) (.int .u8 7)) h16 fun t37 h17 =>
bothK (xconv P T.uint8 T.int t37 h17) fun t38 h18 =>
bareK (xbin P .shr T.uint8 (.tmp 39) (.const (.int .u64 4)) (get tT_1 6) (.int .u64 4)) h18 fun t40 h19 =>
bareK (ixA 16 2 top t40) h19 fun t41 h20 =>
bareK (ldN 2 h20 t41) h20 fun t42 h21 =>
bothK (newv T.unicode_utf8_acceptRange (.agg #[(.int .u8 0), (.int .u8 0)]) h21) fun t9 h22 =>
quietK (stN 2 h22 t9 t42) fun _ h23 =>
bareK (xbin P .lss T.int (.tmp 43) (.tmp 44) (get tT_1 4) t38) h23 fun t45 h24 =>
mc t45 (fun k3 => k3 .ret [(2, (.int .i32 65533)), (3, (.int .i64 1))] h24) (fun k3 =>
k3 .normal [(0, (get tT_1 0)), (5, (get tT_1 5)), (8, t38), (9, t9)] h24) (seqK (fun tT_2 h25 =>
bareK (xindex P T.string (get tT_2 0) (.int .i64 1)) h25 fun t47 h26 =>
bareK (fad 0 (get tT_2 9)) h26 fun t49 h27 =>
bareK (ld1 h27 t49) h27 fun t50 h28 =>
bareK (xbin P .lss T.uint8 (.tmp 48) (.tmp 50) t47 t50) h28 fun t51 h29 =>
mg t51 false (fun o4 => bareK (fad 1 (get tT_2 9)) h29 o4) h29 fun t53 h30 =>
mg t51 false (fun o5 => bareK (ld1 h30 t53) h30 o5) h30 fun t54 h31 =>
mg t51 false (fun o6 => o6 t47 h31) h31 fun t55 h32 =>
mg t51 false (fun o7 => bareK (xbin P .lss T.uint8 (.tmp 54) (.tmp 55) t54 t55) h32 o7) h32 fun t56 h33 =>
pickK t51 (.bool true) t56 fun t57 =>
mc t57 (fun k8 => k8 .ret [(2, (.int .i32 65533)), (3, (.int .i64 1))] h33) (fun k8 =>
k8 .normal [(0, (get tT_2 0)), (5, (get tT_2 5)), (8, (get tT_2 8)), (10, t47)] h33) (seqK (fun tT_3 h34 =>
bareK (xbin P .leq T.int (.tmp 58) (.const (.int .i64 2)) (get tT_3 8) (.int .i64 2)) h34 fun t59 h35 =>
mc t59 (fun k9 => bareK (xbin P .and T.uint8 (.tmp 60) (.const (.int .u8 31)) (get tT_3 5) (.int .u8 31)) h35 fun t61 h36 =>
bothK (xconv P T.uint8 T.int32 t61 h36) fun t62 h37 =>
bareK (xbin P .shl T.int32 (.tmp 62) (.const (.int .u64 6)) t62 (.int .u64 6)) h37 fun t63 h38 =>
bareK (xbin P .and T.uint8 (.tmp 64) (.const (.int .u8 63)) (get tT_3 10) (.int .u8 63)) h38 fun t65 h39 =>
bothK (xconv P T.uint8 T.int32 t65 h39) fun t66 h40 =>
bareK (xbin P .or T.int32 (.tmp 63) (.tmp 66) t63 t66) h40 fun t67 h41 =>
k9 .ret [(2, t67), (3, (.int .i64 2))] h41) (fun k9 =>
k9 .normal [(0, (get tT_3 0)), (5, (get tT_3 5)), (8, (get tT_3 8)), (10, (get tT_3 10))] h35) (seqK (fun tT_4 h42 =>
bareK (xindex P T.string (get tT_4 0) (.int .i64 2)) h42 fun t69 h43 =>
bareK (xbin P .lss T.uint8 (.tmp 70) (.const (.int .u8 128)) t69 (.int .u8 128)) h43 fun t71 h44 =>
mg t71 false (fun o10 => o10 t69 h44) h44 fun t73 h45 =>
mg t71 false (fun o11 => bareK (xbin P .lss T.uint8 (.const (.int .u8 191)) (.tmp 73) (.int .u8 191) t73) h45 o11) h45 fun t74 h46 =>
pickK t71 (.bool true) t74 fun t75 =>
mc t75 (fun k12 => k12 .ret [(2, (.int .i32 65533)), (3, (.int .i64 1))] h46) (fun k12 =>
k12 .normal [(0, (get tT_4 0)), (5, (get tT_4 5)), (8, (get tT_4 8)), (10, (get tT_4 10)), (11, t69)] h46) (seqK (fun tT_5 h47 =>
bareK (xbin P .leq T.int (.tmp 76) (.const (.int .i64 3)) (get tT_5 8) (.int .i64 3)) h47 fun t77 h48 =>
mc t77 (fun k13 => bareK (xbin P .and T.uint8 (.tmp 78) (.const (.int .u8 15)) (get tT_5 5) (.int .u8 15)) h48 fun t79 h49 =>
bothK (xconv P T.uint8 T.int32 t79 h49) fun t80 h50 =>
bareK (xbin P .shl T.int32 (.tmp 80) (.const (.int .u64 12)) t80 (.int .u64 12)) h50 fun t81 h51 =>
bareK (xbin P .and T.uint8 (.tmp 82) (.const (.int .u8 63)) (get tT_5 10) (.int .u8 63)) h51 fun t83 h52 =>
bothK (xconv P T.uint8 T.int32 t83 h52) fun t84 h53 =>
bareK (xbin P .shl T.int32 (.tmp 84) (.const (.int .u64 6)) t84 (.int .u64 6)) h53 fun t85 h54 =>
bareK (xbin P .or T.int32 (.tmp 81) (.tmp 85) t81 t85) h54 fun t86 h55 =>
bareK (xbin P .and T.uint8 (.tmp 87) (.const (.int .u8 63)) (get tT_5 11) (.int .u8 63)) h55 fun t88 h56 =>
bothK (xconv P T.uint8 T.int32 t88 h56) fun t89 h57 =>
bareK (xbin P .or T.int32 (.tmp 86) (.tmp 89) t86 t89) h57 fun t90 h58 =>
k13 .ret [(2, t90), (3, (.int .i64 3))] h58) (fun k13 =>
k13 .normal [(0, (get tT_5 0)), (5, (get tT_5 5)), (10, (get tT_5 10)), (11, (get tT_5 11))] h48) (seqK (fun tT_6 h59 =>
bareK (xindex P T.string (get tT_6 0) (.int .i64 3)) h59 fun t92 h60 =>
bareK (xbin P .lss T.uint8 (.tmp 93) (.const (.int .u8 128)) t92 (.int .u8 128)) h60 fun t94 h61 =>
mg t94 false (fun o14 => o14 t92 h61) h61 fun t96 h62 =>
mg t94 false (fun o15 => bareK (xbin P .lss T.uint8 (.const (.int .u8 191)) (.tmp 96) (.int .u8 191) t96) h62 o15) h62 fun t97 h63 =>
pickK t94 (.bool true) t97 fun t98 =>
mc t98 (fun k16 => k16 .ret [(2, (.int .i32 65533)), (3, (.int .i64 1))] h63) (fun k16 =>
k16 .normal [(5, (get tT_6 5)), (10, (get tT_6 10)), (11, (get tT_6 11)), (12, t92)] h63) (seqK (fun tT_7 h64 =>
bareK (xbin P .and T.uint8 (.tmp 99) (.const (.int .u8 7)) (get tT_7 5) (.int .u8 7)) h64 fun t100 h65 =>
bothK (xconv P T.uint8 T.int32 t100 h65) fun t101 h66 =>
bareK (xbin P .shl T.int32 (.tmp 101) (.const (.int .u64 18)) t101 (.int .u64 18)) h66 fun t102 h67 =>
bareK (xbin P .and T.uint8 (.tmp 103) (.const (.int .u8 63)) (get tT_7 10) (.int .u8 63)) h67 fun t104 h68 =>
bothK (xconv P T.uint8 T.int32 t104 h68) fun t105 h69 =>
bareK (xbin P .shl T.int32 (.tmp 105) (.const (.int .u64 12)) t105 (.int .u64 12)) h69 fun t106 h70 =>
bareK (xbin P .or T.int32 (.tmp 102) (.tmp 106) t102 t106) h70 fun t107 h71 =>
bareK (xbin P .and T.uint8 (.tmp 108) (.const (.int .u8 63)) (get tT_7 11) (.int .u8 63)) h71 fun t109 h72 =>
bothK (xconv P T.uint8 T.int32 t109 h72) fun t110 h73 =>
bareK (xbin P .shl T.int32 (.tmp 110) (.const (.int .u64 6)) t110 (.int .u64 6)) h73 fun t111 h74 =>
bareK (xbin P .or T.int32 (.tmp 107) (.tmp 111) t107 t111) h74 fun t112 h75 =>
bareK (xbin P .and T.uint8 (.tmp 113) (.const (.int .u8 63)) (get tT_7 12) (.int .u8 63)) h75 fun t114 h76 =>
bothK (xconv P T.uint8 T.int32 t114 h76) fun t115 h77 =>
bareK (xbin P .or T.int32 (.tmp 112) (.tmp 115) t112 t115) h77 fun t116 h78 =>
K0 .ret [(2, t116), (3, (.int .i64 4))] h78) K0)) K0)) K0)) K0)) K0)) K0)) K0)) K0)

theorem s_unicode_utf8_decodeRuneInStringSlow_eq (M : CombL) (C : CallF) (LP : LoopH) (a0 : Value) (H : AHeap) : dBodyL M Tryd.prog hints C LP F.unicode_utf8_decodeRuneInStringSlow [a0] H = s_unicode_utf8_decodeRuneInStringSlow M.b.g M.c M.s Tryd.prog C a0 H (endK Tryd.prog [.tmp 2, .tmp 3]) := by kernel_rfl

/-! gosem.cut.vars -/

noncomputable def s_gosem_cut_vars (mg : GT) (mc : CT) (ms : ST) (P : Program) (C : CallF) (H : AHeap) (K0 : K) : Res :=
bareK (bldS #[(.int .u8 0), (.int .u8 0)] [(0, 1), (1, 1)] [(0, (.int .u8 128)), (1, (.int .u8 191))]) H fun t0 h1 =>
bareK (bldS #[(.int .u8 0), (.int .u8 0)] [(0, 1), (1, 1)] [(0, (.int .u8 160)), (1, (.int .u8 191))]) h1 fun t1 h2 =>
bareK (bldS #[(.int .u8 0), (.int .u8 0)] [(0, 1), (1, 1)] [(0, (.int .u8 128)), (1, (.int .u8 159))]) h2 fun t2 h3 =>
bareK (bldS #[(.int .u8 0), (.int .u8 0)] [(0, 1), (1, 1)] [(0, (.int .u8 144)), (1, (.int .u8 191))]) h3 fun t3 h4 =>
bareK (bldS #[(.int .u8 0), (.int .u8 0)] [(0, 1), (1, 1)] [(0, (.int .u8 128)), (1, (.int .u8 143))]) h4 fun t4 h5 =>
bareK (bldA #[(.int .u8 0), (.int .u8 0), (.int .u8 0), (.int .u8 0), (.int .u8 0), (.int .u8 0), (.int .u8 0), (.int .u8 0), (.int .u8 0), (.int .u8 0), (.int .u8 0), (.int .u8 0), (.int .u8 0), (.int .u8 0), (.int .u8 0), (.int .u8 0), (.int .u8 0), (.int .u8 0), (.int .u8 0), (.int .u8 0), (.int .u8 0), (.int .u8 0), (.int .u8 0), (.int .u8 0), (.int .u8 0), (.int .u8 0), (.int .u8 0), (.int .u8 0), (.int .u8 0), (.int .u8 0), (.int .u8 0), (.int .u8 0)] 2 [(0, t0), (1, t1), (2, t2), (3, t3), (4, t4)]) h5 fun t5 h6 =>
quietK (stN 32 h6 top t5) fun _ h7 =>
K0 .normal [(5, t5), (4, t4), (3, t3), (2, t2), (1, t1), (0, t0)] h7

theorem s_gosem_cut_vars_eq (M : CombL) (C : CallF) (LP : LoopH) (H : AHeap) : dBodyL M Tryd.prog hints C LP F.gosem_cut_vars [] H = s_gosem_cut_vars M.b.g M.c M.s Tryd.prog C H (endK Tryd.prog []) := by kernel_rfl

end Go.Proofs.YtlmhioanjmhaiaaDoor
