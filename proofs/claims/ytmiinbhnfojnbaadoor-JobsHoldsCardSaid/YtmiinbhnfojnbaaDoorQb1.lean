/-
  The engine, contracts and laws: 8 texts in one (merge.py): Eng29 Shelf Hints Known Names Sh Ds Eng33.
  Conditions: none. By an AI agent.
-/
import Derived.Test.YtmiinbhnfojnbaaDoorQa3
import Derived.Shelf.Strings.Replace
import Derived.Shelf.Strings.Search3
import Derived.Test.YtmiinbhnfojnbaaDoorProg
import Derived.Test.YtmiinbhnfojnbaaDoorChecked
import Derived.KernelRfl
import Derived.HandedShaped
import Derived.Shelf.Vars
import Derived.Lay
import Derived.PinnedBridge
set_option linter.unusedSimpArgs false
set_option linter.unusedVariables false
set_option linter.unusedSectionVars false
namespace Go.Proofs.YtmiinbhnfojnbaaDoor.Eng
open Go
def Gb : List Value → AHeap → Res := fun xs H => match xs with
  | [.string s, .string t] => if s.size < 4294967281 then some (.int .i64 (Lib.index s.data.toList t.data.toList), H) else none
  | _ => none
def replP : List Value → AHeap → Res := fun xs H => match xs with
  | [.string s, .string o, .string t] => if s.size < 4294967281 ∧ 1 ≤ o.size ∧ t.size ≤ 100 then some (.string ⟨(Lib.replaceAll s.data.toList o.data.toList t.data.toList).toArray⟩, H) else none
  | _ => none
theorem rvs_str {ι : Emb} {s : ByteArray} {xs : List Value} {args' : List Value} (h : RVs ι (.string s :: xs) args') : ∃ r, args' = .string s :: r ∧ RVs ι xs r := by
  cases h with
  | cons a b => cases a; exact ⟨_, rfl, b⟩
theorem rvs_nil {ι : Emb} {args' : List Value} (h : RVs ι [] args') : args' = [] := by cases h; rfl
theorem index_prim {P : Program} {f : FuncId} (g : Nat) (hgl : (g, GK.int) ∈ globs)
    (hc : ∀ (s sub : ByteArray) (m : Int) (w : World), s.size < 4294967281 → w.cell? ⟨g, 0, none⟩ = some (.int .i64 m) →
      Calls P f #[.string s, .string sub] w fun e w' => e = .returned (.int .i64 (Lib.index s.data.toList sub.data.toList)) ∧ w' = w) :
    (XC fun _ args H => Gb args H) ∧ Wo P fun h args H => if h = f then Gb args H else none := by
  constructor
  · intro _ args H v H' h hl _
    replace h : Gb args H = some (v, H') := h
    unfold Gb at h
    split at h
    · split at h
      · cases h; exact OkV.still hl (.int _ _)
      · cases h
    · cases h
  · intro k args H v H' h2 hl had B ι w args' r ha
    by_cases hg : k = f
    · subst hg
      simp only [if_true] at h2
      unfold Gb at h2
      split at h2
      · split at h2
        · rename_i s t hs
          cases h2
          obtain ⟨a', ea, hA⟩ := rvs_str ha; subst ea
          obtain ⟨a2, ea, hb⟩ := rvs_str hA; subst ea
          cases rvs_nil hb
          obtain ⟨m, hm⟩ := r.glob.int hgl
          refine Calls.mono (hc s t m w hs hm) ?_
          rintro e w' ⟨rfl, rfl⟩
          exact ⟨_, ι, rfl, .int _ _, r, Stp.refl _ _ _ r.dom⟩
        · cases h2
      · cases h2
    · simp [hg] at h2
theorem repl_prim {P : Program} {f : FuncId} (g : Nat) (hgl : (g, GK.int) ∈ globs)
    (hc : ∀ (s old new : ByteArray) (m : Int) (w : World), s.size < 4294967281 → w.cell? ⟨g, 0, none⟩ = some (.int .i64 m) → 1 ≤ old.size → s.size + Lib.countB s old * new.size ≤ 140737488355328 →
      Calls P f #[.string s, .string old, .string new] w fun e w' => e = .returned (.string ⟨(Lib.replaceAll s.data.toList old.data.toList new.data.toList).toArray⟩) ∧ RowKit.Below w.heap.size w w') :
    (XC fun _ args H => replP args H) ∧ Wo P fun h args H => if h = f then replP args H else none := by
  constructor
  · intro _ args H v H' h hl _
    replace h : replP args H = some (v, H') := h
    unfold replP at h
    split at h
    · split at h
      · cases h; exact OkV.still hl (.str _)
      · cases h
    · cases h
  · intro k args H v H' h2 hl had B ι w args' r ha
    by_cases hg : k = f
    · subst hg
      simp only [if_true] at h2
      unfold replP at h2
      split at h2
      · split at h2
        · rename_i s o t hs
          cases h2
          obtain ⟨a', ea, hA⟩ := rvs_str ha; subst ea
          obtain ⟨a2, ea, hb⟩ := rvs_str hA; subst ea
          obtain ⟨a3, ea, hc3⟩ := rvs_str hb; subst ea
          cases rvs_nil hc3
          obtain ⟨m, hm⟩ := r.glob.int hgl
          have hcnt : s.size + Lib.countB s o * t.size ≤ 140737488355328 := by
            have h1 : Lib.countB s o ≤ s.size + 1 := by
              have := Lib.count_le s.data.toList o.data.toList
              simpa [Lib.countB] using this
            have h2 : Lib.countB s o * t.size ≤ (s.size + 1) * 100 := Nat.mul_le_mul h1 hs.2.2
            omega
          refine Calls.mono (hc s o t m w hs.1 hm hs.2.1 hcnt) ?_
          rintro e w' ⟨rfl, hb⟩
          obtain ⟨h3, h4⟩ := below_rel r hb
          exact ⟨_, ι, rfl, .str _, h3, h4⟩
        · cases h2
      · cases h2
    · simp [hg] at h2
end Go.Proofs.YtmiinbhnfojnbaaDoor.Eng

namespace Go.Proofs
open Go.Shelf Go.RowKit Go.Lib
def Tryd.lays143_ren : Go.Shelf.Ren := ⟨fun | 143 => 61 | 219 => 71 | 217 => 78 | 225 => 79 | 224 => 80 | 267 => 81 | 266 => 90 | 314 => 91 | n => n, fun | 9 => 9 | 3 => 3 | 4 => 4 | 5 => 5 | 46 => 120 | 146 => 144 | 51 => 143 | n => n, fun | 1 => 0 | n => n⟩
theorem Tryd.lays143 : Go.Proofs.Lays.n143 Tryd.prog Tryd.lays143_ren := {
  mixed := by kernel_rfl
  f143 := Tryd.func61.trans (congrArg some (by kernel_rfl))
  f217 := Tryd.func78.trans (congrArg some (by kernel_rfl))
  f219 := Tryd.func71.trans (congrArg some (by kernel_rfl))
  f224 := Tryd.func80.trans (congrArg some (by kernel_rfl))
  f225 := Tryd.func79.trans (congrArg some (by kernel_rfl))
  f266 := Tryd.func90.trans (congrArg some (by kernel_rfl))
  f267 := Tryd.func81.trans (congrArg some (by kernel_rfl))
  f314 := Tryd.func91.trans (congrArg some (by kernel_rfl))
  t3 := Tryd.underlying3
  a3 := Tryd.isAgg3
  z3 := Tryd.sizeOf3
  v3 := Tryd.zeroValue3
  t4 := Tryd.underlying4
  a4 := Tryd.isAgg4
  z4 := Tryd.sizeOf4
  v4 := Tryd.zeroValue4
  t5 := Tryd.underlying5
  a5 := Tryd.isAgg5
  z5 := Tryd.sizeOf5
  v5 := Tryd.zeroValue5
  t9 := Tryd.underlying9
  a9 := Tryd.isAgg9
  z9 := Tryd.sizeOf9
  v9 := Tryd.zeroValue9
  t46 := Tryd.underlying120
  a46 := Tryd.isAgg120
  z46 := Tryd.sizeOf120
  v46 := Tryd.zeroValue120
  t51 := Tryd.underlying143
  a51 := Tryd.isAgg143
  z51 := Tryd.sizeOf143
  v51 := Tryd.zeroValue143
  t146 := Tryd.underlying144
  a146 := Tryd.isAgg144
  z146 := Tryd.sizeOf144
  v146 := Tryd.zeroValue144
  g1 := by kernel_rfl }
theorem Tryd.strings_Index (s sub : ByteArray) (m : Int) (w : World) (hs : s.size < 4294967281) (hm : w.cell? ⟨0, 0, none⟩ = some (.int .i64 m)) :
    Calls Tryd.prog 61 #[.string s, .string sub] w fun e w' => e = .returned (.int .i64 (Lib.index s.data.toList sub.data.toList)) ∧ w' = w := Any.strings_Index Tryd.lays143 s sub m w hs hm
def Tryd.lays155_ren : Go.Shelf.Ren := ⟨fun | 155 => 62 | 154 => 72 | 138 => 82 | 165 => 83 | 143 => 61 | 166 => 84 | 197 => 85 | 169 => 86 | 195 => 92 | 218 => 93 | 240 => 94 | 241 => 95 | 219 => 71 | 260 => 96 | 276 => 98 | 277 => 99 | 217 => 78 | 225 => 79 | 224 => 80 | 267 => 81 | 266 => 90 | 314 => 91 | n => n, fun | 9 => 9 | 3 => 3 | 4 => 4 | 72 => 133 | 0 => 0 | 76 => 137 | 105 => 139 | 21 => 21 | 5 => 5 | 70 => 131 | 20 => 20 | 37 => 104 | 75 => 136 | 127 => 147 | 164 => 149 | 46 => 120 | 119 => 152 | 139 => 155 | 138 => 154 | 146 => 144 | 51 => 143 | 80 => 141 | n => n, fun | 1 => 0 | 3 => 1 | 4 => 2 | n => n⟩
theorem Tryd.lays155 : Go.Proofs.Lays.n155 Tryd.prog Tryd.lays155_ren := {
  mixed := by kernel_rfl
  f138 := Tryd.func82.trans (congrArg some (by kernel_rfl))
  f143 := Tryd.func61.trans (congrArg some (by kernel_rfl))
  f154 := Tryd.func72.trans (congrArg some (by kernel_rfl))
  f155 := Tryd.func62.trans (congrArg some (by kernel_rfl))
  f165 := Tryd.func83.trans (congrArg some (by kernel_rfl))
  f166 := Tryd.func84.trans (congrArg some (by kernel_rfl))
  f169 := Tryd.func86.trans (congrArg some (by kernel_rfl))
  f195 := Tryd.func92.trans (congrArg some (by kernel_rfl))
  f197 := Tryd.func85.trans (congrArg some (by kernel_rfl))
  f217 := Tryd.func78.trans (congrArg some (by kernel_rfl))
  f218 := Tryd.func93.trans (congrArg some (by kernel_rfl))
  f219 := Tryd.func71.trans (congrArg some (by kernel_rfl))
  f224 := Tryd.func80.trans (congrArg some (by kernel_rfl))
  f225 := Tryd.func79.trans (congrArg some (by kernel_rfl))
  f240 := Tryd.func94.trans (congrArg some (by kernel_rfl))
  f241 := Tryd.func95.trans (congrArg some (by kernel_rfl))
  f260 := Tryd.func96.trans (congrArg some (by kernel_rfl))
  f266 := Tryd.func90.trans (congrArg some (by kernel_rfl))
  f267 := Tryd.func81.trans (congrArg some (by kernel_rfl))
  f276 := Tryd.func98.trans (congrArg some (by kernel_rfl))
  f277 := Tryd.func99.trans (congrArg some (by kernel_rfl))
  f314 := Tryd.func91.trans (congrArg some (by kernel_rfl))
  t0 := Tryd.underlying0
  a0 := Tryd.isAgg0
  z0 := Tryd.sizeOf0
  v0 := Tryd.zeroValue0
  t3 := Tryd.underlying3
  a3 := Tryd.isAgg3
  z3 := Tryd.sizeOf3
  v3 := Tryd.zeroValue3
  t4 := Tryd.underlying4
  a4 := Tryd.isAgg4
  z4 := Tryd.sizeOf4
  v4 := Tryd.zeroValue4
  t5 := Tryd.underlying5
  a5 := Tryd.isAgg5
  z5 := Tryd.sizeOf5
  v5 := Tryd.zeroValue5
  t9 := Tryd.underlying9
  a9 := Tryd.isAgg9
  z9 := Tryd.sizeOf9
  v9 := Tryd.zeroValue9
  t20 := Tryd.underlying20
  a20 := Tryd.isAgg20
  z20 := Tryd.sizeOf20
  v20 := Tryd.zeroValue20
  t21 := Tryd.underlying21
  a21 := Tryd.isAgg21
  z21 := Tryd.sizeOf21
  v21 := Tryd.zeroValue21
  t37 := Tryd.underlying104
  a37 := Tryd.isAgg104
  z37 := Tryd.sizeOf104
  v37 := Tryd.zeroValue104
  t46 := Tryd.underlying120
  a46 := Tryd.isAgg120
  z46 := Tryd.sizeOf120
  v46 := Tryd.zeroValue120
  t51 := Tryd.underlying143
  a51 := Tryd.isAgg143
  z51 := Tryd.sizeOf143
  v51 := Tryd.zeroValue143
  t70 := Tryd.underlying131
  a70 := Tryd.isAgg131
  z70 := Tryd.sizeOf131
  v70 := Tryd.zeroValue131
  t72 := Tryd.underlying133
  a72 := Tryd.isAgg133
  z72 := Tryd.sizeOf133
  v72 := Tryd.zeroValue133
  t75 := Tryd.underlying136
  a75 := Tryd.isAgg136
  z75 := Tryd.sizeOf136
  v75 := Tryd.zeroValue136
  t76 := Tryd.underlying137
  a76 := Tryd.isAgg137
  z76 := Tryd.sizeOf137
  v76 := Tryd.zeroValue137
  t105 := Tryd.underlying139
  a105 := Tryd.isAgg139
  z105 := Tryd.sizeOf139
  v105 := Tryd.zeroValue139
  t119 := Tryd.underlying152
  a119 := Tryd.isAgg152
  z119 := Tryd.sizeOf152
  t127 := Tryd.underlying147
  a127 := Tryd.isAgg147
  z127 := Tryd.sizeOf147
  v127 := Tryd.zeroValue147
  t138 := Tryd.underlying154
  a138 := Tryd.isAgg154
  z138 := Tryd.sizeOf154
  v138 := Tryd.zeroValue154
  t139 := Tryd.underlying155
  a139 := Tryd.isAgg155
  z139 := Tryd.sizeOf155
  v139 := Tryd.zeroValue155
  t146 := Tryd.underlying144
  a146 := Tryd.isAgg144
  z146 := Tryd.sizeOf144
  v146 := Tryd.zeroValue144
  t164 := Tryd.underlying149
  a164 := Tryd.isAgg149
  z164 := Tryd.sizeOf149
  v164 := Tryd.zeroValue149
  g1 := by kernel_rfl
  g3 := by kernel_rfl
  g4 := by kernel_rfl }
theorem Tryd.Builder_Extra_155 : Builder.Extra Tryd.prog Tryd.lays155_ren := {
  sizeBuilder := by kernel_rfl
  liesBuilder := by kernel_rfl
  t5 := Tryd.underlying5
  a5 := Tryd.isAgg5
  z5 := Tryd.sizeOf5
  v5 := Tryd.zeroValue5
  infoByte := by kernel_rfl
  cellsByte := by kernel_rfl
  sizeByte := by kernel_rfl
  neB5 := by decide }
theorem Tryd.strings_ReplaceAll (s old new : ByteArray) (m : Int) (w : World) (hs : s.size < 4294967281) (hm : w.cell? ⟨0, 0, none⟩ = some (.int .i64 m)) (h1 : 1 ≤ old.size) (hlen : s.size + Lib.countB s old * new.size ≤ 140737488355328) :
    Calls Tryd.prog 62 #[.string s, .string old, .string new] w fun e w' =>
      e = .returned (.string ⟨(Lib.replaceAll s.data.toList old.data.toList new.data.toList).toArray⟩) ∧ Below w.heap.size w w' := Any.strings_ReplaceAll Tryd.lays155 Tryd.Builder_Extra_155 s old new m w hs hm h1 hlen
end Go.Proofs

namespace Go.Proofs.YtmiinbhnfojnbaaDoor
open Go Eng
def hintList : List (List (List Nat)) := [
  [],
  [],
  [],
  [[0,1],[4],[0,1,5],[4],[0,1,5],[0,1,5,7],[0,1,5,7],[0,1,5,7],[0,1,5,7],[4],[4]],
  [[0,1],[4],[0,1,5],[4],[],[0,1,5,7,8,9],[0,1,5,7,8,9],[0,1,5,7,8,9],[0,1,5,7,8,9],[0,1,5,7,8,9],[0,1,5,7,8,9],[0,1,5,7,8,9,12],[4],[0,1,5,7,8,9],[0,1,5,7,8,9,10,11,14],[0,1,5,7,8,9,11,14],[4],[0,1,5,7,8,9],[0,1,5,7,8,9,11,14,16],[0,1,5,7,8,9,11,14,16],[0,1,5,7,8,9,11,14,16],[0,1,5,7,8,9,11,14,16],[4],[0,1,5,7,8,9],[0,1,5,7,8,9],[0,1,5,7,8,9],[0,1,5,7,8,9],[0,1,5,7,8,9],[0,1,5,7,8,9],[0,1,5,7,8,9,17,18],[0,1,5,7,8,9,17,18,203],[0,1,5,7,8,9,17,18,203],[0,1,5,7,8,9,17,18,203],[0,1,5,7,8,9,17,18,203],[0,1,5,7,8,9,17],[4],[0,1,5,7,8,9],[0,1,5,7,8,9,17,21],[0,1,5,7,8,9,17,21],[0,1,5,7,8,9,17,21],[0,1,5,7,8,9,17,21],[4],[4]],
  [[1],[2],[],[1,12,13,14],[1,12,13,14],[1,12,13,14],[1,12,13,14],[2],[2]],
  [[1],[0],[1],[0],[1],[0],[0]],
  [[0],[2,3],[2,3]],
  [[10]],
  [[10]],
  [[0,7],[6],[6]],
  [[8]],
  [[0,1],[0,1,5],[0,1,5],[0,1,5],[0,1,5],[4],[4]],
  [[0],[2],[2]],
  [[0,1,2],[0,1,2],[6,7],[0,1,2],[6,7],[0,1,2],[6,7],[0],[6,7],[6,7]],
  [[0,1,2,6],[0,1,2,6],[6,7],[0,1,2,6],[6,7],[0,1,2,6,8],[6,7],[6,9],[6,7],[6,7]],
  [[0],[2],[2]],
  [[0,2],[6],[6]],
  [[0,5],[0,5],[4],[0,5],[4],[4]],
  [[0,1],[0,1],[4],[0,1],[4],[0,1],[4],[],[0,1,32,33,34],[0,1,32,33,34],[0,1,32,33,34],[0,1,6,32,33,34],[0,1,32,33,34],[4],[4]],
  [[0],[2],[2]],
  [[0],[2],[2]],
  [[12]],
  [[0,1,2,6],[0,1,2,6],[6,7],[0,1,2,6],[6,7],[1,6,8],[6,7],[6,8],[6,7],[6,7]],
  [[0,3],[4]],
  [[0,1,4],[4,5],[0,4,6],[4,5],[4,6,8],[4,5],[4,10],[4,5],[4,5]],
  [[2]],
  [[8],[5,6,8,24,25,26],[5,6,8,24,25,26],[5,6,8,24,25,26],[5,6,8,10,24,25,26],[5,6,8,24,25,26],[4]],
  [[0,3,5,6],[4],[0,3,5,6],[0,3,5],[4],[4]],
  [[2]],
  [[0,1,6],[4,5],[4,5]],
  [[0],[2],[2]],
  [[0],[2],[2]],
  [[0,6],[0,6],[4,5],[0,6],[4,5],[4,5]],
  [[1,2,3],[6,7],[1,2,3],[6,7],[1,2,3,8],[1,2,3,8,27,28,29],[1,2,3,8,27,28,29],[1,2,3,8,27,28,29],[1,2,3,8,27,28,29],[1,2,3,8,10,27,28,29,41,42,43],[1,2,3,8,10,27,28,29,41,42,43],[1,2,3,8,10,27,28,29,41,42,43],[1,2,3,8,13,14,27,28,29,41,42,43],[6,7],[8],[6,7],[6,7]],
  [[0]],
  [[2,3],[2]],
  [[1,2],[4,5,6],[4],[4,5,6],[4,7],[4,7],[4,7],[4,7],[4,7],[4,5,6]],
  [[0],[2],[2]],
  [[1,2],[4,5,6],[4,5],[4,5,6],[4,5,6]],
  [[1,3],[1,3],[1,3],[2]],
  [[0,1,2,7,8],[6],[6]],
  [[4,5]],
  [[0,1,2],[6],[6]],
  [[0],[2],[2]],
  [],
  [[0,1,2],[6,7,8],[0,1],[6,7,8],[6,7,8]],
  [[2]],
  [[0,1,4,7],[4,5,6],[0,4,7,8],[0,4,7,8],[4,5,6],[0,4,7,8],[4,7,9,11],[4,5,6],[0,4,7,8],[0,4,7,12],[4,5,6],[4,5,6],[4,5,6]],
  [[0,1],[4],[],[1,12,13,14],[1,12,13,14],[1,12,13,14],[1,12,13,14],[4],[4]],
  [[0],[0,7,8,9],[0,7,8,9],[0,7,8,9],[4]],
  [[0,3],[0,3,9,10,11],[0,3,9,10,11],[0,3,9,10,11],[0,3,9,10,11],[6],[6,25,26,27],[6,25,26,27],[6,25,26,27],[2]],
  [[],[],[],[8],[8]],
  [[0,1,2,8,9],[0,1,2,8,9,10],[0,1,2,8,9,10],[0,1,2,8,9,10],[0,1,2,8,9,10],[6,7]],
  [[4]],
  [[4]],
  [[],[],[4],[],[4],[4]],
  [[4]],
  [[2]],
  [[2]],
  [[0,1,2],[6,7,8],[0,1,9],[0,1,2,9,23,24,25],[0,1,2,9,23,24,25],[0,1,2,9,23,24,25],[0,1,2,9,11,23,24,25],[6,7,8]],
  [[4]],
  [[6]],
  [[2,5],[2,5],[2,5],[2,5],[2,5],[4]],
  [[0,3],[0,3],[4],[0,3],[0,3],[4],[0,7],[0,7,49,50],[0,7,49,50],[0,7,49,50],[4],[0,3],[4],[0],[4],[4]],
  [[0,1],[0],[4]],
  [[0,1,2,7],[6],[0,1,2,7,8],[6],[0,1,2,7,8],[6],[0,1,2,7,8],[6],[6]],
  [[4]],
  [[4]],
  [[2]],
  [[],[0,1,7,8],[0,1,7,8],[0,1,7,8],[0,1,7,8],[4],[4]],
  [[0,1,5],[0,1,5],[4],[0,1,5],[4],[0,1,5],[4],[0,1,5],[4],[],[0,1,5,6,7,8,9,10],[0,1,5,6,7,8,9,10],[0,1,5,6,7,8,9,10],[0,1,5,6,7,8,9,10],[0,1,5,6,7,8,9,10,11],[4],[0,1,5,6,7,8,9,10],[4],[0,1,5,6,7,8,9,10],[],[4],[4],[0,1,5,6,7,8,9,10],[8,13],[4],[4],[4]],
  [[0,1,2,3],[8],[0,1,2,3],[8],[0,1,2,3],[0,10,11],[0,10,11],[0,1,2,10,11,52,53],[0,1,2,10,11,52,53],[0,1,2,10,11,52,53],[0,10,11],[0,2,10,11,77,78],[0,2,10,11,77,78],[0,2,10,11,77,78],[8]],
  [[3],[0,3],[0,3],[0,3],[2]],
  [],
  [],
  [[4]],
  [[],[0,1,7,8],[0,1,7,8],[0,1,7,8],[0,1,7,8],[4],[4]],
  [[4]],
  [],
  [[2]],
  [[0,1,5,6,7,8],[0,1,5,6,7,8,9],[0,1,5,6,7,8,9],[0,1,5,6,7,8,9],[0,1,5,6,7,8],[4],[],[0,1,5,6,7,8,10],[0,1,5,6,7,8,10],[0,1,5,6,7,8,10],[0,1,5,6,7,8,10],[4],[4]],
  [[0,1],[4],[0,1],[4],[4],[0,1,5],[0,1,5],[0,1,5,6],[4]],
  [[0,1],[]],
  [[4,5]],
  [[2,3],[2,3],[2,3]],
  [[2]],
  [[],[0,2,3],[0,2,3],[0,2,3]],
  [],
  [],
  [],
  [[0,4],[0,4,5],[0,4,5],[0,4,5],[4,6],[4,6,7,8],[4,6,7,8],[4,6,7,8],[4,6,7,8],[2,3]],
  [[2],[2,4],[2,4],[2,4],[2]],
  [],
  [[],[]],
  [],
  [[0,4],[2,3],[0,4,5,6],[2,3],[0,5,8,9],[2,3],[0,5,8,10],[2,3],[0,5,8,10],[2,3],[0,5,8,10,11],[2,3],[0,5,10,11],[2,3],[5,10,11,12],[2,3],[2,3]],
  [[],[0,2,3],[0,2,3],[0,2,3]],
  [],
  [],
  [],
  [],
  [],
  [],
  [],
  [],
  [],
  [],
  [],
  [],
  [],
  [],
  [],
  [],
  [],
  [],
  [],
  [],
  [],
  [],
  [],
  [],
  []
]
def hints : WE := fun f => (hintList[f]?).getD []
end Go.Proofs.YtmiinbhnfojnbaaDoor

namespace Go.Proofs.YtmiinbhnfojnbaaDoor
open Go Eng
theorem mixed : Tryd.prog.follows .mixedOrders = true := by kernel_rfl
def zIns0 : List Value := [(.string (mk [])), (.string (mk []))]
theorem insOK0 : InsOK Tryd.prog hints 66 59 3 86 zIns0 74 75 where
  mixed := mixed
  body := fun C n a0 a1 a2 H => by kernel_rfl
  hS := Tryd.underlying59
  hI := Tryd.underlying3
  hz := by kernel_rfl
  hsz := by kernel_rfl
  ovl := ⟨Tryd.f74, by kernel_rfl, by decide, by kernel_rfl, by kernel_rfl, by kernel_rfl, by kernel_rfl⟩
theorem prim61 : (XC fun _ args H => Gb args H) ∧ Wo Tryd.prog fun g args H => if g = 61 then Gb args H else none :=
  index_prim 0 (by simp [globs]) fun s t m w h1 h2 => Tryd.strings_Index s t m w h1 h2
theorem prim62 : (XC fun _ args H => replP args H) ∧ Wo Tryd.prog fun g args H => if g = 62 then replP args H else none :=
  repl_prim 0 (by simp [globs]) fun s o t m w h1 h2 h3 h4 => Tryd.strings_ReplaceAll s o t m w h1 h2 h3 h4
noncomputable def prims0 : ZO := fun f => if f = 66 then some (insP Tryd.prog hints 66 86 zIns0) else if f = 62 then some replP else if f = 61 then some Gb else none
theorem prims0_ok : PrimsOK Tryd.prog prims0 := by
  intro f p h
  unfold prims0 at h
  split at h
  · rename_i hf
    have e := Option.some.inj h
    subst hf
    rw [← e]
    exact ins_prim insOK0
  · skip
    split at h
    · rename_i hf
      have e := Option.some.inj h
      subst hf
      rw [← e]
      exact prim62
    · skip
      split at h
      · rename_i hf
        have e := Option.some.inj h
        subst hf
        rw [← e]
        exact prim61
      · skip
        cases h
noncomputable def prims1 : ZO := prims0
theorem prims1_ok : PrimsOK Tryd.prog prims1 := prims0_ok
noncomputable def CC : Yc := D Tryd.prog prims1 hints
end Go.Proofs.YtmiinbhnfojnbaaDoor

namespace Go.Proofs.YtmiinbhnfojnbaaDoor
open Go
def F.law_JobsHolds : FuncId := 4
def F.law_known : FuncId := 6
def F.jobs_New : FuncId := 7
def F.law_puts : FuncId := 8
def F.law_takes : FuncId := 9
def F.jobs_Queue_Back : FuncId := 10
def F.law_gets : FuncId := 11
def F.law_small : FuncId := 12
def F.jobs_Queue_Jobs : FuncId := 13
def F.jobs_Queue_Put : FuncId := 14
def F.jobs_Queue_Take : FuncId := 15
def F.jobs_Queue_Now : FuncId := 16
def F.jobs_Queue_Finish : FuncId := 17
def F.jobs_Queue_Revive : FuncId := 18
def F.jobs_Queue_Pass : FuncId := 19
def F.law_taken : FuncId := 22
def F.jobs_Queue_taken : FuncId := 23
def F.jobs_Queue_back : FuncId := 24
def F.jobs_Queue_Get : FuncId := 25
def F.jobs_Queue_none : FuncId := 26
def F.jobs_Queue_in : FuncId := 27
def F.jobs_Queue_set : FuncId := 28
def F.jobs_number : FuncId := 29
def F.model_Model_Delete : FuncId := 30
def F.model_Model_Get : FuncId := 33
def F.rows_Read : FuncId := 34
def F.jobs_table : FuncId := 35
def F.jobs_job : FuncId := 36
def F.rows_Span : FuncId := 37
def F.model_Model_Pairs : FuncId := 38
def F.rows_Row : FuncId := 39
def F.jobs_row : FuncId := 40
def F.model_Model_Put : FuncId := 41
def F.model_Model_place : FuncId := 42
def F.slices_Delete_Pair : FuncId := 43
def F.slices_Clone_Pair : FuncId := 44
def F.model_Model_at : FuncId := 46
def F.rows_Valid : FuncId := 47
def F.rows_take : FuncId := 48
def F.rows_are : FuncId := 49
def F.rows_puts : FuncId := 50
def F.slices_Concat_CellKind : FuncId := 51
def F.model_Model_set : FuncId := 52
def F.slices_BinarySearchFunc_string : FuncId := 53
def F.model_Model_place_1 : FuncId := 54
def F.keys_Compare : FuncId := 55
def F.model_check : FuncId := 56
def F.slices_ContainsFunc_CellKind : FuncId := 57
def F.rows_Valid_1 : FuncId := 58
def F.rows_kind : FuncId := 59
def F.rows_number : FuncId := 60
def F.strings_Index : FuncId := 61
def F.strings_ReplaceAll : FuncId := 62
def F.rows_proper : FuncId := 63
def F.rows_put : FuncId := 64
def F.slices_Grow_CellKind : FuncId := 65
def F.slices_Insert_Pair : FuncId := 66
def F.strings_Compare : FuncId := 67
def F.slices_ContainsFunc_string : FuncId := 68
def F.model_check_1 : FuncId := 69
def F.slices_IndexFunc_CellKind : FuncId := 70
def F.rows_digits : FuncId := 73
def F.slices_rotateRight_Pair : FuncId := 75
def F.internal_bytealg_CompareString : FuncId := 76
def F.slices_IndexFunc_string : FuncId := 77
def F.slices_Reverse_byte : FuncId := 87
def T.tuple : TypeId := 0
def T.func : TypeId := 1
def T.int : TypeId := 3
def T.bool : TypeId := 4
def T.uint8 : TypeId := 5
def T.string : TypeId := 9
def T.interface : TypeId := 20
def T.int32 : TypeId := 21
def T.p_jobs_Queue : TypeId := 23
def T.api_Errno : TypeId := 24
def T.api_JobState : TypeId := 29
def T.api_Job : TypeId := 31
def T.map_int_bool : TypeId := 37
def T.map_int_int : TypeId := 38
def T.law_Act : TypeId := 40
def T.p_model_Model : TypeId := 50
def T.map_int_string : TypeId := 51
def T.jobs_Queue : TypeId := 53
def T.sl_api_Pair : TypeId := 59
def T.model_Model : TypeId := 61
def T.api_CellKind : TypeId := 65
def T.uint64 : TypeId := 66
def T.api_Cell : TypeId := 68
def T.sl_api_CellKind : TypeId := 77
def T.api_Table : TypeId := 79
def T.api_Pair : TypeId := 86
def T.sl_uint8 : TypeId := 104
def T.uint : TypeId := 120
def T.error : TypeId := 136
def T.uint32 : TypeId := 143
end Go.Proofs.YtmiinbhnfojnbaaDoor

namespace Go.Proofs.YtmiinbhnfojnbaaDoor
open Go Eng
noncomputable def Qn (mg : GT) (mc : CT) (ms : ST) (P : Program) (C : Yc) (H : AHeap) (K0 : K) : Res :=
Yh C F.jobs_New [(.int .i64 2)] H fun t5 h1 =>
Yb (Yn t5 0) h1 fun t6 h2 =>
Yb (Yn t5 1) h2 fun t7 h3 =>
Yb (Yf P .eql T.p_jobs_Queue (.tmp 8) (.const (.pointer none)) t6 (.pointer none)) h3 fun t9 h4 =>
mg t9 false (fun o1 => o1 t7 h4) h4 fun t11 h5 =>
mg t9 false (fun o2 => Yb (Yf P .neq T.api_Errno (.tmp 11) (.const (.int .i64 0)) t11 (.int .i64 0)) h5 o2) h5 fun t12 h6 =>
YQ t9 (.bool true) t12 fun t13 =>
mg t13 false (fun o3 => o3 t6 h6) h6 fun t15 h7 =>
mg t13 false (fun o4 => Yh C F.law_puts [t15, (.int .i64 3), (.string (mk [97])), (.int .i64 1), (.int .i64 0)] h7 o4) h7 fun t16 h8 =>
mg t13 false (fun o5 => Yb (xun P .not t16) h8 o5) h8 fun t17 h9 =>
YQ t13 (.bool true) t17 fun t18 =>
mg t18 false (fun o6 => o6 t6 h9) h9 fun t20 h10 =>
mg t18 false (fun o7 => Yh C F.law_puts [t20, (.int .i64 7), (.string (mk [98])), (.int .i64 2), (.int .i64 0)] h10 o7) h10 fun t21 h11 =>
mg t18 false (fun o8 => Yb (xun P .not t21) h11 o8) h11 fun t22 h12 =>
YQ t18 (.bool true) t22 fun t23 =>
mg t23 false (fun o9 => o9 t6 h12) h12 fun t25 h13 =>
mg t23 false (fun o10 => Yh C F.law_puts [t25, (.int .i64 3), (.string (mk [99])), (.int .i64 3), (.int .i64 0)] h13 o10) h13 fun t26 h14 =>
mg t23 false (fun o11 => Yb (xun P .not t26) h14 o11) h14 fun t27 h15 =>
YQ t23 (.bool true) t27 fun t28 =>
mg t28 false (fun o12 => o12 t6 h15) h15 fun t30 h16 =>
mg t28 false (fun o13 => Yh C F.law_taken [(.int .i64 2), (.int .i64 7), (.string (mk [98])), (.int .i64 1), (.int .i64 5), (.int .i64 10)] h16 o13) h16 fun t31 h17 =>
mg t28 false (fun o14 => Yh C F.law_takes [t30, (.int .i64 5), (.int .i64 10), t31, (.int .i64 0)] h17 o14) h17 fun t32 h18 =>
mg t28 false (fun o15 => Yb (xun P .not t32) h18 o15) h18 fun t33 h19 =>
YQ t28 (.bool true) t33 fun t34 =>
mg t34 false (fun o16 => o16 t6 h19) h19 fun t36 h20 =>
mg t34 false (fun o17 => Yh C F.law_taken [(.int .i64 1), (.int .i64 3), (.string (mk [97])), (.int .i64 1), (.int .i64 6), (.int .i64 4)] h20 o17) h20 fun t37 h21 =>
mg t34 false (fun o18 => Yh C F.law_takes [t36, (.int .i64 6), (.int .i64 4), t37, (.int .i64 0)] h21 o18) h21 fun t38 h22 =>
mg t34 false (fun o19 => Yb (xun P .not t38) h22 o19) h22 fun t39 h23 =>
YQ t34 (.bool true) t39 fun t40 =>
mc t40 (fun k20 => k20 .ret [(0, (.bool false))] h23) (fun k20 =>
k20 .normal [(1, t6)] h23) (Ys (fun tT h24 =>
Yh C F.jobs_Queue_Finish [(get tT 1), (.int .i64 5), (.int .i64 2)] h24 fun t42 h25 =>
Yb (Yf P .neq T.api_Errno (.tmp 42) (.const (.int .i64 0)) t42 (.int .i64 0)) h25 fun t43 h26 =>
mg t43 false (fun o21 => o21 (get tT 1) h26) h26 fun t45 h27 =>
mg t43 false (fun o22 => Yh C F.jobs_Queue_Finish [t45, (.int .i64 5), (.int .i64 1)] h27 o22) h27 fun t46 h28 =>
mg t43 false (fun o23 => Yb (Yf P .neq T.api_Errno (.tmp 46) (.const (.int .i64 8)) t46 (.int .i64 8)) h28 o23) h28 fun t47 h29 =>
YQ t43 (.bool true) t47 fun t48 =>
mg t48 false (fun o24 => o24 (get tT 1) h29) h29 fun t50 h30 =>
mg t48 false (fun o25 => Yh C F.jobs_Queue_Back [t50, (.int .i64 6), (.int .i64 1)] h30 o25) h30 fun t51 h31 =>
mg t48 false (fun o26 => Yb (Yf P .neq T.api_Errno (.tmp 51) (.const (.int .i64 0)) t51 (.int .i64 0)) h31 o26) h31 fun t52 h32 =>
YQ t48 (.bool true) t52 fun t53 =>
mg t53 false (fun o27 => o27 (get tT 1) h32) h32 fun t55 h33 =>
mg t53 false (fun o28 => Yh C F.law_taken [(.int .i64 1), (.int .i64 3), (.string (mk [97])), (.int .i64 2), (.int .i64 6), (.int .i64 4)] h33 o28) h33 fun t56 h34 =>
mg t53 false (fun o29 => Yh C F.law_takes [t55, (.int .i64 6), (.int .i64 4), t56, (.int .i64 0)] h34 o29) h34 fun t57 h35 =>
mg t53 false (fun o30 => Yb (xun P .not t57) h35 o30) h35 fun t58 h36 =>
YQ t53 (.bool true) t58 fun t59 =>
mg t59 false (fun o31 => o31 (get tT 1) h36) h36 fun t61 h37 =>
mg t59 false (fun o32 => Yh C F.jobs_Queue_Pass [t61, (.int .i64 4)] h37 o32) h37 fun t62 h38 =>
mg t59 false (fun o33 => Yb (Yf P .neq T.api_Errno (.tmp 62) (.const (.int .i64 0)) t62 (.int .i64 0)) h38 o33) h38 fun t63 h39 =>
YQ t59 (.bool true) t63 fun t64 =>
mg t64 false (fun o34 => o34 (get tT 1) h39) h39 fun t66 h40 =>
mg t64 false (fun o35 => Yb (Ui #[(.int .i64 0), (.int .i64 0), (.string (mk [])), (.int .i64 0), (.int .i64 0), (.int .i64 0), (.int .i64 0)] [(0, 1), (1, 1), (2, 1), (3, 1), (4, 1), (5, 1), (6, 1)] [(0, (.int .i64 1)), (1, (.int .i64 3)), (2, (.string (mk [97]))), (3, (.int .i64 3)), (4, (.int .i64 2))]) h40 o35) h40 fun t67 h41 =>
mg t64 false (fun o36 => Yh C F.law_gets [t66, (.int .i64 1), t67, (.int .i64 0)] h41 o36) h41 fun t68 h42 =>
mg t64 false (fun o37 => Yb (xun P .not t68) h42 o37) h42 fun t69 h43 =>
YQ t64 (.bool true) t69 fun t70 =>
mc t70 (fun k38 => k38 .ret [(0, (.bool false))] h43) (fun k38 =>
k38 .normal [(1, (get tT 1))] h43) (Ys (fun tT_1 h44 =>
Yh C F.law_taken [(.int .i64 3), (.int .i64 3), (.string (mk [99])), (.int .i64 1), (.int .i64 9), (.int .i64 5)] h44 fun t72 h45 =>
Yh C F.law_takes [(get tT_1 1), (.int .i64 9), (.int .i64 1), t72, (.int .i64 0)] h45 fun t73 h46 =>
Yb (xun P .not t73) h46 fun t74 h47 =>
mg t74 false (fun o39 => o39 (get tT_1 1) h47) h47 fun t76 h48 =>
mg t74 false (fun o40 => Yb (Ui #[(.int .i64 0), (.int .i64 0), (.string (mk [])), (.int .i64 0), (.int .i64 0), (.int .i64 0), (.int .i64 0)] [(0, 1), (1, 1), (2, 1), (3, 1), (4, 1), (5, 1), (6, 1)] []) h48 o40) h48 fun t77 h49 =>
mg t74 false (fun o41 => Yh C F.law_takes [t76, (.int .i64 9), (.int .i64 1), t77, (.int .i64 9)] h49 o41) h49 fun t78 h50 =>
mg t74 false (fun o42 => Yb (xun P .not t78) h50 o42) h50 fun t79 h51 =>
YQ t74 (.bool true) t79 fun t80 =>
mg t80 false (fun o43 => o43 (get tT_1 1) h51) h51 fun t82 h52 =>
mg t80 false (fun o44 => Yh C F.jobs_Queue_Revive [t82, (.int .i64 1)] h52 o44) h52 fun t83 h53 =>
mg t80 false (fun o45 => Yb (Yf P .neq T.api_Errno (.tmp 83) (.const (.int .i64 0)) t83 (.int .i64 0)) h53 o45) h53 fun t84 h54 =>
YQ t80 (.bool true) t84 fun t85 =>
mg t85 false (fun o46 => o46 (get tT_1 1) h54) h54 fun t87 h55 =>
mg t85 false (fun o47 => Yb (Ui #[(.int .i64 0), (.int .i64 0), (.string (mk [])), (.int .i64 0), (.int .i64 0), (.int .i64 0), (.int .i64 0)] [(0, 1), (1, 1), (2, 1), (3, 1), (4, 1), (5, 1), (6, 1)] [(0, (.int .i64 1)), (1, (.int .i64 3)), (2, (.string (mk [97]))), (3, (.int .i64 1))]) h55 o47) h55 fun t88 h56 =>
mg t85 false (fun o48 => Yh C F.law_gets [t87, (.int .i64 1), t88, (.int .i64 0)] h56 o48) h56 fun t89 h57 =>
mg t85 false (fun o49 => Yb (xun P .not t89) h57 o49) h57 fun t90 h58 =>
YQ t85 (.bool true) t90 fun t91 =>
mg t91 false (fun o50 => o50 (get tT_1 1) h58) h58 fun t93 h59 =>
mg t91 false (fun o51 => Yh C F.jobs_Queue_Pass [t93, (.int .i64 3)] h59 o51) h59 fun t94 h60 =>
mg t91 false (fun o52 => Yb (Yf P .neq T.api_Errno (.tmp 94) (.const (.int .i64 14)) t94 (.int .i64 14)) h60 o52) h60 fun t95 h61 =>
YQ t91 (.bool true) t95 fun t96 =>
mg t96 false (fun o53 => o53 (get tT_1 1) h61) h61 fun t98 h62 =>
mg t96 false (fun o54 => Yh C F.law_puts [t98, (.int .i64 10), (.string (mk [120])), (.int .i64 0), (.int .i64 2)] h62 o54) h62 fun t99 h63 =>
mg t96 false (fun o55 => Yb (xun P .not t99) h63 o55) h63 fun t100 h64 =>
YQ t96 (.bool true) t100 fun t101 =>
mc t101 (fun k56 => k56 .ret [(0, (.bool false))] h64) (fun k56 =>
k56 .normal [(1, (get tT_1 1))] h64) (Ys (fun tT_2 h65 =>
Yh C F.jobs_Queue_Jobs [(get tT_2 1)] h65 fun t103 h66 =>
Yb (lenS t103) h66 fun t105 h67 =>
Yb (Yf P .eql T.int (.tmp 105) (.const (.int .i64 2)) t105 (.int .i64 2)) h67 fun t106 h68 =>
mg t106 true (fun o57 => o57 t103 h68) h68 fun t108 h69 =>
mg t106 true (fun o58 => Yb (ixS 7 t108 (.int .i64 0)) h69 o58) h69 fun t109 h70 =>
mg t106 true (fun o59 => Yb (fad 0 t109) h70 o59) h70 fun t110 h71 =>
mg t106 true (fun o60 => Yb (ld1 h71 t110) h71 o60) h71 fun t111 h72 =>
mg t106 true (fun o61 => Yb (Yf P .eql T.int (.tmp 111) (.const (.int .i64 1)) t111 (.int .i64 1)) h72 o61) h72 fun t112 h73 =>
YQ t106 t112 (.bool false) fun t113 =>
mg t113 true (fun o62 => o62 t103 h73) h73 fun t115 h74 =>
mg t113 true (fun o63 => Yb (ixS 7 t115 (.int .i64 1)) h74 o63) h74 fun t116 h75 =>
mg t113 true (fun o64 => Yb (fad 0 t116) h75 o64) h75 fun t117 h76 =>
mg t113 true (fun o65 => Yb (ld1 h76 t117) h76 o65) h76 fun t118 h77 =>
mg t113 true (fun o66 => Yb (Yf P .eql T.int (.tmp 118) (.const (.int .i64 3)) t118 (.int .i64 3)) h77 o66) h77 fun t119 h78 =>
YQ t113 t119 (.bool false) fun t120 =>
K0 .ret [(0, t120)] h78) K0)) K0)) K0)
theorem s_law_known_eq (M : CombL) (C : Yc) (LP : Yv) (H : AHeap) : Yy M Tryd.prog hints C LP F.law_known [] H = Qn M.b.g M.c M.s Tryd.prog C H (Yi Tryd.prog [.tmp 0]) := by kernel_rfl
noncomputable def QN (mg : GT) (mc : CT) (ms : ST) (P : Program) (C : Yc) (a0 : Value) (H : AHeap) (K0 : K) : Res :=
Yb (Yf P .lss T.int (.tmp 4) (.const (.int .i64 1)) a0 (.int .i64 1)) H fun t5 h1 =>
mg t5 false (fun o1 => o1 a0 h1) h1 fun t7 h2 =>
mg t5 false (fun o2 => Yb (Yf P .gtr T.int (.tmp 7) (.const (.int .i64 100)) t7 (.int .i64 100)) h2 o2) h2 fun t8 h3 =>
YQ t5 (.bool true) t8 fun t9 =>
mc t9 (fun k3 => k3 .ret [(2, (.pointer none)), (3, (.int .i64 2))] h3) (fun k3 =>
k3 .normal [(0, a0)] h3) (Ys (fun tT h4 =>
Yb (Ui #[(.slice none 0 0)] [(0, 1)] []) h4 fun t10 h5 =>
Yp (XT T.model_Model t10 h5) fun t11 h6 =>
Yp (WU P T.map_int_string none h6) fun t12 h7 =>
Yb (Ui #[(.pointer none), (.map none), (.int .i64 0), (.int .i64 0), (.int .i64 0)] [(0, 1), (1, 1), (2, 1), (3, 1), (4, 1)] [(0, t11), (1, t12), (2, (get tT 0))]) h7 fun t14 h8 =>
Yp (XT T.jobs_Queue t14 h8) fun t15 h9 =>
K0 .ret [(2, t15), (3, (.int .i64 0))] h9) K0)
theorem s_jobs_New_eq (M : CombL) (C : Yc) (LP : Yv) (a0 : Value) (H : AHeap) : Yy M Tryd.prog hints C LP F.jobs_New [a0] H = QN M.b.g M.c M.s Tryd.prog C a0 H (Yi Tryd.prog [.tmp 2, .tmp 3]) := by kernel_rfl
noncomputable def QW (mg : GT) (mc : CT) (ms : ST) (P : Program) (C : Yc) (a0 a1 a2 a3 a4 : Value) (H : AHeap) (K0 : K) : Res :=
Yh C F.jobs_Queue_Put [a0, a1, a2] H fun t17 h1 =>
Yb (Yn t17 0) h1 fun t18 h2 =>
Yb (Yn t17 1) h2 fun t19 h3 =>
Yb (Yf P .eql T.int (.tmp 20) (.tmp 21) t18 a3) h3 fun t22 h4 =>
mg t22 true (fun o1 => o1 t19 h4) h4 fun t24 h5 =>
mg t22 true (fun o2 => o2 a4 h5) h5 fun t25 h6 =>
mg t22 true (fun o3 => Yb (Yf P .eql T.int (.tmp 24) (.tmp 25) t24 t25) h6 o3) h6 fun t26 h7 =>
YQ t22 t26 (.bool false) fun t27 =>
K0 .ret [(10, t27)] h7
theorem s_law_puts_eq (M : CombL) (C : Yc) (LP : Yv) (a0 a1 a2 a3 a4 : Value) (H : AHeap) : Yy M Tryd.prog hints C LP F.law_puts [a0, a1, a2, a3, a4] H = QW M.b.g M.c M.s Tryd.prog C a0 a1 a2 a3 a4 H (Yi Tryd.prog [.tmp 10]) := by kernel_rfl
noncomputable def Qp (mg : GT) (mc : CT) (ms : ST) (P : Program) (C : Yc) (a0 a1 a2 a3 a4 : Value) (H : AHeap) (K0 : K) : Res :=
Yp (XT T.api_Job a3 H) fun t8 h1 =>
Yh C F.jobs_Queue_Take [a0, a1, a2] h1 fun t17 h2 =>
Yb (Yn t17 0) h2 fun t18 h3 =>
Yb (Yn t17 1) h3 fun t19 h4 =>
Yp (XT T.api_Job (.agg #[(.int .i64 0), (.int .i64 0), (.string (mk [])), (.int .i64 0), (.int .i64 0), (.int .i64 0), (.int .i64 0)]) h4) fun t11 h5 =>
Yr (stN 7 h5 t11 t18) fun _ h6 =>
Yb (ldN 7 h6 t11) h6 fun t20 h7 =>
Yb (ldN 7 h7 t8) h7 fun t21 h8 =>
Yb (Yf P .eql T.api_Job (.tmp 20) (.tmp 21) t20 t21) h8 fun t22 h9 =>
mg t22 true (fun o1 => o1 t19 h9) h9 fun t24 h10 =>
mg t22 true (fun o2 => o2 a4 h10) h10 fun t25 h11 =>
mg t22 true (fun o3 => Yb (Yf P .eql T.int (.tmp 24) (.tmp 25) t24 t25) h11 o3) h11 fun t26 h12 =>
YQ t22 t26 (.bool false) fun t27 =>
K0 .ret [(10, t27)] h12
theorem s_law_takes_eq (M : CombL) (C : Yc) (LP : Yv) (a0 a1 a2 a3 a4 : Value) (H : AHeap) : Yy M Tryd.prog hints C LP F.law_takes [a0, a1, a2, a3, a4] H = Qp M.b.g M.c M.s Tryd.prog C a0 a1 a2 a3 a4 H (Yi Tryd.prog [.tmp 10]) := by kernel_rfl
noncomputable def Wi (mg : GT) (mc : CT) (ms : ST) (P : Program) (C : Yc) (a0 a1 a2 : Value) (H : AHeap) (K0 : K) : Res :=
Yh C F.jobs_Queue_taken [a0, a1, a2] H fun t13 h1 =>
Yb (Yn t13 0) h1 fun t14 h2 =>
Yb (Yn t13 1) h2 fun t15 h3 =>
Yp (XT T.api_Job (.agg #[(.int .i64 0), (.int .i64 0), (.string (mk [])), (.int .i64 0), (.int .i64 0), (.int .i64 0), (.int .i64 0)]) h3) fun t7 h4 =>
Yr (stN 7 h4 t7 t14) fun _ h5 =>
Yb (Yf P .neq T.api_Errno (.tmp 16) (.const (.int .i64 0)) t15 (.int .i64 0)) h5 fun t17 h6 =>
mc t17 (fun k1 => k1 .ret [(6, t15)] h6) (fun k1 =>
k1 .normal [(0, a0), (7, t7)] h6) (Ys (fun tT h7 =>
Yb (ldN 7 h7 (get tT 7)) h7 fun t20 h8 =>
Yh C F.jobs_Queue_back [(get tT 0), t20] h8 fun t21 h9 =>
K0 .ret [(6, t21)] h9) K0)
theorem s_jobs_Queue_Back_eq (M : CombL) (C : Yc) (LP : Yv) (a0 a1 a2 : Value) (H : AHeap) : Yy M Tryd.prog hints C LP F.jobs_Queue_Back [a0, a1, a2] H = Wi M.b.g M.c M.s Tryd.prog C a0 a1 a2 H (Yi Tryd.prog [.tmp 6]) := by kernel_rfl
noncomputable def QZ (mg : GT) (mc : CT) (ms : ST) (P : Program) (C : Yc) (a0 a1 a2 a3 : Value) (H : AHeap) (K0 : K) : Res :=
Yp (XT T.api_Job a2 H) fun t6 h1 =>
Yh C F.jobs_Queue_Get [a0, a1] h1 fun t14 h2 =>
Yb (Yn t14 0) h2 fun t15 h3 =>
Yb (Yn t14 1) h3 fun t16 h4 =>
Yp (XT T.api_Job (.agg #[(.int .i64 0), (.int .i64 0), (.string (mk [])), (.int .i64 0), (.int .i64 0), (.int .i64 0), (.int .i64 0)]) h4) fun t9 h5 =>
Yr (stN 7 h5 t9 t15) fun _ h6 =>
Yb (ldN 7 h6 t9) h6 fun t17 h7 =>
Yb (ldN 7 h7 t6) h7 fun t18 h8 =>
Yb (Yf P .eql T.api_Job (.tmp 17) (.tmp 18) t17 t18) h8 fun t19 h9 =>
mg t19 true (fun o1 => o1 t16 h9) h9 fun t21 h10 =>
mg t19 true (fun o2 => o2 a3 h10) h10 fun t22 h11 =>
mg t19 true (fun o3 => Yb (Yf P .eql T.int (.tmp 21) (.tmp 22) t21 t22) h11 o3) h11 fun t23 h12 =>
YQ t19 t23 (.bool false) fun t24 =>
K0 .ret [(8, t24)] h12
theorem s_law_gets_eq (M : CombL) (C : Yc) (LP : Yv) (a0 a1 a2 a3 : Value) (H : AHeap) : Yy M Tryd.prog hints C LP F.law_gets [a0, a1, a2, a3] H = QZ M.b.g M.c M.s Tryd.prog C a0 a1 a2 a3 H (Yi Tryd.prog [.tmp 8]) := by kernel_rfl
noncomputable def Ux (mg : GT) (mc : CT) (ms : ST) (P : Program) (C : Yc) (L0 : Value → Value → Value → AHeap → K → Res) (a0 a1 : Value) (H : AHeap) (K0 : K) : Res :=
ms (fun k1 =>
L0 a0 a1 (.int .i64 0) H (YI [0, 1] 0 k1)) (Ys (fun tT h1 =>
Yb (lenS (get tT 0)) h1 fun t25 h2 =>
Yb (Yf P .leq T.int (.tmp 25) (.tmp 26) t25 (get tT 1)) h2 fun t27 h3 =>
K0 .ret [(4, t27)] h3) K0)
noncomputable def WD (mg : GT) (mc : CT) (ms : ST) (P : Program) (C : Yc) (L0 : Value → Value → Value → AHeap → K → Res) (v0 v1 v5 : Value) (H : AHeap) (k : K) : Res :=
Yb (lenS v0) H fun t8 h1 =>
Yb (Yf P .lss T.int (.tmp 6) (.tmp 8) v5 t8) h1 fun t9 h2 =>
mg t9 true (fun o2 => o2 v5 h2) h2 fun t11 h3 =>
mg t9 true (fun o3 => o3 v1 h3) h3 fun t12 h4 =>
mg t9 true (fun o4 => Yb (Yf P .lss T.int (.tmp 11) (.tmp 12) t11 t12) h4 o4) h4 fun t13 h5 =>
YQ t9 t13 (.bool false) fun t14 =>
mc t14 (fun k5 => k5 .normal [(0, v0), (1, v1), (5, v5)] h5) (fun k5 =>
k5 (.exit 0) [(14, t14), (13, t13), (12, t12), (11, t11), (10, t9), (9, t9), (8, t8), (7, v0), (6, v5), (0, v0), (1, v1), (5, v5)] h5) (Ys (fun tT h6 =>
ms (fun k6 =>
Yb (ixS 4 (get tT 0) (get tT 5)) h6 fun t19 h7 =>
Yb (fad 3 t19) h7 fun t20 h8 =>
Yb (ld1 h8 t20) h8 fun t21 h9 =>
Yb (lenT t21) h9 fun t22 h10 =>
Yb (Yf P .gtr T.int (.tmp 22) (.const (.int .i64 20)) t22 (.int .i64 20)) h10 fun t23 h11 =>
mc t23 (fun k7 => k7 .ret [(4, (.bool false))] h11) (fun k7 =>
k7 .normal [(0, (get tT 0)), (1, (get tT 1)), (5, (get tT 5))] h11) (YI [0, 1, 5] 1 k6)) (Ys (fun tT_1 h12 =>
Yb (Yf P .add T.int (.tmp 15) (.const (.int .i64 1)) (get tT_1 5) (.int .i64 1)) h12 fun t16 h13 =>
k .normal [(0, (get tT_1 0)), (1, (get tT_1 1)), (5, t16)] h13) (Yl [0, 1, 5] k))) (Yl [0, 1, 5] k))
theorem s_law_small_eq (M : CombL) (C : Yc) (LP : Yv) (a0 a1 : Value) (H : AHeap) : Yy M Tryd.prog hints C LP F.law_small [a0, a1] H = Ux M.b.g M.c M.s Tryd.prog C (fun v0 v1 v5 H k => YH M Tryd.prog hints C LP F.law_small 0 [(0, v0), (1, v1), (5, v5)] H k) a0 a1 H (Yi Tryd.prog [.tmp 4]) := by kernel_rfl
theorem s_law_small_b0_eq (M : CombL) (C : Yc) (LP : Yv) (v0 v1 v5 : Value) (H : AHeap) (k : K) : Uz M Tryd.prog hints C LP F.law_small 0 [(0, v0), (1, v1), (5, v5)] H (Yl [0, 1, 5] k) = WD M.b.g M.c M.s Tryd.prog C (fun v0 v1 v5 H k => YH M Tryd.prog hints C LP F.law_small 0 [(0, v0), (1, v1), (5, v5)] H k) v0 v1 v5 H k := by kernel_rfl
noncomputable def WX (mg : GT) (mc : CT) (ms : ST) (P : Program) (C : Yc) (a0 : Value) (H : AHeap) (K0 : K) : Res :=
Yh C F.jobs_Queue_none [a0] H fun t4 h1 =>
mc t4 (fun k1 => k1 .ret [(2, (.slice none 0 0))] h1) (fun k1 =>
k1 .normal [(0, a0)] h1) (Ys (fun tT h2 =>
Yh C F.jobs_Queue_in [(get tT 0), (.slice none 0 0)] h2 fun t6 h3 =>
K0 .ret [(2, t6)] h3) K0)
theorem s_jobs_Queue_Jobs_eq (M : CombL) (C : Yc) (LP : Yv) (a0 : Value) (H : AHeap) : Yy M Tryd.prog hints C LP F.jobs_Queue_Jobs [a0] H = WX M.b.g M.c M.s Tryd.prog C a0 H (Yi Tryd.prog [.tmp 2]) := by kernel_rfl
noncomputable def XH (mg : GT) (mc : CT) (ms : ST) (P : Program) (C : Yc) (a0 a1 a2 : Value) (H : AHeap) (K0 : K) : Res :=
ms (fun k1 =>
Yh C F.jobs_Queue_none [a0] H fun t11 h1 =>
mc t11 (fun k2 => k2 .ret [(6, (.int .i64 0)), (7, (.int .i64 1))] h1) (fun k2 =>
Yb (Yf P .lss T.int (.tmp 13) (.const (.int .i64 0)) a1 (.int .i64 0)) h1 fun t14 h2 =>
mg t14 false (fun o3 => o3 a1 h2) h2 fun t16 h3 =>
mg t14 false (fun o4 => Yb (Yf P .gtr T.int (.tmp 16) (.const (.int .i64 9)) t16 (.int .i64 9)) h3 o4) h3 fun t17 h4 =>
YQ t14 (.bool true) t17 fun t18 =>
mc t18 (fun k5 => k5 .ret [(6, (.int .i64 0)), (7, (.int .i64 2))] h4) (fun k5 =>
Yb (lenT a2) h4 fun t21 h5 =>
Yb (Yf P .gtr T.int (.tmp 21) (.const (.int .i64 15)) t21 (.int .i64 15)) h5 fun t22 h6 =>
mc t22 (fun k6 => k6 .ret [(6, (.int .i64 0)), (7, (.int .i64 5))] h6) (fun k6 =>
k6 .normal [(0, a0), (1, a1), (2, a2)] h6) (Yl [0, 1, 2] k5)) (Yl [0, 1, 2] k2)) (YI [0, 1, 2] 0 k1)) (Ys (fun tT h7 =>
Yb (Yz (get tT 0)) h7 fun t25 h8 =>
Yb (fad 3 t25) h8 fun t26 h9 =>
Yb (ld1 h9 t26) h9 fun t27 h10 =>
Yb (Yf P .add T.int (.tmp 27) (.const (.int .i64 1)) t27 (.int .i64 1)) h10 fun t28 h11 =>
Yb (Ui #[(.int .i64 0), (.int .i64 0), (.string (mk [])), (.int .i64 0), (.int .i64 0), (.int .i64 0), (.int .i64 0)] [(0, 1), (1, 1), (2, 1), (3, 1), (4, 1), (5, 1), (6, 1)] [(0, t28), (1, (get tT 1)), (2, (get tT 2)), (3, (.int .i64 1))]) h11 fun t31 h12 =>
Yh C F.jobs_Queue_set [(get tT 0), t31] h12 fun t32 h13 =>
Yb (Yf P .neq T.api_Errno (.tmp 33) (.const (.int .i64 0)) t32 (.int .i64 0)) h13 fun t34 h14 =>
mc t34 (fun k7 => k7 .ret [(6, (.int .i64 0)), (7, t32)] h14) (fun k7 =>
k7 .normal [(0, (get tT 0))] h14) (Ys (fun tT_1 h15 =>
Yb (Yz (get tT_1 0)) h15 fun t37 h16 =>
Yb (fad 3 t37) h16 fun t38 h17 =>
Yb (ld1 h17 t38) h17 fun t39 h18 =>
Yb (Yf P .add T.int (.tmp 39) (.const (.int .i64 1)) t39 (.int .i64 1)) h18 fun t40 h19 =>
Yb (Yz (get tT_1 0)) h19 fun t41 h20 =>
Yb (fad 3 t41) h20 fun t42 h21 =>
Yr (st1 h21 t42 t40) fun _ h22 =>
Yb (Yz (get tT_1 0)) h22 fun t44 h23 =>
Yb (fad 3 t44) h23 fun t45 h24 =>
Yb (ld1 h24 t45) h24 fun t46 h25 =>
K0 .ret [(6, t46), (7, (.int .i64 0))] h25) K0)) K0)
theorem s_jobs_Queue_Put_eq (M : CombL) (C : Yc) (LP : Yv) (a0 a1 a2 : Value) (H : AHeap) : Yy M Tryd.prog hints C LP F.jobs_Queue_Put [a0, a1, a2] H = XH M.b.g M.c M.s Tryd.prog C a0 a1 a2 H (Yi Tryd.prog [.tmp 6, .tmp 7]) := by kernel_rfl
noncomputable def YW (mg : GT) (mc : CT) (ms : ST) (P : Program) (C : Yc) (a0 a1 a2 : Value) (H : AHeap) (K0 : K) : Res :=
Yp (XT T.api_Job (.agg #[(.int .i64 0), (.int .i64 0), (.string (mk [])), (.int .i64 0), (.int .i64 0), (.int .i64 0), (.int .i64 0)]) H) fun t6 h1 =>
ms (fun k1 =>
Yh C F.jobs_Queue_none [a0] h1 fun t13 h2 =>
mc t13 (fun k2 => Yb (Ui #[(.int .i64 0), (.int .i64 0), (.string (mk [])), (.int .i64 0), (.int .i64 0), (.int .i64 0), (.int .i64 0)] [(0, 1), (1, 1), (2, 1), (3, 1), (4, 1), (5, 1), (6, 1)] []) h2 fun t14 h3 =>
Yr (stN 7 h3 t6 t14) fun _ h4 =>
k2 .ret [(6, t6), (7, (.int .i64 1))] h4) (fun k2 =>
Yb (Yf P .lss T.int (.tmp 16) (.const (.int .i64 1)) a1 (.int .i64 1)) h2 fun t17 h5 =>
mg t17 false (fun o3 => o3 a1 h5) h5 fun t19 h6 =>
mg t17 false (fun o4 => Yb (Yf P .gtr T.int (.tmp 19) (.const (.int .i64 1000)) t19 (.int .i64 1000)) h6 o4) h6 fun t20 h7 =>
YQ t17 (.bool true) t20 fun t21 =>
mg t21 false (fun o5 => o5 a2 h7) h7 fun t23 h8 =>
mg t21 false (fun o6 => Yb (Yf P .lss T.int (.tmp 23) (.const (.int .i64 1)) t23 (.int .i64 1)) h8 o6) h8 fun t24 h9 =>
YQ t21 (.bool true) t24 fun t25 =>
mg t25 false (fun o7 => o7 a2 h9) h9 fun t27 h10 =>
mg t25 false (fun o8 => o8 a0 h10) h10 fun t28 h11 =>
mg t25 false (fun o9 => Yb (Yz t28) h11 o9) h11 fun t29 h12 =>
mg t25 false (fun o10 => Yb (fad 4 t29) h12 o10) h12 fun t30 h13 =>
mg t25 false (fun o11 => Yb (ld1 h13 t30) h13 o11) h13 fun t31 h14 =>
mg t25 false (fun o12 => Yb (Yf P .sub T.int (.const (.int .i64 1099511627776)) (.tmp 31) (.int .i64 1099511627776) t31) h14 o12) h14 fun t32 h15 =>
mg t25 false (fun o13 => Yb (Yf P .gtr T.int (.tmp 27) (.tmp 32) t27 t32) h15 o13) h15 fun t33 h16 =>
YQ t25 (.bool true) t33 fun t34 =>
mc t34 (fun k14 => Yb (Ui #[(.int .i64 0), (.int .i64 0), (.string (mk [])), (.int .i64 0), (.int .i64 0), (.int .i64 0), (.int .i64 0)] [(0, 1), (1, 1), (2, 1), (3, 1), (4, 1), (5, 1), (6, 1)] []) h16 fun t35 h17 =>
Yr (stN 7 h17 t6 t35) fun _ h18 =>
k14 .ret [(6, t6), (7, (.int .i64 2))] h18) (fun k14 =>
k14 .normal [(0, a0), (1, a1), (2, a2), (6, t6)] h16) (Yl [0, 1, 2, 6] k2)) (YI [0, 1, 2, 6] 0 k1)) (Ys (fun tT h19 =>
Yh C F.jobs_number [(.int .i64 1)] h19 fun t37 h20 =>
Yp (UC T.api_Cell [(.int .i64 0), (.int .u64 0), (.int .i64 0), (.string (mk [])), (.bool false)] 1 [(0, t37)] h20) fun t38 h21 =>
Yh C F.jobs_Queue_in [(get tT 0), t38] h21 fun t39 h22 =>
Yb (lenS t39) h22 fun t41 h23 =>
Yb (Yf P .eql T.int (.tmp 41) (.const (.int .i64 0)) t41 (.int .i64 0)) h23 fun t42 h24 =>
mc t42 (fun k15 => Yb (Ui #[(.int .i64 0), (.int .i64 0), (.string (mk [])), (.int .i64 0), (.int .i64 0), (.int .i64 0), (.int .i64 0)] [(0, 1), (1, 1), (2, 1), (3, 1), (4, 1), (5, 1), (6, 1)] []) h24 fun t43 h25 =>
Yr (stN 7 h25 (get tT 6) t43) fun _ h26 =>
k15 .ret [(6, (get tT 6)), (7, (.int .i64 9))] h26) (fun k15 =>
k15 .normal [(0, (get tT 0)), (1, (get tT 1)), (2, (get tT 2)), (6, (get tT 6)), (8, t39)] h24) (Ys (fun tT_1 h27 =>
Yb (ixS 7 (get tT_1 8) (.int .i64 0)) h27 fun t45 h28 =>
Yb (ldN 7 h28 t45) h28 fun t46 h29 =>
Yp (XT T.api_Job (.agg #[(.int .i64 0), (.int .i64 0), (.string (mk [])), (.int .i64 0), (.int .i64 0), (.int .i64 0), (.int .i64 0)]) h29) fun t9 h30 =>
Yr (stN 7 h30 t9 t46) fun _ h31 =>
Yb (Yz (get tT_1 0)) h31 fun t49 h32 =>
Yb (fad 4 t49) h32 fun t50 h33 =>
Yb (ld1 h33 t50) h33 fun t51 h34 =>
Yb (Yf P .add T.int (.tmp 51) (.tmp 52) t51 (get tT_1 2)) h34 fun t53 h35 =>
Yb (fad 4 t9) h35 fun t54 h36 =>
Yb (ld1 h36 t54) h36 fun t55 h37 =>
Yb (Yf P .add T.int (.tmp 55) (.const (.int .i64 1)) t55 (.int .i64 1)) h37 fun t56 h38 =>
Yb (fad 3 t9) h38 fun t57 h39 =>
Yr (st1 h39 t57 (.int .i64 2)) fun _ h40 =>
Yb (fad 5 t9) h40 fun t58 h41 =>
Yr (st1 h41 t58 (get tT_1 1)) fun _ h42 =>
Yb (fad 6 t9) h42 fun t59 h43 =>
Yr (st1 h43 t59 t53) fun _ h44 =>
Yb (fad 4 t9) h44 fun t60 h45 =>
Yr (st1 h45 t60 t56) fun _ h46 =>
Xy (okV (some true) none h39 h40 h31 h31 && (okV (some true) none h39 h40 h31 h31 && (okV (some true) none h39 h40 h31 h32 && (okV (some true) none h39 h40 h32 h33 && (okV (some true) (Yk t50) h39 h40 h33 h34 && (okV (some true) none h39 h40 h34 h34 && (okV (some true) none h39 h40 h34 h35 && (okV (some true) none h39 h40 h37 h38 && (okV (some true) none h41 h42 h31 h31 && (okV (some true) none h41 h42 h31 h32 && (okV (some true) none h41 h42 h32 h33 && (okV (some true) (Yk t50) h41 h42 h33 h34 && (okV (some true) none h41 h42 h34 h34 && (okV (some true) none h41 h42 h34 h35 && (okV (some true) none h41 h42 h37 h38 && (okV (some true) none h43 h44 h37 h38 && true)))))))))))))))) <|
Yb (ldN 7 h46 t9) h46 fun t62 h47 =>
Yh C F.jobs_Queue_set [(get tT_1 0), t62] h47 fun t63 h48 =>
Yb (Yf P .neq T.api_Errno (.tmp 64) (.const (.int .i64 0)) t63 (.int .i64 0)) h48 fun t65 h49 =>
mc t65 (fun k16 => Yb (Ui #[(.int .i64 0), (.int .i64 0), (.string (mk [])), (.int .i64 0), (.int .i64 0), (.int .i64 0), (.int .i64 0)] [(0, 1), (1, 1), (2, 1), (3, 1), (4, 1), (5, 1), (6, 1)] []) h49 fun t66 h50 =>
Yr (stN 7 h50 (get tT_1 6) t66) fun _ h51 =>
k16 .ret [(6, (get tT_1 6)), (7, t63)] h51) (fun k16 =>
k16 .normal [(6, (get tT_1 6)), (9, t9)] h49) (Ys (fun tT_2 h52 =>
Yb (ldN 7 h52 (get tT_2 9)) h52 fun t68 h53 =>
Yr (stN 7 h53 (get tT_2 6) t68) fun _ h54 =>
K0 .ret [(6, (get tT_2 6)), (7, (.int .i64 0))] h54) K0)) K0)) K0)
theorem s_jobs_Queue_Take_eq (M : CombL) (C : Yc) (LP : Yv) (a0 a1 a2 : Value) (H : AHeap) : Yy M Tryd.prog hints C LP F.jobs_Queue_Take [a0, a1, a2] H = YW M.b.g M.c M.s Tryd.prog C a0 a1 a2 H (Yi Tryd.prog [.cell 6 T.api_Job, .tmp 7]) := by kernel_rfl
noncomputable def W9 (mg : GT) (mc : CT) (ms : ST) (P : Program) (C : Yc) (a0 : Value) (H : AHeap) (K0 : K) : Res :=
Yh C F.jobs_Queue_none [a0] H fun t4 h1 =>
mc t4 (fun k1 => k1 .ret [(2, (.int .i64 0))] h1) (fun k1 =>
k1 .normal [(0, a0)] h1) (Ys (fun tT h2 =>
Yb (Yz (get tT 0)) h2 fun t6 h3 =>
Yb (fad 4 t6) h3 fun t7 h4 =>
Yb (ld1 h4 t7) h4 fun t8 h5 =>
K0 .ret [(2, t8)] h5) K0)
theorem s_jobs_Queue_Now_eq (M : CombL) (C : Yc) (LP : Yv) (a0 : Value) (H : AHeap) : Yy M Tryd.prog hints C LP F.jobs_Queue_Now [a0] H = W9 M.b.g M.c M.s Tryd.prog C a0 H (Yi Tryd.prog [.tmp 2]) := by kernel_rfl
noncomputable def XS (mg : GT) (mc : CT) (ms : ST) (P : Program) (C : Yc) (a0 a1 a2 : Value) (H : AHeap) (K0 : K) : Res :=
Yh C F.jobs_Queue_taken [a0, a1, a2] H fun t13 h1 =>
Yb (Yn t13 0) h1 fun t14 h2 =>
Yb (Yn t13 1) h2 fun t15 h3 =>
Yp (XT T.api_Job (.agg #[(.int .i64 0), (.int .i64 0), (.string (mk [])), (.int .i64 0), (.int .i64 0), (.int .i64 0), (.int .i64 0)]) h3) fun t7 h4 =>
Yr (stN 7 h4 t7 t14) fun _ h5 =>
Yb (Yf P .neq T.api_Errno (.tmp 16) (.const (.int .i64 0)) t15 (.int .i64 0)) h5 fun t17 h6 =>
mc t17 (fun k1 => k1 .ret [(6, t15)] h6) (fun k1 =>
k1 .normal [(0, a0), (2, a2)] h6) (Ys (fun tT h7 =>
Yb (Yz (get tT 0)) h7 fun t20 h8 =>
Yb (fad 0 t20) h8 fun t21 h9 =>
Yb (ld1 h9 t21) h9 fun t22 h10 =>
Yb (Yz (get tT 0)) h10 fun t24 h11 =>
Yb (fad 1 t24) h11 fun t25 h12 =>
Yb (ld1 h12 t25) h12 fun t26 h13 =>
Yb (Xb P T.map_int_string t26 (get tT 2) false h13) h13 fun t28 h14 =>
Yh C F.model_Model_Delete [t22, t28] h14 fun t29 h15 =>
Xy true <|
Yb (Yz (get tT 0)) h15 fun t31 h16 =>
Yb (fad 1 t31) h16 fun t32 h17 =>
Yb (ld1 h17 t32) h17 fun t33 h18 =>
Va C h18 (YN P .delete [T.map_int_string, T.int] [t33, (get tT 2)] h18) fun _ h19 =>
K0 .ret [(6, (.int .i64 0))] h19) K0)
theorem Gn (M : CombL) (C : Yc) (LP : Yv) (a0 a1 a2 : Value) (H : AHeap) : Yy M Tryd.prog hints C LP F.jobs_Queue_Finish [a0, a1, a2] H = XS M.b.g M.c M.s Tryd.prog C a0 a1 a2 H (Yi Tryd.prog [.tmp 6]) := by kernel_rfl
noncomputable def Xm (mg : GT) (mc : CT) (ms : ST) (P : Program) (C : Yc) (a0 a1 : Value) (H : AHeap) (K0 : K) : Res :=
Yh C F.jobs_Queue_Get [a0, a1] H fun t10 h1 =>
Yb (Yn t10 0) h1 fun t11 h2 =>
Yb (Yn t10 1) h2 fun t12 h3 =>
Yp (XT T.api_Job (.agg #[(.int .i64 0), (.int .i64 0), (.string (mk [])), (.int .i64 0), (.int .i64 0), (.int .i64 0), (.int .i64 0)]) h3) fun t5 h4 =>
Yr (stN 7 h4 t5 t11) fun _ h5 =>
ms (fun k1 =>
Yb (Yf P .neq T.api_Errno (.tmp 14) (.const (.int .i64 0)) t12 (.int .i64 0)) h5 fun t15 h6 =>
mc t15 (fun k2 => k2 .ret [(4, t12)] h6) (fun k2 =>
Yb (fad 3 t5) h6 fun t18 h7 =>
Yb (ld1 h7 t18) h7 fun t19 h8 =>
Yb (Yf P .neq T.api_JobState (.tmp 19) (.const (.int .i64 3)) t19 (.int .i64 3)) h8 fun t20 h9 =>
mc t20 (fun k3 => k3 .ret [(4, (.int .i64 8))] h9) (fun k3 =>
k3 .normal [(0, a0), (5, t5)] h9) (Yl [0, 5] k2)) (YI [0, 5] 0 k1)) (Ys (fun tT h10 =>
Yb (fad 3 (get tT 5)) h10 fun t21 h11 =>
Yr (st1 h11 t21 (.int .i64 1)) fun _ h12 =>
Yb (fad 4 (get tT 5)) h12 fun t22 h13 =>
Yr (st1 h13 t22 (.int .i64 0)) fun _ h14 =>
Yb (ldN 7 h14 (get tT 5)) h14 fun t24 h15 =>
Yh C F.jobs_Queue_set [(get tT 0), t24] h15 fun t25 h16 =>
K0 .ret [(4, t25)] h16) K0)
theorem Z4 (M : CombL) (C : Yc) (LP : Yv) (a0 a1 : Value) (H : AHeap) : Yy M Tryd.prog hints C LP F.jobs_Queue_Revive [a0, a1] H = Xm M.b.g M.c M.s Tryd.prog C a0 a1 H (Yi Tryd.prog [.tmp 4]) := by kernel_rfl
noncomputable def Xr (mg : GT) (mc : CT) (ms : ST) (P : Program) (C : Yc) (L0 : Value → Value → Value → Value → Value → AHeap → K → Res) (a0 a1 : Value) (H : AHeap) (K0 : K) : Res :=
ms (fun k1 =>
Yh C F.jobs_Queue_none [a0] H fun t10 h1 =>
mc t10 (fun k2 => k2 .ret [(4, (.int .i64 1))] h1) (fun k2 =>
Yb (Yf P .lss T.int (.tmp 12) (.const (.int .i64 0)) a1 (.int .i64 0)) h1 fun t13 h2 =>
mg t13 false (fun o3 => o3 a1 h2) h2 fun t15 h3 =>
mg t13 false (fun o4 => Yb (Yf P .gtr T.int (.tmp 15) (.const (.int .i64 1099511627776)) t15 (.int .i64 1099511627776)) h3 o4) h3 fun t16 h4 =>
YQ t13 (.bool true) t16 fun t17 =>
mc t17 (fun k5 => k5 .ret [(4, (.int .i64 2))] h4) (fun k5 =>
Yb (Yz a0) h4 fun t21 h5 =>
Yb (fad 4 t21) h5 fun t22 h6 =>
Yb (ld1 h6 t22) h6 fun t23 h7 =>
Yb (Yf P .lss T.int (.tmp 19) (.tmp 23) a1 t23) h7 fun t24 h8 =>
mc t24 (fun k6 => k6 .ret [(4, (.int .i64 14))] h8) (fun k6 =>
k6 .normal [(0, a0), (1, a1)] h8) (Yl [0, 1] k5)) (Yl [0, 1] k2)) (YI [0, 1] 0 k1)) (Ys (fun tT h9 =>
Yb (Yz (get tT 0)) h9 fun t27 h10 =>
Yb (fad 4 t27) h10 fun t28 h11 =>
Yr (st1 h11 t28 (get tT 1)) fun _ h12 =>
Yh C F.jobs_number [(.int .i64 2)] h12 fun t30 h13 =>
Yp (UC T.api_Cell [(.int .i64 0), (.int .u64 0), (.int .i64 0), (.string (mk [])), (.bool false)] 1 [(0, t30)] h13) fun t31 h14 =>
Yh C F.jobs_Queue_in [(get tT 0), t31] h14 fun t32 h15 =>
Yb (lenS t32) h15 fun t33 h16 =>
ms (fun k7 =>
L0 (get tT 0) (get tT 1) t32 t33 (.int .i64 0) h16 (YI [] 1 k7)) (Ys (fun tT_1 h17 =>
K0 .ret [(4, (.int .i64 0))] h17) K0)) K0)
noncomputable def Wd (mg : GT) (mc : CT) (ms : ST) (P : Program) (C : Yc) (L0 : Value → Value → Value → Value → Value → AHeap → K → Res) (v0 v1 v32 v33 v34 : Value) (H : AHeap) (k : K) : Res :=
Yb (Yf P .lss T.int (.tmp 34) (.tmp 33) v34 v33) H fun t35 h17 =>
mc t35 (fun k8 => k8 .normal [(0, v0), (1, v1), (32, v32), (33, v33), (34, v34)] h17) (fun k8 =>
k8 (.exit 1) [(35, t35), (0, v0), (1, v1), (32, v32), (33, v33), (34, v34)] h17) (Ys (fun tT h18 =>
ms (fun k9 =>
Yb (ixS 7 (get tT 32) (get tT 34)) h18 fun t36 h19 =>
Yb (ldN 7 h19 t36) h19 fun t37 h20 =>
Yp (XT T.api_Job (.agg #[(.int .i64 0), (.int .i64 0), (.string (mk [])), (.int .i64 0), (.int .i64 0), (.int .i64 0), (.int .i64 0)]) h20) fun t6 h21 =>
Yr (stN 7 h21 t6 t37) fun _ h22 =>
Yb (fad 6 t6) h22 fun t38 h23 =>
Yb (ld1 h23 t38) h23 fun t39 h24 =>
Yb (Yf P .gtr T.int (.tmp 39) (.tmp 40) t39 (get tT 1)) h24 fun t41 h25 =>
mc t41 (fun k10 => k10 (.exit 1) ((41, t41) :: (40, (get tT 1)) :: (39, t39) :: (38, t38) :: (6, t6) :: (37, t37) :: (36, t36) :: tT) h25) (fun k10 =>
k10 .normal [(0, (get tT 0)), (1, (get tT 1)), (6, t6), (32, (get tT 32)), (33, (get tT 33)), (34, (get tT 34))] h25) (Ys (fun tT_1 h26 =>
Yb (ldN 7 h26 (get tT_1 6)) h26 fun t43 h27 =>
Yh C F.jobs_Queue_back [(get tT_1 0), t43] h27 fun t44 h28 =>
Yb (Yf P .neq T.api_Errno (.tmp 45) (.const (.int .i64 0)) t44 (.int .i64 0)) h28 fun t46 h29 =>
mc t46 (fun k11 => k11 .ret [(4, t44)] h29) (fun k11 =>
k11 .normal [(0, (get tT_1 0)), (1, (get tT_1 1)), (32, (get tT_1 32)), (33, (get tT_1 33)), (34, (get tT_1 34))] h29) (YI [0, 1, 32, 33, 34] 2 k9)) (YI [0, 1, 32, 33, 34] 2 k9))) (Ys (fun tT_2 h30 =>
Yb (Yf P .add T.int (.tmp 34) (.const (.int .i64 1)) (get tT_2 34) (.int .i64 1)) h30 fun t48 h31 =>
k .normal [(0, (get tT_2 0)), (1, (get tT_2 1)), (32, (get tT_2 32)), (33, (get tT_2 33)), (34, t48)] h31) (Yl [0, 1, 32, 33, 34] k))) (Yl [0, 1, 32, 33, 34] k))
theorem s_jobs_Queue_Pass_eq (M : CombL) (C : Yc) (LP : Yv) (a0 a1 : Value) (H : AHeap) : Yy M Tryd.prog hints C LP F.jobs_Queue_Pass [a0, a1] H = Xr M.b.g M.c M.s Tryd.prog C (fun v0 v1 v32 v33 v34 H k => YH M Tryd.prog hints C LP F.jobs_Queue_Pass 0 [(0, v0), (1, v1), (32, v32), (33, v33), (34, v34)] H k) a0 a1 H (Yi Tryd.prog [.tmp 4]) := by kernel_rfl
theorem ZJ (M : CombL) (C : Yc) (LP : Yv) (v0 v1 v32 v33 v34 : Value) (H : AHeap) (k : K) : Uz M Tryd.prog hints C LP F.jobs_Queue_Pass 0 [(0, v0), (1, v1), (32, v32), (33, v33), (34, v34)] H (Yl [0, 1, 32, 33, 34] k) = Wd M.b.g M.c M.s Tryd.prog C (fun v0 v1 v32 v33 v34 H k => YH M Tryd.prog hints C LP F.jobs_Queue_Pass 0 [(0, v0), (1, v1), (32, v32), (33, v33), (34, v34)] H k) v0 v1 v32 v33 v34 H k := by kernel_rfl
noncomputable def Qq (mg : GT) (mc : CT) (ms : ST) (P : Program) (C : Yc) (a0 a1 a2 a3 a4 a5 : Value) (H : AHeap) (K0 : K) : Res :=
Yp (XT T.api_Job (.agg #[(.int .i64 0), (.int .i64 0), (.string (mk [])), (.int .i64 0), (.int .i64 0), (.int .i64 0), (.int .i64 0)]) H) fun t12 h1 =>
Yb (Ui #[(.int .i64 0), (.int .i64 0), (.string (mk [])), (.int .i64 0), (.int .i64 0), (.int .i64 0), (.int .i64 0)] [(0, 1), (1, 1), (2, 1), (3, 1), (4, 1), (5, 1), (6, 1)] [(0, a0), (1, a1), (2, a2), (3, (.int .i64 2)), (4, a3), (5, a4), (6, a5)]) h1 fun t19 h2 =>
Yr (stN 7 h2 t12 t19) fun _ h3 =>
K0 .ret [(12, t12)] h3
theorem s_law_taken_eq (M : CombL) (C : Yc) (LP : Yv) (a0 a1 a2 a3 a4 a5 : Value) (H : AHeap) : Yy M Tryd.prog hints C LP F.law_taken [a0, a1, a2, a3, a4, a5] H = Qq M.b.g M.c M.s Tryd.prog C a0 a1 a2 a3 a4 a5 H (Yi Tryd.prog [.cell 12 T.api_Job]) := by kernel_rfl
noncomputable def Y0 (mg : GT) (mc : CT) (ms : ST) (P : Program) (C : Yc) (a0 a1 a2 : Value) (H : AHeap) (K0 : K) : Res :=
Yp (XT T.api_Job (.agg #[(.int .i64 0), (.int .i64 0), (.string (mk [])), (.int .i64 0), (.int .i64 0), (.int .i64 0), (.int .i64 0)]) H) fun t6 h1 =>
ms (fun k1 =>
Yh C F.jobs_Queue_none [a0] h1 fun t12 h2 =>
mc t12 (fun k2 => Yb (Ui #[(.int .i64 0), (.int .i64 0), (.string (mk [])), (.int .i64 0), (.int .i64 0), (.int .i64 0), (.int .i64 0)] [(0, 1), (1, 1), (2, 1), (3, 1), (4, 1), (5, 1), (6, 1)] []) h2 fun t13 h3 =>
Yr (stN 7 h3 t6 t13) fun _ h4 =>
k2 .ret [(6, t6), (7, (.int .i64 1))] h4) (fun k2 =>
Yb (Yf P .lss T.int (.tmp 15) (.const (.int .i64 1)) a1 (.int .i64 1)) h2 fun t16 h5 =>
mg t16 false (fun o3 => o3 a1 h5) h5 fun t18 h6 =>
mg t16 false (fun o4 => Yb (Yf P .gtr T.int (.tmp 18) (.const (.int .i64 1000)) t18 (.int .i64 1000)) h6 o4) h6 fun t19 h7 =>
YQ t16 (.bool true) t19 fun t20 =>
mc t20 (fun k5 => Yb (Ui #[(.int .i64 0), (.int .i64 0), (.string (mk [])), (.int .i64 0), (.int .i64 0), (.int .i64 0), (.int .i64 0)] [(0, 1), (1, 1), (2, 1), (3, 1), (4, 1), (5, 1), (6, 1)] []) h7 fun t21 h8 =>
Yr (stN 7 h8 t6 t21) fun _ h9 =>
k5 .ret [(6, t6), (7, (.int .i64 2))] h9) (fun k5 =>
k5 .normal [(0, a0), (1, a1), (2, a2), (6, t6)] h7) (Yl [0, 1, 2, 6] k2)) (YI [0, 1, 2, 6] 0 k1)) (Ys (fun tT h10 =>
Yh C F.jobs_Queue_Get [(get tT 0), (get tT 2)] h10 fun t25 h11 =>
Yb (Yn t25 0) h11 fun t26 h12 =>
Yb (Yn t25 1) h12 fun t27 h13 =>
Yp (XT T.api_Job (.agg #[(.int .i64 0), (.int .i64 0), (.string (mk [])), (.int .i64 0), (.int .i64 0), (.int .i64 0), (.int .i64 0)]) h13) fun t8 h14 =>
Yr (stN 7 h14 t8 t26) fun _ h15 =>
Yb (Yf P .neq T.api_Errno (.tmp 28) (.const (.int .i64 0)) t27 (.int .i64 0)) h15 fun t29 h16 =>
mc t29 (fun k6 => Yb (Ui #[(.int .i64 0), (.int .i64 0), (.string (mk [])), (.int .i64 0), (.int .i64 0), (.int .i64 0), (.int .i64 0)] [(0, 1), (1, 1), (2, 1), (3, 1), (4, 1), (5, 1), (6, 1)] []) h16 fun t30 h17 =>
Yr (stN 7 h17 (get tT 6) t30) fun _ h18 =>
k6 .ret [(6, (get tT 6)), (7, t27)] h18) (fun k6 =>
k6 .normal [(1, (get tT 1)), (6, (get tT 6)), (8, t8)] h16) (Ys (fun tT_1 h19 =>
Yb (fad 3 (get tT_1 8)) h19 fun t32 h20 =>
Yb (ld1 h20 t32) h20 fun t33 h21 =>
Yb (Yf P .neq T.api_JobState (.tmp 33) (.const (.int .i64 2)) t33 (.int .i64 2)) h21 fun t34 h22 =>
mg t34 false (fun o7 => Yb (fad 5 (get tT_1 8)) h22 o7) h22 fun t36 h23 =>
mg t34 false (fun o8 => Yb (ld1 h23 t36) h23 o8) h23 fun t37 h24 =>
mg t34 false (fun o9 => o9 (get tT_1 1) h24) h24 fun t38 h25 =>
mg t34 false (fun o10 => Yb (Yf P .neq T.int (.tmp 37) (.tmp 38) t37 t38) h25 o10) h25 fun t39 h26 =>
YQ t34 (.bool true) t39 fun t40 =>
mc t40 (fun k11 => Yb (Ui #[(.int .i64 0), (.int .i64 0), (.string (mk [])), (.int .i64 0), (.int .i64 0), (.int .i64 0), (.int .i64 0)] [(0, 1), (1, 1), (2, 1), (3, 1), (4, 1), (5, 1), (6, 1)] []) h26 fun t41 h27 =>
Yr (stN 7 h27 (get tT_1 6) t41) fun _ h28 =>
k11 .ret [(6, (get tT_1 6)), (7, (.int .i64 8))] h28) (fun k11 =>
k11 .normal [(6, (get tT_1 6)), (8, (get tT_1 8))] h26) (Ys (fun tT_2 h29 =>
Yb (ldN 7 h29 (get tT_2 8)) h29 fun t42 h30 =>
Yr (stN 7 h30 (get tT_2 6) t42) fun _ h31 =>
K0 .ret [(6, (get tT_2 6)), (7, (.int .i64 0))] h31) K0)) K0)) K0)
theorem s_jobs_Queue_taken_eq (M : CombL) (C : Yc) (LP : Yv) (a0 a1 a2 : Value) (H : AHeap) : Yy M Tryd.prog hints C LP F.jobs_Queue_taken [a0, a1, a2] H = Y0 M.b.g M.c M.s Tryd.prog C a0 a1 a2 H (Yi Tryd.prog [.cell 6 T.api_Job, .tmp 7]) := by kernel_rfl
noncomputable def Wj (mg : GT) (mc : CT) (ms : ST) (P : Program) (C : Yc) (a0 a1 : Value) (H : AHeap) (K0 : K) : Res :=
Yp (XT T.api_Job a1 H) fun t3 h1 =>
Yb (fad 3 t3) h1 fun t5 h2 =>
Yr (st1 h2 t5 (.int .i64 1)) fun _ h3 =>
Yb (fad 5 t3) h3 fun t6 h4 =>
Yr (st1 h4 t6 (.int .i64 0)) fun _ h5 =>
Yb (fad 6 t3) h5 fun t7 h6 =>
Yr (st1 h6 t7 (.int .i64 0)) fun _ h7 =>
Yb (fad 4 t3) h7 fun t8 h8 =>
Yb (ld1 h8 t8) h8 fun t9 h9 =>
Yb (Yz a0) h9 fun t11 h10 =>
Yb (fad 2 t11) h10 fun t12 h11 =>
Yb (ld1 h11 t12) h11 fun t13 h12 =>
Yb (Yf P .geq T.int (.tmp 9) (.tmp 13) t9 t13) h12 fun t14 h13 =>
Xy true <|
mc t14 (fun k1 => Yb (fad 3 t3) h13 fun t15 h14 =>
Yr (st1 h14 t15 (.int .i64 3)) fun _ h15 =>
k1 .normal [(0, a0), (3, t3)] h15) (fun k1 =>
k1 .normal [(0, a0), (3, t3)] h13) (Ys (fun tT h16 =>
Yb (ldN 7 h16 (get tT 3)) h16 fun t17 h17 =>
Yh C F.jobs_Queue_set [(get tT 0), t17] h17 fun t18 h18 =>
K0 .ret [(4, t18)] h18) K0)
theorem s_jobs_Queue_back_eq (M : CombL) (C : Yc) (LP : Yv) (a0 a1 : Value) (H : AHeap) : Yy M Tryd.prog hints C LP F.jobs_Queue_back [a0, a1] H = Wj M.b.g M.c M.s Tryd.prog C a0 a1 H (Yi Tryd.prog [.tmp 4]) := by kernel_rfl
noncomputable def WA (mg : GT) (mc : CT) (ms : ST) (P : Program) (C : Yc) (a0 a1 : Value) (H : AHeap) (K0 : K) : Res :=
Yp (XT T.api_Job (.agg #[(.int .i64 0), (.int .i64 0), (.string (mk [])), (.int .i64 0), (.int .i64 0), (.int .i64 0), (.int .i64 0)]) H) fun t4 h1 =>
Yh C F.jobs_Queue_none [a0] h1 fun t12 h2 =>
mc t12 (fun k1 => Yb (Ui #[(.int .i64 0), (.int .i64 0), (.string (mk [])), (.int .i64 0), (.int .i64 0), (.int .i64 0), (.int .i64 0)] [(0, 1), (1, 1), (2, 1), (3, 1), (4, 1), (5, 1), (6, 1)] []) h2 fun t13 h3 =>
Yr (stN 7 h3 t4 t13) fun _ h4 =>
k1 .ret [(4, t4), (5, (.int .i64 1))] h4) (fun k1 =>
k1 .normal [(0, a0), (1, a1), (4, t4)] h2) (Ys (fun tT h5 =>
Yb (Yz (get tT 0)) h5 fun t16 h6 =>
Yb (fad 1 t16) h6 fun t17 h7 =>
Yb (ld1 h7 t17) h7 fun t18 h8 =>
Yb (Xb P T.map_int_string t18 (get tT 1) true h8) h8 fun t20 h9 =>
Yb (Yn t20 0) h9 fun t21 h10 =>
Yb (Yn t20 1) h10 fun t22 h11 =>
Yb (xun P .not t22) h11 fun t24 h12 =>
mc t24 (fun k2 => Yb (Ui #[(.int .i64 0), (.int .i64 0), (.string (mk [])), (.int .i64 0), (.int .i64 0), (.int .i64 0), (.int .i64 0)] [(0, 1), (1, 1), (2, 1), (3, 1), (4, 1), (5, 1), (6, 1)] []) h12 fun t25 h13 =>
Yr (stN 7 h13 (get tT 4) t25) fun _ h14 =>
k2 .ret [(4, (get tT 4)), (5, (.int .i64 9))] h14) (fun k2 =>
k2 .normal [(0, (get tT 0)), (4, (get tT 4)), (6, t21)] h12) (Ys (fun tT_1 h15 =>
Yb (Yz (get tT_1 0)) h15 fun t28 h16 =>
Yb (fad 0 t28) h16 fun t29 h17 =>
Yb (ld1 h17 t29) h17 fun t30 h18 =>
Yh C F.model_Model_Get [t30, (get tT_1 6)] h18 fun t32 h19 =>
Yb (Yn t32 0) h19 fun t33 h20 =>
Yb (Yn t32 1) h20 fun t34 h21 =>
Yb (Yf P .neq T.api_Errno (.tmp 35) (.const (.int .i64 0)) t34 (.int .i64 0)) h21 fun t36 h22 =>
mc t36 (fun k3 => Yb (Ui #[(.int .i64 0), (.int .i64 0), (.string (mk [])), (.int .i64 0), (.int .i64 0), (.int .i64 0), (.int .i64 0)] [(0, 1), (1, 1), (2, 1), (3, 1), (4, 1), (5, 1), (6, 1)] []) h22 fun t37 h23 =>
Yr (stN 7 h23 (get tT_1 4) t37) fun _ h24 =>
k3 .ret [(4, (get tT_1 4)), (5, t34)] h24) (fun k3 =>
k3 .normal [(4, (get tT_1 4)), (6, (get tT_1 6)), (8, t33)] h22) (Ys (fun tT_2 h25 =>
Yh C F.jobs_table [] h25 fun t40 h26 =>
Yh C F.rows_Read [t40, (get tT_2 6), (get tT_2 8)] h26 fun t43 h27 =>
Yb (Yn t43 0) h27 fun t44 h28 =>
Yb (Yn t43 1) h28 fun t45 h29 =>
Yb (Yf P .neq T.api_Errno (.tmp 46) (.const (.int .i64 0)) t45 (.int .i64 0)) h29 fun t47 h30 =>
mc t47 (fun k4 => Yb (Ui #[(.int .i64 0), (.int .i64 0), (.string (mk [])), (.int .i64 0), (.int .i64 0), (.int .i64 0), (.int .i64 0)] [(0, 1), (1, 1), (2, 1), (3, 1), (4, 1), (5, 1), (6, 1)] []) h30 fun t48 h31 =>
Yr (stN 7 h31 (get tT_2 4) t48) fun _ h32 =>
k4 .ret [(4, (get tT_2 4)), (5, t45)] h32) (fun k4 =>
k4 .normal [(4, (get tT_2 4)), (10, t44)] h30) (Ys (fun tT_3 h33 =>
Yh C F.jobs_job [(get tT_3 10)] h33 fun t51 h34 =>
Yr (stN 7 h34 (get tT_3 4) t51) fun _ h35 =>
K0 .ret [(4, (get tT_3 4)), (5, (.int .i64 0))] h35) K0)) K0)) K0)) K0)
theorem s_jobs_Queue_Get_eq (M : CombL) (C : Yc) (LP : Yv) (a0 a1 : Value) (H : AHeap) : Yy M Tryd.prog hints C LP F.jobs_Queue_Get [a0, a1] H = WA M.b.g M.c M.s Tryd.prog C a0 a1 H (Yi Tryd.prog [.cell 4 T.api_Job, .tmp 5]) := by kernel_rfl
noncomputable def XM (mg : GT) (mc : CT) (ms : ST) (P : Program) (C : Yc) (a0 : Value) (H : AHeap) (K0 : K) : Res :=
Yb (Yf P .eql T.p_jobs_Queue (.tmp 3) (.const (.pointer none)) a0 (.pointer none)) H fun t4 h1 =>
mg t4 false (fun o1 => o1 a0 h1) h1 fun t6 h2 =>
mg t4 false (fun o2 => Yb (Yz t6) h2 o2) h2 fun t7 h3 =>
mg t4 false (fun o3 => Yb (fad 0 t7) h3 o3) h3 fun t8 h4 =>
mg t4 false (fun o4 => Yb (ld1 h4 t8) h4 o4) h4 fun t9 h5 =>
mg t4 false (fun o5 => Yb (Yf P .eql T.p_model_Model (.tmp 9) (.const (.pointer none)) t9 (.pointer none)) h5 o5) h5 fun t10 h6 =>
YQ t4 (.bool true) t10 fun t11 =>
K0 .ret [(2, t11)] h6
theorem s_jobs_Queue_none_eq (M : CombL) (C : Yc) (LP : Yv) (a0 : Value) (H : AHeap) : Yy M Tryd.prog hints C LP F.jobs_Queue_none [a0] H = XM M.b.g M.c M.s Tryd.prog C a0 H (Yi Tryd.prog [.tmp 2]) := by kernel_rfl
noncomputable def Vt (mg : GT) (mc : CT) (ms : ST) (P : Program) (C : Yc) (L0 : Value → Value → Value → Value → Value → Value → AHeap → K → Res) (a0 a1 : Value) (H : AHeap) (K0 : K) : Res :=
Yh C F.jobs_table [] H fun t14 h1 =>
Yh C F.rows_Span [t14, a1] h1 fun t16 h2 =>
Yb (Yn t16 0) h2 fun t17 h3 =>
Yb (Yn t16 1) h3 fun t18 h4 =>
Yb (Yn t16 2) h4 fun t19 h5 =>
Yb (Yz a0) h5 fun t21 h6 =>
Yb (fad 0 t21) h6 fun t22 h7 =>
Yb (ld1 h7 t22) h7 fun t23 h8 =>
Yh C F.model_Model_Pairs [t23] h8 fun t24 h9 =>
Yb (lenS t24) h9 fun t25 h10 =>
ms (fun k1 =>
L0 t17 t18 (.slice none 0 0) t24 t25 (.int .i64 0) h10 (YI [8] 0 k1)) (Ys (fun tT h11 =>
K0 .ret [(4, (get tT 8))] h11) K0)
noncomputable def XB (mg : GT) (mc : CT) (ms : ST) (P : Program) (C : Yc) (L0 : Value → Value → Value → Value → Value → Value → AHeap → K → Res) (v5 v6 v8 v24 v25 v26 : Value) (H : AHeap) (k : K) : Res :=
Yb (Yf P .lss T.int (.tmp 26) (.tmp 25) v26 v25) H fun t27 h11 =>
mc t27 (fun k2 => k2 .normal [(5, v5), (6, v6), (8, v8), (24, v24), (25, v25), (26, v26)] h11) (fun k2 =>
k2 (.exit 0) [(27, t27), (5, v5), (6, v6), (8, v8), (24, v24), (25, v25), (26, v26)] h11) (Ys (fun tT h12 =>
ms (fun k3 =>
Yb (ixS 2 (get tT 24) (get tT 26)) h12 fun t28 h13 =>
Yb (ldN 2 h13 t28) h13 fun t29 h14 =>
Yp (XT T.api_Pair (.agg #[(.string (mk [])), (.string (mk []))]) h14) fun t10 h15 =>
Yr (stN 2 h15 t10 t29) fun _ h16 =>
Yb (fad 0 t10) h16 fun t30 h17 =>
Yb (ld1 h17 t30) h17 fun t31 h18 =>
Yb (Yf P .lss T.string (.tmp 31) (.tmp 32) t31 (get tT 5)) h18 fun t33 h19 =>
mg t33 false (fun o4 => o4 (get tT 6) h19) h19 fun t35 h20 =>
mg t33 false (fun o5 => Yb (Yf P .neq T.string (.tmp 35) (.const (.string (mk []))) t35 (.string (mk []))) h20 o5) h20 fun t36 h21 =>
mg t33 false (fun o6 => o6 t36 h21) h21 fun t37 h22 =>
mg t37 true (fun o7 => Yb (fad 0 t10) h22 o7) h22 fun t38 h23 =>
mg t37 true (fun o8 => Yb (ld1 h23 t38) h23 o8) h23 fun t39 h24 =>
mg t37 true (fun o9 => o9 (get tT 6) h24) h24 fun t40 h25 =>
mg t37 true (fun o10 => Yb (Yf P .geq T.string (.tmp 39) (.tmp 40) t39 t40) h25 o10) h25 fun t41 h26 =>
mg t33 false (fun o11 => YQ t37 t41 (.bool false) fun v => o11 v h26) h26 fun t42 h27 =>
YQ t33 (.bool true) t42 fun t43 =>
mc t43 (fun k12 => k12 (.exit 1) ((43, t43) :: (42, t42) :: (41, t41) :: (40, t40) :: (39, t39) :: (38, t38) :: (37, t37) :: (36, t36) :: (35, t35) :: (34, t33) :: (33, t33) :: (32, (get tT 5)) :: (31, t31) :: (30, t30) :: (10, t10) :: (29, t29) :: (28, t28) :: tT) h27) (fun k12 =>
k12 .normal [(5, (get tT 5)), (6, (get tT 6)), (8, (get tT 8)), (10, t10), (24, (get tT 24)), (25, (get tT 25)), (26, (get tT 26))] h27) (Ys (fun tT_1 h28 =>
Yh C F.jobs_table [] h28 fun t45 h29 =>
Yb (fad 0 (get tT_1 10)) h29 fun t46 h30 =>
Yb (ld1 h30 t46) h30 fun t47 h31 =>
Yb (fad 1 (get tT_1 10)) h31 fun t48 h32 =>
Yb (ld1 h32 t48) h32 fun t49 h33 =>
Yh C F.rows_Read [t45, t47, t49] h33 fun t50 h34 =>
Yb (Yn t50 0) h34 fun t51 h35 =>
Yb (Yn t50 1) h35 fun t52 h36 =>
Xy (okV (some true) none h28 h29 h29 h30 && (okV (some true) (Yk t46) h28 h29 h30 h31 && (okV (some true) none h28 h29 h31 h32 && (okV (some true) (Yk t48) h28 h29 h32 h33 && true)))) <|
Yb (Yf P .eql T.api_Errno (.tmp 53) (.const (.int .i64 0)) t52 (.int .i64 0)) h36 fun t54 h37 =>
mc t54 (fun k13 => Yh C F.jobs_job [t51] h37 fun t57 h38 =>
Yp (UC T.api_Job [(.int .i64 0), (.int .i64 0), (.string (mk [])), (.int .i64 0), (.int .i64 0), (.int .i64 0), (.int .i64 0)] 1 [(0, t57)] h38) fun t58 h39 =>
Yp (app T.api_Job 7 64 (get tT_1 8) (Vn 7 t58 h39) h39) fun t59 h40 =>
k13 .normal [(5, (get tT_1 5)), (6, (get tT_1 6)), (8, t59), (24, (get tT_1 24)), (25, (get tT_1 25)), (26, (get tT_1 26))] h40) (fun k13 =>
k13 .normal [(5, (get tT_1 5)), (6, (get tT_1 6)), (8, (get tT_1 8)), (24, (get tT_1 24)), (25, (get tT_1 25)), (26, (get tT_1 26))] h37) (YI [5, 6, 8, 24, 25, 26] 1 k3)) (YI [5, 6, 8, 24, 25, 26] 1 k3))) (Ys (fun tT_2 h41 =>
Yb (Yf P .add T.int (.tmp 26) (.const (.int .i64 1)) (get tT_2 26) (.int .i64 1)) h41 fun t60 h42 =>
k .normal [(5, (get tT_2 5)), (6, (get tT_2 6)), (8, (get tT_2 8)), (24, (get tT_2 24)), (25, (get tT_2 25)), (26, t60)] h42) (Yl [5, 6, 8, 24, 25, 26] k))) (Yl [5, 6, 8, 24, 25, 26] k))
theorem s_jobs_Queue_in_eq (M : CombL) (C : Yc) (LP : Yv) (a0 a1 : Value) (H : AHeap) : Yy M Tryd.prog hints C LP F.jobs_Queue_in [a0, a1] H = Vt M.b.g M.c M.s Tryd.prog C (fun v5 v6 v8 v24 v25 v26 H k => YH M Tryd.prog hints C LP F.jobs_Queue_in 0 [(5, v5), (6, v6), (8, v8), (24, v24), (25, v25), (26, v26)] H k) a0 a1 H (Yi Tryd.prog [.tmp 4]) := by kernel_rfl
theorem s_jobs_Queue_in_b0_eq (M : CombL) (C : Yc) (LP : Yv) (v5 v6 v8 v24 v25 v26 : Value) (H : AHeap) (k : K) : Uz M Tryd.prog hints C LP F.jobs_Queue_in 0 [(5, v5), (6, v6), (8, v8), (24, v24), (25, v25), (26, v26)] H (Yl [5, 6, 8, 24, 25, 26] k) = XB M.b.g M.c M.s Tryd.prog C (fun v5 v6 v8 v24 v25 v26 H k => YH M Tryd.prog hints C LP F.jobs_Queue_in 0 [(5, v5), (6, v6), (8, v8), (24, v24), (25, v25), (26, v26)] H k) v5 v6 v8 v24 v25 v26 H k := by kernel_rfl
noncomputable def XI (mg : GT) (mc : CT) (ms : ST) (P : Program) (C : Yc) (a0 a1 : Value) (H : AHeap) (K0 : K) : Res :=
Yp (XT T.api_Job a1 H) fun t3 h1 =>
Yh C F.jobs_table [] h1 fun t12 h2 =>
Yb (ldN 7 h2 t3) h2 fun t13 h3 =>
Yh C F.jobs_row [t13] h3 fun t14 h4 =>
Yh C F.rows_Row [t12, t14] h4 fun t15 h5 =>
Yb (Yn t15 0) h5 fun t16 h6 =>
Yb (Yn t15 1) h6 fun t17 h7 =>
Yb (Yn t15 2) h7 fun t18 h8 =>
Xy (okV (some true) (Yk t3) h1 h2 h2 h3 && true) <|
Yb (Yf P .neq T.api_Errno (.tmp 19) (.const (.int .i64 0)) t18 (.int .i64 0)) h8 fun t20 h9 =>
mc t20 (fun k1 => k1 .ret [(4, t18)] h9) (fun k1 =>
k1 .normal [(0, a0), (3, t3), (5, t16), (6, t17)] h9) (Ys (fun tT h10 =>
Yb (Yz (get tT 0)) h10 fun t24 h11 =>
Yb (fad 1 t24) h11 fun t25 h12 =>
Yb (ld1 h12 t25) h12 fun t26 h13 =>
Yb (fad 0 (get tT 3)) h13 fun t27 h14 =>
Yb (ld1 h14 t27) h14 fun t28 h15 =>
Yb (Xb P T.map_int_string t26 t28 true h15) h15 fun t29 h16 =>
Yb (Yn t29 0) h16 fun t30 h17 =>
Yb (Yn t29 1) h17 fun t31 h18 =>
Xy true <|
mc t31 (fun k2 => Yb (Yz (get tT 0)) h18 fun t34 h19 =>
Yb (fad 0 t34) h19 fun t35 h20 =>
Yb (ld1 h20 t35) h20 fun t36 h21 =>
Yh C F.model_Model_Delete [t36, t30] h21 fun t38 h22 =>
k2 .normal [(0, (get tT 0)), (3, (get tT 3)), (5, (get tT 5)), (6, (get tT 6))] h22) (fun k2 =>
k2 .normal [(0, (get tT 0)), (3, (get tT 3)), (5, (get tT 5)), (6, (get tT 6))] h18) (Ys (fun tT_1 h23 =>
Yb (Yz (get tT_1 0)) h23 fun t40 h24 =>
Yb (fad 0 t40) h24 fun t41 h25 =>
Yb (ld1 h25 t41) h25 fun t42 h26 =>
Yh C F.model_Model_Put [t42, (get tT_1 5), (get tT_1 6)] h26 fun t45 h27 =>
Yb (Yf P .neq T.api_Errno (.tmp 46) (.const (.int .i64 0)) t45 (.int .i64 0)) h27 fun t47 h28 =>
mc t47 (fun k3 => k3 .ret [(4, t45)] h28) (fun k3 =>
k3 .normal [(0, (get tT_1 0)), (3, (get tT_1 3)), (5, (get tT_1 5))] h28) (Ys (fun tT_2 h29 =>
Yb (Yz (get tT_2 0)) h29 fun t50 h30 =>
Yb (fad 1 t50) h30 fun t51 h31 =>
Yb (ld1 h31 t51) h31 fun t52 h32 =>
Yb (fad 0 (get tT_2 3)) h32 fun t53 h33 =>
Yb (ld1 h33 t53) h33 fun t54 h34 =>
Yr (Y8 P T.map_int_string t52 t54 (get tT_2 5) h34) fun _ h35 =>
Xy true <|
K0 .ret [(4, (.int .i64 0))] h35) K0)) K0)) K0)
theorem s_jobs_Queue_set_eq (M : CombL) (C : Yc) (LP : Yv) (a0 a1 : Value) (H : AHeap) : Yy M Tryd.prog hints C LP F.jobs_Queue_set [a0, a1] H = XI M.b.g M.c M.s Tryd.prog C a0 a1 H (Yi Tryd.prog [.tmp 4]) := by kernel_rfl
noncomputable def Ue (mg : GT) (mc : CT) (ms : ST) (P : Program) (C : Yc) (a0 : Value) (H : AHeap) (K0 : K) : Res :=
Yp (XT T.api_Cell (.agg #[(.int .i64 0), (.int .u64 0), (.int .i64 0), (.string (mk [])), (.bool false)]) H) fun t2 h1 =>
Yp (YP P T.int T.uint64 a0 h1) fun t4 h2 =>
Yb (Ui #[(.int .i64 0), (.int .u64 0), (.int .i64 0), (.string (mk [])), (.bool false)] [(0, 1), (1, 1), (2, 1), (3, 1), (4, 1)] [(0, (.int .i64 1)), (1, t4)]) h2 fun t5 h3 =>
Yr (stN 5 h3 t2 t5) fun _ h4 =>
K0 .ret [(2, t2)] h4
theorem s_jobs_number_eq (M : CombL) (C : Yc) (LP : Yv) (a0 : Value) (H : AHeap) : Yy M Tryd.prog hints C LP F.jobs_number [a0] H = Ue M.b.g M.c M.s Tryd.prog C a0 H (Yi Tryd.prog [.cell 2 T.api_Cell]) := by kernel_rfl
noncomputable def Xd (mg : GT) (mc : CT) (ms : ST) (P : Program) (C : Yc) (a0 a1 : Value) (H : AHeap) (K0 : K) : Res :=
Yh C F.model_Model_Get [a0, a1] H fun t13 h1 =>
Yb (Yn t13 0) h1 fun t14 h2 =>
Yb (Yn t13 1) h2 fun t15 h3 =>
Yb (Yf P .neq T.api_Errno (.tmp 16) (.const (.int .i64 0)) t15 (.int .i64 0)) h3 fun t17 h4 =>
mc t17 (fun k1 => k1 .ret [(4, (.string (mk []))), (5, t15)] h4) (fun k1 =>
k1 .normal [(0, a0), (1, a1), (6, t14)] h4) (Ys (fun tT h5 =>
Yh C F.model_Model_place [(get tT 0), (get tT 1)] h5 fun t22 h6 =>
Yb (Yn t22 0) h6 fun t23 h7 =>
Yb (Yn t22 1) h7 fun t24 h8 =>
Yb (Yz (get tT 0)) h8 fun t27 h9 =>
Yb (fad 0 t27) h9 fun t28 h10 =>
Yb (ld1 h10 t28) h10 fun t29 h11 =>
Yb (Yf P .add T.int (.tmp 31) (.const (.int .i64 1)) t23 (.int .i64 1)) h11 fun t32 h12 =>
Yh C F.slices_Delete_Pair [t29, t23, t32] h12 fun t33 h13 =>
Yb (Yz (get tT 0)) h13 fun t34 h14 =>
Yb (fad 0 t34) h14 fun t35 h15 =>
Yr (st1 h15 t35 t33) fun _ h16 =>
K0 .ret [(4, (get tT 6)), (5, (.int .i64 0))] h16) K0)
theorem ZQ (M : CombL) (C : Yc) (LP : Yv) (a0 a1 : Value) (H : AHeap) : Yy M Tryd.prog hints C LP F.model_Model_Delete [a0, a1] H = Xd M.b.g M.c M.s Tryd.prog C a0 a1 H (Yi Tryd.prog [.tmp 4, .tmp 5]) := by kernel_rfl
noncomputable def XP (mg : GT) (mc : CT) (ms : ST) (P : Program) (C : Yc) (a0 a1 : Value) (H : AHeap) (K0 : K) : Res :=
Yh C F.model_Model_at [a0, a1, (.slice none 0 0)] H fun t12 h1 =>
Yb (Yn t12 0) h1 fun t13 h2 =>
Yb (Yn t12 1) h2 fun t14 h3 =>
Yb (Yn t12 2) h3 fun t15 h4 =>
ms (fun k1 =>
Yb (Yf P .neq T.api_Errno (.tmp 17) (.const (.int .i64 0)) t15 (.int .i64 0)) h4 fun t18 h5 =>
mc t18 (fun k2 => k2 .ret [(4, (.string (mk []))), (5, t15)] h5) (fun k2 =>
Yb (xun P .not t14) h5 fun t22 h6 =>
mc t22 (fun k3 => k3 .ret [(4, (.string (mk []))), (5, (.int .i64 9))] h6) (fun k3 =>
k3 .normal [(0, a0), (6, t13)] h6) (Yl [0, 6] k2)) (YI [0, 6] 0 k1)) (Ys (fun tT h7 =>
Yb (Yz (get tT 0)) h7 fun t24 h8 =>
Yb (fad 0 t24) h8 fun t25 h9 =>
Yb (ld1 h9 t25) h9 fun t26 h10 =>
Yb (ixS 2 t26 (get tT 6)) h10 fun t28 h11 =>
Yb (fad 1 t28) h11 fun t29 h12 =>
Yb (ld1 h12 t29) h12 fun t30 h13 =>
K0 .ret [(4, t30), (5, (.int .i64 0))] h13) K0)
theorem s_model_Model_Get_eq (M : CombL) (C : Yc) (LP : Yv) (a0 a1 : Value) (H : AHeap) : Yy M Tryd.prog hints C LP F.model_Model_Get [a0, a1] H = XP M.b.g M.c M.s Tryd.prog C a0 a1 H (Yi Tryd.prog [.tmp 4, .tmp 5]) := by kernel_rfl
noncomputable def XV (mg : GT) (mc : CT) (ms : ST) (P : Program) (C : Yc) (L0 : Value → Value → Value → Value → Value → Value → Value → AHeap → K → Res) (L1 : Value → Value → Value → Value → Value → Value → Value → Value → Value → Value → Value → AHeap → K → Res) (a0 a1 a2 : Value) (H : AHeap) (K0 : K) : Res :=
Yp (XT T.api_Table a0 H) fun t3 h1 =>
Yb (ldN 3 h1 t3) h1 fun t19 h2 =>
Yh C F.rows_Valid [t19] h2 fun t20 h3 =>
Yb (xun P .not t20) h3 fun t21 h4 =>
mc t21 (fun k1 => k1 .ret [(6, (.slice none 0 0)), (7, (.int .i64 2))] h4) (fun k1 =>
k1 .normal [(1, a1), (2, a2), (3, t3)] h4) (Ys (fun tT h5 =>
Yb (Yf P .eql T.string (.tmp 22) (.const (.string (mk []))) (get tT 1) (.string (mk []))) h5 fun t23 h6 =>
mc t23 (fun k2 => k2 .ret [(6, (.slice none 0 0)), (7, (.int .i64 12))] h6) (fun k2 =>
k2 .normal [(1, (get tT 1)), (2, (get tT 2)), (3, (get tT 3))] h6) (Ys (fun tT_1 h7 =>
Yb (slT (get tT_1 1) (some (.int .i64 1)) none) h7 fun t25 h8 =>
Yp (UC T.string [(.string (mk []))] 2 [(0, t25), (1, (get tT_1 2))] h8) fun t27 h9 =>
Yb (lenS t27) h9 fun t28 h10 =>
ms (fun k3 =>
L0 (get tT_1 1) (get tT_1 2) (get tT_1 3) (.slice none 0 0) t27 t28 (.int .i64 0) h10 (YI [1, 2, 3, 8] 0 k3)) (Ys (fun tT_2 h11 =>
Yb (ldN 3 h11 (get tT_2 3)) h11 fun t64 h12 =>
Yh C F.rows_Row [t64, (get tT_2 8)] h12 fun t66 h13 =>
Yb (Yn t66 0) h13 fun t67 h14 =>
Yb (Yn t66 1) h14 fun t68 h15 =>
Yb (Yn t66 2) h15 fun t69 h16 =>
Yb (Yf P .neq T.api_Errno (.tmp 70) (.const (.int .i64 0)) t69 (.int .i64 0)) h16 fun t71 h17 =>
mg t71 false (fun o4 => o4 t67 h17) h17 fun t73 h18 =>
mg t71 false (fun o5 => o5 (get tT_2 1) h18) h18 fun t74 h19 =>
mg t71 false (fun o6 => Yb (Yf P .neq T.string (.tmp 73) (.tmp 74) t73 t74) h19 o6) h19 fun t75 h20 =>
YQ t71 (.bool true) t75 fun t76 =>
mg t76 false (fun o7 => o7 t68 h20) h20 fun t78 h21 =>
mg t76 false (fun o8 => o8 (get tT_2 2) h21) h21 fun t79 h22 =>
mg t76 false (fun o9 => Yb (Yf P .neq T.string (.tmp 78) (.tmp 79) t78 t79) h22 o9) h22 fun t80 h23 =>
YQ t76 (.bool true) t80 fun t81 =>
mc t81 (fun k10 => k10 .ret [(6, (.slice none 0 0)), (7, (.int .i64 12))] h23) (fun k10 =>
k10 .normal [(8, (get tT_2 8))] h23) (Ys (fun tT_3 h24 =>
K0 .ret [(6, (get tT_3 8)), (7, (.int .i64 0))] h24) K0)) K0)) K0)) K0)
noncomputable def We (mg : GT) (mc : CT) (ms : ST) (P : Program) (C : Yc) (L0 : Value → Value → Value → Value → Value → Value → Value → AHeap → K → Res) (L1 : Value → Value → Value → Value → Value → Value → Value → Value → Value → Value → Value → AHeap → K → Res) (v1 v2 v3 v8 v27 v28 v29 : Value) (H : AHeap) (k : K) : Res :=
Yb (Yf P .lss T.int (.tmp 29) (.tmp 28) v29 v28) H fun t30 h11 =>
mc t30 (fun k4 => k4 .normal [(1, v1), (2, v2), (3, v3), (8, v8), (27, v27), (28, v28), (29, v29)] h11) (fun k4 =>
k4 (.exit 0) [(30, t30), (1, v1), (2, v2), (3, v3), (8, v8), (27, v27), (28, v28), (29, v29)] h11) (Ys (fun tT h12 =>
ms (fun k5 =>
Yb (ixS 1 (get tT 27) (get tT 29)) h12 fun t32 h13 =>
Yb (ld1 h13 t32) h13 fun t33 h14 =>
Yb (fad 1 (get tT 3)) h14 fun t34 h15 =>
Yb (ld1 h15 t34) h15 fun t35 h16 =>
Yb (fad 2 (get tT 3)) h16 fun t36 h17 =>
Yb (ld1 h17 t36) h17 fun t37 h18 =>
Yp (UC T.sl_api_CellKind [(.slice none 0 0)] 2 [(0, t35), (1, t37)] h18) fun t38 h19 =>
Yb (ixS 1 t38 (get tT 29)) h19 fun t40 h20 =>
Yb (ld1 h20 t40) h20 fun t41 h21 =>
Yb (lenS t41) h21 fun t42 h22 =>
ms (fun k6 =>
L1 (get tT 1) (get tT 2) (get tT 3) (get tT 8) t33 (get tT 27) (get tT 28) (get tT 29) t41 t42 (.int .i64 0) h22 (YI [1, 2, 3, 8, 27, 28, 29] 2 k6)) (YI [1, 2, 3, 8, 27, 28, 29] 1 k5)) (Ys (fun tT_1 h23 =>
Yb (Yf P .add T.int (.tmp 29) (.const (.int .i64 1)) (get tT_1 29) (.int .i64 1)) h23 fun t62 h24 =>
k .normal [(1, (get tT_1 1)), (2, (get tT_1 2)), (3, (get tT_1 3)), (8, (get tT_1 8)), (27, (get tT_1 27)), (28, (get tT_1 28)), (29, t62)] h24) (Yl [1, 2, 3, 8, 27, 28, 29] k))) (Yl [1, 2, 3, 8, 27, 28, 29] k))
noncomputable def W4 (mg : GT) (mc : CT) (ms : ST) (P : Program) (C : Yc) (L0 : Value → Value → Value → Value → Value → Value → Value → AHeap → K → Res) (L1 : Value → Value → Value → Value → Value → Value → Value → Value → Value → Value → Value → AHeap → K → Res) (v1 v2 v3 v8 v10 v27 v28 v29 v41 v42 v43 : Value) (H : AHeap) (k : K) : Res :=
Yb (Yf P .lss T.int (.tmp 43) (.tmp 42) v43 v42) H fun t44 h23 =>
mc t44 (fun k7 => k7 .normal [(1, v1), (2, v2), (3, v3), (8, v8), (10, v10), (27, v27), (28, v28), (29, v29), (41, v41), (42, v42), (43, v43)] h23) (fun k7 =>
k7 (.exit 2) [(44, t44), (1, v1), (2, v2), (3, v3), (8, v8), (10, v10), (27, v27), (28, v28), (29, v29), (41, v41), (42, v42), (43, v43)] h23) (Ys (fun tT h24 =>
ms (fun k8 =>
Yb (ixS 1 (get tT 41) (get tT 43)) h24 fun t45 h25 =>
Yb (ld1 h25 t45) h25 fun t46 h26 =>
Yh C F.rows_take [(get tT 10), t46] h26 fun t50 h27 =>
Yb (Yn t50 0) h27 fun t51 h28 =>
Yb (Yn t50 1) h28 fun t52 h29 =>
Yb (Yn t50 2) h29 fun t53 h30 =>
Yp (XT T.api_Cell (.agg #[(.int .i64 0), (.int .u64 0), (.int .i64 0), (.string (mk [])), (.bool false)]) h30) fun t13 h31 =>
Yr (stN 5 h31 t13 t51) fun _ h32 =>
Yb (xun P .not t53) h32 fun t55 h33 =>
mc t55 (fun k9 => k9 .ret [(6, (.slice none 0 0)), (7, (.int .i64 12))] h33) (fun k9 =>
k9 .normal [(1, (get tT 1)), (2, (get tT 2)), (3, (get tT 3)), (8, (get tT 8)), (13, t13), (14, t52), (27, (get tT 27)), (28, (get tT 28)), (29, (get tT 29)), (41, (get tT 41)), (42, (get tT 42)), (43, (get tT 43))] h33) (Ys (fun tT_1 h34 =>
Yb (ldN 5 h34 (get tT_1 13)) h34 fun t57 h35 =>
Yp (UC T.api_Cell [(.int .i64 0), (.int .u64 0), (.int .i64 0), (.string (mk [])), (.bool false)] 1 [(0, t57)] h35) fun t58 h36 =>
Yp (app T.api_Cell 5 48 (get tT_1 8) (Vn 5 t58 h36) h36) fun t59 h37 =>
k8 .normal [(1, (get tT_1 1)), (2, (get tT_1 2)), (3, (get tT_1 3)), (8, t59), (10, (get tT_1 14)), (27, (get tT_1 27)), (28, (get tT_1 28)), (29, (get tT_1 29)), (41, (get tT_1 41)), (42, (get tT_1 42)), (43, (get tT_1 43))] h37) (YI [1, 2, 3, 8, 10, 27, 28, 29, 41, 42, 43] 3 k8))) (Ys (fun tT_2 h38 =>
Yb (Yf P .add T.int (.tmp 43) (.const (.int .i64 1)) (get tT_2 43) (.int .i64 1)) h38 fun t61 h39 =>
k .normal [(1, (get tT_2 1)), (2, (get tT_2 2)), (3, (get tT_2 3)), (8, (get tT_2 8)), (10, (get tT_2 10)), (27, (get tT_2 27)), (28, (get tT_2 28)), (29, (get tT_2 29)), (41, (get tT_2 41)), (42, (get tT_2 42)), (43, t61)] h39) (Yl [1, 2, 3, 8, 10, 27, 28, 29, 41, 42, 43] k))) (Yl [1, 2, 3, 8, 10, 27, 28, 29, 41, 42, 43] k))
theorem s_rows_Read_eq (M : CombL) (C : Yc) (LP : Yv) (a0 a1 a2 : Value) (H : AHeap) : Yy M Tryd.prog hints C LP F.rows_Read [a0, a1, a2] H = XV M.b.g M.c M.s Tryd.prog C (fun v1 v2 v3 v8 v27 v28 v29 H k => YH M Tryd.prog hints C LP F.rows_Read 0 [(1, v1), (2, v2), (3, v3), (8, v8), (27, v27), (28, v28), (29, v29)] H k) (fun v1 v2 v3 v8 v10 v27 v28 v29 v41 v42 v43 H k => YH M Tryd.prog hints C LP F.rows_Read 1 [(1, v1), (2, v2), (3, v3), (8, v8), (10, v10), (27, v27), (28, v28), (29, v29), (41, v41), (42, v42), (43, v43)] H k) a0 a1 a2 H (Yi Tryd.prog [.tmp 6, .tmp 7]) := by kernel_rfl
theorem s_rows_Read_b0_eq (M : CombL) (C : Yc) (LP : Yv) (v1 v2 v3 v8 v27 v28 v29 : Value) (H : AHeap) (k : K) : Uz M Tryd.prog hints C LP F.rows_Read 0 [(1, v1), (2, v2), (3, v3), (8, v8), (27, v27), (28, v28), (29, v29)] H (Yl [1, 2, 3, 8, 27, 28, 29] k) = We M.b.g M.c M.s Tryd.prog C (fun v1 v2 v3 v8 v27 v28 v29 H k => YH M Tryd.prog hints C LP F.rows_Read 0 [(1, v1), (2, v2), (3, v3), (8, v8), (27, v27), (28, v28), (29, v29)] H k) (fun v1 v2 v3 v8 v10 v27 v28 v29 v41 v42 v43 H k => YH M Tryd.prog hints C LP F.rows_Read 1 [(1, v1), (2, v2), (3, v3), (8, v8), (10, v10), (27, v27), (28, v28), (29, v29), (41, v41), (42, v42), (43, v43)] H k) v1 v2 v3 v8 v27 v28 v29 H k := by kernel_rfl
theorem s_rows_Read_b1_eq (M : CombL) (C : Yc) (LP : Yv) (v1 v2 v3 v8 v10 v27 v28 v29 v41 v42 v43 : Value) (H : AHeap) (k : K) : Uz M Tryd.prog hints C LP F.rows_Read 1 [(1, v1), (2, v2), (3, v3), (8, v8), (10, v10), (27, v27), (28, v28), (29, v29), (41, v41), (42, v42), (43, v43)] H (Yl [1, 2, 3, 8, 10, 27, 28, 29, 41, 42, 43] k) = W4 M.b.g M.c M.s Tryd.prog C (fun v1 v2 v3 v8 v27 v28 v29 H k => YH M Tryd.prog hints C LP F.rows_Read 0 [(1, v1), (2, v2), (3, v3), (8, v8), (27, v27), (28, v28), (29, v29)] H k) (fun v1 v2 v3 v8 v10 v27 v28 v29 v41 v42 v43 H k => YH M Tryd.prog hints C LP F.rows_Read 1 [(1, v1), (2, v2), (3, v3), (8, v8), (10, v10), (27, v27), (28, v28), (29, v29), (41, v41), (42, v42), (43, v43)] H k) v1 v2 v3 v8 v10 v27 v28 v29 v41 v42 v43 H k := by kernel_rfl
noncomputable def UR (mg : GT) (mc : CT) (ms : ST) (P : Program) (C : Yc) (H : AHeap) (K0 : K) : Res :=
Yp (XT T.api_Table (.agg #[(.int .i64 0), (.slice none 0 0), (.slice none 0 0)]) H) fun t0 h1 =>
Yp (UC T.api_CellKind [(.int .i64 0)] 3 [(0, (.int .i64 1)), (1, (.int .i64 1)), (2, (.int .i64 1))] h1) fun t5 h2 =>
Yp (UC T.api_CellKind [(.int .i64 0)] 4 [(0, (.int .i64 1)), (1, (.int .i64 3)), (2, (.int .i64 1)), (3, (.int .i64 1))] h2) fun t9 h3 =>
Yb (Ui #[(.int .i64 0), (.slice none 0 0), (.slice none 0 0)] [(0, 1), (1, 1), (2, 1)] [(0, (.int .i64 1)), (1, t5), (2, t9)]) h3 fun t10 h4 =>
Yr (stN 3 h4 t0 t10) fun _ h5 =>
K0 .ret [(0, t0)] h5
theorem s_jobs_table_eq (M : CombL) (C : Yc) (LP : Yv) (H : AHeap) : Yy M Tryd.prog hints C LP F.jobs_table [] H = UR M.b.g M.c M.s Tryd.prog C H (Yi Tryd.prog [.cell 0 T.api_Table]) := by kernel_rfl
noncomputable def U9 (mg : GT) (mc : CT) (ms : ST) (P : Program) (C : Yc) (a0 : Value) (H : AHeap) (K0 : K) : Res :=
Yp (XT T.api_Job (.agg #[(.int .i64 0), (.int .i64 0), (.string (mk [])), (.int .i64 0), (.int .i64 0), (.int .i64 0), (.int .i64 0)]) H) fun t2 h1 =>
Yb (ixS 5 a0 (.int .i64 2)) h1 fun t5 h2 =>
Yb (fad 1 t5) h2 fun t6 h3 =>
Yb (ld1 h3 t6) h3 fun t7 h4 =>
Yp (YP P T.uint64 T.int t7 h4) fun t8 h5 =>
Yb (ixS 5 a0 (.int .i64 3)) h5 fun t10 h6 =>
Yb (fad 1 t10) h6 fun t11 h7 =>
Yb (ld1 h7 t11) h7 fun t12 h8 =>
Yp (YP P T.uint64 T.int t12 h8) fun t13 h9 =>
Yb (ixS 5 a0 (.int .i64 4)) h9 fun t15 h10 =>
Yb (fad 3 t15) h10 fun t16 h11 =>
Yb (ld1 h11 t16) h11 fun t17 h12 =>
Yb (ixS 5 a0 (.int .i64 0)) h12 fun t19 h13 =>
Yb (fad 1 t19) h13 fun t20 h14 =>
Yb (ld1 h14 t20) h14 fun t21 h15 =>
Yp (YP P T.uint64 T.api_JobState t21 h15) fun t22 h16 =>
Yb (ixS 5 a0 (.int .i64 5)) h16 fun t24 h17 =>
Yb (fad 1 t24) h17 fun t25 h18 =>
Yb (ld1 h18 t25) h18 fun t26 h19 =>
Yp (YP P T.uint64 T.int t26 h19) fun t27 h20 =>
Yb (ixS 5 a0 (.int .i64 6)) h20 fun t29 h21 =>
Yb (fad 1 t29) h21 fun t30 h22 =>
Yb (ld1 h22 t30) h22 fun t31 h23 =>
Yp (YP P T.uint64 T.int t31 h23) fun t32 h24 =>
Yb (Ui #[(.int .i64 0), (.int .i64 0), (.string (mk [])), (.int .i64 0), (.int .i64 0), (.int .i64 0), (.int .i64 0)] [(0, 1), (1, 1), (2, 1), (3, 1), (4, 1), (5, 1), (6, 1)] [(0, t8), (1, t13), (2, t17), (3, t22), (4, t27), (5, t32)]) h24 fun t33 h25 =>
Yp (XT T.api_Job (.agg #[(.int .i64 0), (.int .i64 0), (.string (mk [])), (.int .i64 0), (.int .i64 0), (.int .i64 0), (.int .i64 0)]) h25) fun t3 h26 =>
Yr (stN 7 h26 t3 t33) fun _ h27 =>
Xy true <|
Yb (fad 3 t3) h27 fun t34 h28 =>
Yb (ld1 h28 t34) h28 fun t35 h29 =>
Yb (Yf P .eql T.api_JobState (.tmp 35) (.const (.int .i64 2)) t35 (.int .i64 2)) h29 fun t36 h30 =>
mc t36 (fun k1 => Yb (ixS 5 a0 (.int .i64 1)) h30 fun t38 h31 =>
Yb (fad 1 t38) h31 fun t39 h32 =>
Yb (ld1 h32 t39) h32 fun t40 h33 =>
Yp (YP P T.uint64 T.int t40 h33) fun t41 h34 =>
Yb (fad 6 t3) h34 fun t42 h35 =>
Yr (st1 h35 t42 t41) fun _ h36 =>
k1 .normal [(2, t2), (3, t3)] h36) (fun k1 =>
k1 .normal [(2, t2), (3, t3)] h30) (Ys (fun tT h37 =>
Yb (ldN 7 h37 (get tT 3)) h37 fun t43 h38 =>
Yr (stN 7 h38 (get tT 2) t43) fun _ h39 =>
K0 .ret [(2, (get tT 2))] h39) K0)
theorem s_jobs_job_eq (M : CombL) (C : Yc) (LP : Yv) (a0 : Value) (H : AHeap) : Yy M Tryd.prog hints C LP F.jobs_job [a0] H = U9 M.b.g M.c M.s Tryd.prog C a0 H (Yi Tryd.prog [.cell 2 T.api_Job]) := by kernel_rfl
noncomputable def VH (mg : GT) (mc : CT) (ms : ST) (P : Program) (C : Yc) (L0 : Value → Value → AHeap → K → Res) (a0 a1 : Value) (H : AHeap) (K0 : K) : Res :=
Yp (XT T.api_Table a0 H) fun t2 h1 =>
Yb (ldN 3 h1 t2) h1 fun t8 h2 =>
Yh C F.rows_Valid [t8] h2 fun t9 h3 =>
Yb (xun P .not t9) h3 fun t10 h4 =>
mg t10 false (fun o1 => o1 a1 h4) h4 fun t12 h5 =>
mg t10 false (fun o2 => Yb (lenS t12) h5 o2) h5 fun t13 h6 =>
mg t10 false (fun o3 => Yb (fad 1 t2) h6 o3) h6 fun t14 h7 =>
mg t10 false (fun o4 => Yb (ld1 h7 t14) h7 o4) h7 fun t15 h8 =>
mg t10 false (fun o5 => Yb (lenS t15) h8 o5) h8 fun t16 h9 =>
mg t10 false (fun o6 => Yb (Yf P .gtr T.int (.tmp 13) (.tmp 16) t13 t16) h9 o6) h9 fun t17 h10 =>
YQ t10 (.bool true) t17 fun t18 =>
mg t18 false (fun o7 => o7 a1 h10) h10 fun t20 h11 =>
mg t18 false (fun o8 => Yb (fad 1 t2) h11 o8) h11 fun t21 h12 =>
mg t18 false (fun o9 => Yb (ld1 h12 t21) h12 o9) h12 fun t22 h13 =>
mg t18 false (fun o10 => o10 a1 h13) h13 fun t23 h14 =>
mg t18 false (fun o11 => Yb (lenS t23) h14 o11) h14 fun t24 h15 =>
mg t18 false (fun o12 => Yb (slS T.api_CellKind 1 t22 none (some t24) none h15) h15 o12) h15 fun t25 h16 =>
mg t18 false (fun o13 => Yh C F.rows_are [t20, t25] h16 o13) h16 fun t26 h17 =>
mg t18 false (fun o14 => Yb (xun P .not t26) h17 o14) h17 fun t27 h18 =>
YQ t18 (.bool true) t27 fun t28 =>
mc t28 (fun k15 => k15 .ret [(4, (.string (mk []))), (5, (.string (mk []))), (6, (.int .i64 2))] h18) (fun k15 =>
k15 .normal [(1, a1), (2, t2)] h18) (Ys (fun tT h19 =>
Yb (fad 0 (get tT 2)) h19 fun t29 h20 =>
Yb (ld1 h20 t29) h20 fun t30 h21 =>
Yp (YP P T.int T.uint8 t30 h21) fun t31 h22 =>
Yp (UC T.uint8 [(.int .u8 0)] 1 [(0, t31)] h22) fun t32 h23 =>
Yh C F.rows_puts [t32, (get tT 1)] h23 fun t34 h24 =>
Yb (lenT t34) h24 fun t36 h25 =>
Yb (Yf P .gtr T.int (.tmp 36) (.const (.int .i64 24)) t36 (.int .i64 24)) h25 fun t37 h26 =>
mc t37 (fun k16 => k16 .ret [(4, (.string (mk []))), (5, (.string (mk []))), (6, (.int .i64 5))] h26) (fun k16 =>
k16 .normal [(4, t34)] h26) (Ys (fun tT_1 h27 =>
Yp (YP P T.string T.sl_uint8 (get tT_1 4) h27) fun t39 h28 =>
ms (fun k17 =>
L0 (get tT_1 4) t39 h28 (YI [4, 7] 0 k17)) (Ys (fun tT_2 h29 =>
Yb (lenS (get tT_2 7)) h29 fun t58 h30 =>
Yb (Yf P .gtr T.int (.tmp 58) (.const (.int .i64 0)) t58 (.int .i64 0)) h30 fun t59 h31 =>
mc t59 (fun k18 => Yb (lenS (get tT_2 7)) h31 fun t62 h32 =>
Yb (Yf P .sub T.int (.tmp 62) (.const (.int .i64 1)) t62 (.int .i64 1)) h32 fun t63 h33 =>
Yb (ixS 1 (get tT_2 7) t63) h33 fun t64 h34 =>
Yb (ld1 h34 t64) h34 fun t65 h35 =>
Yb (Yf P .add T.uint8 (.tmp 65) (.const (.int .u8 1)) t65 (.int .u8 1)) h35 fun t66 h36 =>
Yb (ixS 1 (get tT_2 7) t63) h36 fun t67 h37 =>
Yr (st1 h37 t67 t66) fun _ h38 =>
k18 .normal [(4, (get tT_2 4)), (7, (get tT_2 7))] h38) (fun k18 =>
k18 .normal [(4, (get tT_2 4)), (7, (get tT_2 7))] h31) (Ys (fun tT_3 h39 =>
Yp (YP P T.sl_uint8 T.string (get tT_3 7) h39) fun t70 h40 =>
Xy true <|
K0 .ret [(4, (get tT_3 4)), (5, t70), (6, (.int .i64 0))] h40) K0)) K0)) K0)) K0)
noncomputable def VM (mg : GT) (mc : CT) (ms : ST) (P : Program) (C : Yc) (L0 : Value → Value → AHeap → K → Res) (v4 v7 : Value) (H : AHeap) (k : K) : Res :=
Yb (lenS v7) H fun t41 h29 =>
Yb (Yf P .gtr T.int (.tmp 41) (.const (.int .i64 0)) t41 (.int .i64 0)) h29 fun t42 h30 =>
mg t42 true (fun o18 => o18 v7 h30) h30 fun t44 h31 =>
mg t42 true (fun o19 => o19 v7 h31) h31 fun t45 h32 =>
mg t42 true (fun o20 => Yb (lenS t45) h32 o20) h32 fun t46 h33 =>
mg t42 true (fun o21 => Yb (Yf P .sub T.int (.tmp 46) (.const (.int .i64 1)) t46 (.int .i64 1)) h33 o21) h33 fun t47 h34 =>
mg t42 true (fun o22 => Yb (ixS 1 t44 t47) h34 o22) h34 fun t48 h35 =>
mg t42 true (fun o23 => Yb (ld1 h35 t48) h35 o23) h35 fun t49 h36 =>
mg t42 true (fun o24 => Yb (Yf P .eql T.uint8 (.tmp 49) (.const (.int .u8 255)) t49 (.int .u8 255)) h36 o24) h36 fun t50 h37 =>
YQ t42 t50 (.bool false) fun t51 =>
mc t51 (fun k25 => k25 .normal [(4, v4), (7, v7)] h37) (fun k25 =>
k25 (.exit 0) [(51, t51), (50, t50), (49, t49), (48, t48), (47, t47), (46, t46), (45, t45), (44, t44), (43, t42), (42, t42), (41, t41), (40, v7), (4, v4), (7, v7)] h37) (Ys (fun tT h38 =>
ms (fun k26 =>
Yb (lenS (get tT 7)) h38 fun t54 h39 =>
Yb (Yf P .sub T.int (.tmp 54) (.const (.int .i64 1)) t54 (.int .i64 1)) h39 fun t55 h40 =>
Yb (slS T.uint8 1 (get tT 7) none (some t55) none h40) h40 fun t56 h41 =>
k26 .normal [(4, (get tT 4)), (7, t56)] h41) (Yl [4, 7] k)) (Yl [4, 7] k))
theorem s_rows_Span_eq (M : CombL) (C : Yc) (LP : Yv) (a0 a1 : Value) (H : AHeap) : Yy M Tryd.prog hints C LP F.rows_Span [a0, a1] H = VH M.b.g M.c M.s Tryd.prog C (fun v4 v7 H k => YH M Tryd.prog hints C LP F.rows_Span 0 [(4, v4), (7, v7)] H k) a0 a1 H (Yi Tryd.prog [.tmp 4, .tmp 5, .tmp 6]) := by kernel_rfl
theorem s_rows_Span_b0_eq (M : CombL) (C : Yc) (LP : Yv) (v4 v7 : Value) (H : AHeap) (k : K) : Uz M Tryd.prog hints C LP F.rows_Span 0 [(4, v4), (7, v7)] H (Yl [4, 7] k) = VM M.b.g M.c M.s Tryd.prog C (fun v4 v7 H k => YH M Tryd.prog hints C LP F.rows_Span 0 [(4, v4), (7, v7)] H k) v4 v7 H k := by kernel_rfl
noncomputable def Wr (mg : GT) (mc : CT) (ms : ST) (P : Program) (C : Yc) (a0 : Value) (H : AHeap) (K0 : K) : Res :=
Yb (Yf P .eql T.p_model_Model (.tmp 3) (.const (.pointer none)) a0 (.pointer none)) H fun t4 h1 =>
mc t4 (fun k1 => k1 .ret [(2, (.slice none 0 0))] h1) (fun k1 =>
k1 .normal [(0, a0)] h1) (Ys (fun tT h2 =>
Yb (Yz (get tT 0)) h2 fun t6 h3 =>
Yb (fad 0 t6) h3 fun t7 h4 =>
Yb (ld1 h4 t7) h4 fun t8 h5 =>
Yh C F.slices_Clone_Pair [t8] h5 fun t9 h6 =>
K0 .ret [(2, t9)] h6) K0)
theorem Gf (M : CombL) (C : Yc) (LP : Yv) (a0 : Value) (H : AHeap) : Yy M Tryd.prog hints C LP F.model_Model_Pairs [a0] H = Wr M.b.g M.c M.s Tryd.prog C a0 H (Yi Tryd.prog [.tmp 2]) := by kernel_rfl
noncomputable def Vk (mg : GT) (mc : CT) (ms : ST) (P : Program) (C : Yc) (a0 a1 : Value) (H : AHeap) (K0 : K) : Res :=
Yp (XT T.api_Table a0 H) fun t2 h1 =>
Yb (ldN 3 h1 t2) h1 fun t7 h2 =>
Yh C F.rows_Valid [t7] h2 fun t8 h3 =>
Yb (xun P .not t8) h3 fun t9 h4 =>
mg t9 false (fun o1 => o1 a1 h4) h4 fun t11 h5 =>
mg t9 false (fun o2 => Yb (fad 1 t2) h5 o2) h5 fun t12 h6 =>
mg t9 false (fun o3 => Yb (ld1 h6 t12) h6 o3) h6 fun t13 h7 =>
mg t9 false (fun o4 => Yb (fad 2 t2) h7 o4) h7 fun t14 h8 =>
mg t9 false (fun o5 => Yb (ld1 h8 t14) h8 o5) h8 fun t15 h9 =>
mg t9 false (fun o6 => Yp (UC T.sl_api_CellKind [(.slice none 0 0)] 2 [(0, t13), (1, t15)] h9) o6) h9 fun t16 h10 =>
mg t9 false (fun o7 => Yh C F.slices_Concat_CellKind [t16] h10 o7) h10 fun t17 h11 =>
mg t9 false (fun o8 => Yh C F.rows_are [t11, t17] h11 o8) h11 fun t18 h12 =>
mg t9 false (fun o9 => Yb (xun P .not t18) h12 o9) h12 fun t19 h13 =>
YQ t9 (.bool true) t19 fun t20 =>
mc t20 (fun k10 => k10 .ret [(4, (.string (mk []))), (5, (.string (mk []))), (6, (.int .i64 2))] h13) (fun k10 =>
k10 .normal [(1, a1), (2, t2)] h13) (Ys (fun tT h14 =>
Yb (fad 0 (get tT 2)) h14 fun t21 h15 =>
Yb (ld1 h15 t21) h15 fun t22 h16 =>
Yp (YP P T.int T.uint8 t22 h16) fun t23 h17 =>
Yp (UC T.uint8 [(.int .u8 0)] 1 [(0, t23)] h17) fun t24 h18 =>
Yb (fad 1 (get tT 2)) h18 fun t26 h19 =>
Yb (ld1 h19 t26) h19 fun t27 h20 =>
Yb (lenS t27) h20 fun t28 h21 =>
Yb (slS T.api_Cell 5 (get tT 1) none (some t28) none h21) h21 fun t29 h22 =>
Yh C F.rows_puts [t24, t29] h22 fun t30 h23 =>
Yb (fad 1 (get tT 2)) h23 fun t32 h24 =>
Yb (ld1 h24 t32) h24 fun t33 h25 =>
Yb (lenS t33) h25 fun t34 h26 =>
Yb (slS T.api_Cell 5 (get tT 1) (some t34) none none h26) h26 fun t35 h27 =>
Yh C F.rows_puts [(.slice none 0 0), t35] h27 fun t36 h28 =>
Xy (okV (some true) none h22 h23 h23 h23 && (okV (some true) none h22 h23 h23 h24 && (okV (some true) (Yk t32) h22 h23 h24 h25 && (okV (some true) none h22 h23 h25 h26 && (okV (some true) (Yk (get tT 1)) h22 h23 h26 h27 && true))))) <|
Yb (lenT t30) h28 fun t38 h29 =>
Yb (Yf P .gtr T.int (.tmp 38) (.const (.int .i64 24)) t38 (.int .i64 24)) h29 fun t39 h30 =>
mg t39 false (fun o11 => o11 t36 h30) h30 fun t41 h31 =>
mg t39 false (fun o12 => Yb (lenT t41) h31 o12) h31 fun t42 h32 =>
mg t39 false (fun o13 => Yb (Yf P .gtr T.int (.tmp 42) (.const (.int .i64 40)) t42 (.int .i64 40)) h32 o13) h32 fun t43 h33 =>
YQ t39 (.bool true) t43 fun t44 =>
mc t44 (fun k14 => k14 .ret [(4, (.string (mk []))), (5, (.string (mk []))), (6, (.int .i64 5))] h33) (fun k14 =>
k14 .normal [(4, t30), (5, t36)] h33) (Ys (fun tT_1 h34 =>
K0 .ret [(4, (get tT_1 4)), (5, (get tT_1 5)), (6, (.int .i64 0))] h34) K0)) K0)
theorem s_rows_Row_eq (M : CombL) (C : Yc) (LP : Yv) (a0 a1 : Value) (H : AHeap) : Yy M Tryd.prog hints C LP F.rows_Row [a0, a1] H = Vk M.b.g M.c M.s Tryd.prog C a0 a1 H (Yi Tryd.prog [.tmp 4, .tmp 5, .tmp 6]) := by kernel_rfl
noncomputable def Un (mg : GT) (mc : CT) (ms : ST) (P : Program) (C : Yc) (a0 : Value) (H : AHeap) (K0 : K) : Res :=
Yp (XT T.api_Job a0 H) fun t1 h1 =>
Yb (fad 3 t1) h1 fun t4 h2 =>
Yb (ld1 h2 t4) h2 fun t5 h3 =>
ms (fun k1 =>
Yb (Yf P .eql T.api_JobState (.tmp 5) (.const (.int .i64 1)) t5 (.int .i64 1)) h3 fun t7 h4 =>
mc t7 (fun k2 => Yb (fad 1 t1) h4 fun t8 h5 =>
Yb (ld1 h5 t8) h5 fun t9 h6 =>
Yb (Yf P .sub T.int (.const (.int .i64 9)) (.tmp 9) (.int .i64 9) t9) h6 fun t10 h7 =>
k2 .normal [(1, t1), (3, t10)] h7) (fun k2 =>
Yb (Yf P .eql T.api_JobState (.tmp 5) (.const (.int .i64 2)) t5 (.int .i64 2)) h4 fun t12 h8 =>
mc t12 (fun k3 => Yb (fad 6 t1) h8 fun t13 h9 =>
Yb (ld1 h9 t13) h9 fun t14 h10 =>
k3 .normal [(1, t1), (3, t14)] h10) (fun k3 =>
k3 .normal [(1, t1), (3, (.int .i64 0))] h8) (Yl [1, 3] k2)) (YI [1, 3] 0 k1)) (Ys (fun tT h11 =>
Yb (fad 3 (get tT 1)) h11 fun t15 h12 =>
Yb (ld1 h12 t15) h12 fun t16 h13 =>
Yh C F.jobs_number [t16] h13 fun t17 h14 =>
Yh C F.jobs_number [(get tT 3)] h14 fun t19 h15 =>
Yb (fad 0 (get tT 1)) h15 fun t20 h16 =>
Yb (ld1 h16 t20) h16 fun t21 h17 =>
Yh C F.jobs_number [t21] h17 fun t22 h18 =>
Yb (fad 1 (get tT 1)) h18 fun t23 h19 =>
Yb (ld1 h19 t23) h19 fun t24 h20 =>
Yh C F.jobs_number [t24] h20 fun t25 h21 =>
Yb (fad 2 (get tT 1)) h21 fun t26 h22 =>
Yb (ld1 h22 t26) h22 fun t27 h23 =>
Yb (Ui #[(.int .i64 0), (.int .u64 0), (.int .i64 0), (.string (mk [])), (.bool false)] [(0, 1), (1, 1), (2, 1), (3, 1), (4, 1)] [(0, (.int .i64 3)), (3, t27)]) h23 fun t28 h24 =>
Yb (fad 4 (get tT 1)) h24 fun t29 h25 =>
Yb (ld1 h25 t29) h25 fun t30 h26 =>
Yh C F.jobs_number [t30] h26 fun t31 h27 =>
Yb (fad 5 (get tT 1)) h27 fun t32 h28 =>
Yb (ld1 h28 t32) h28 fun t33 h29 =>
Yh C F.jobs_number [t33] h29 fun t34 h30 =>
Yp (UC T.api_Cell [(.int .i64 0), (.int .u64 0), (.int .i64 0), (.string (mk [])), (.bool false)] 7 [(0, t17), (1, t19), (2, t22), (3, t25), (4, t28), (5, t31), (6, t34)] h30) fun t35 h31 =>
Xy (okV (some true) none h13 h14 h14 h14 && (okV (some true) none h13 h14 h15 h16 && (okV (some true) (Yk t20) h13 h14 h16 h17 && (okV (some true) none h13 h14 h18 h19 && (okV (some true) (Yk t23) h13 h14 h19 h20 && (okV (some true) none h13 h14 h21 h22 && (okV (some true) (Yk t26) h13 h14 h22 h23 && (okV (some true) none h13 h14 h23 h24 && (okV (some true) none h13 h14 h24 h25 && (okV (some true) (Yk t29) h13 h14 h25 h26 && (okV (some true) none h13 h14 h27 h28 && (okV (some true) (Yk t32) h13 h14 h28 h29 && (okV (some true) none h14 h15 h15 h16 && (okV (some true) (Yk t20) h14 h15 h16 h17 && (okV (some true) none h14 h15 h18 h19 && (okV (some true) (Yk t23) h14 h15 h19 h20 && (okV (some true) none h14 h15 h21 h22 && (okV (some true) (Yk t26) h14 h15 h22 h23 && (okV (some true) none h14 h15 h23 h24 && (okV (some true) none h14 h15 h24 h25 && (okV (some true) (Yk t29) h14 h15 h25 h26 && (okV (some true) none h14 h15 h27 h28 && (okV (some true) (Yk t32) h14 h15 h28 h29 && (okV (some true) none h17 h18 h18 h19 && (okV (some true) (Yk t23) h17 h18 h19 h20 && (okV (some true) none h17 h18 h21 h22 && (okV (some true) (Yk t26) h17 h18 h22 h23 && (okV (some true) none h17 h18 h23 h24 && (okV (some true) none h17 h18 h24 h25 && (okV (some true) (Yk t29) h17 h18 h25 h26 && (okV (some true) none h17 h18 h27 h28 && (okV (some true) (Yk t32) h17 h18 h28 h29 && (okV (some true) none h20 h21 h21 h22 && (okV (some true) (Yk t26) h20 h21 h22 h23 && (okV (some true) none h20 h21 h23 h24 && (okV (some true) none h20 h21 h24 h25 && (okV (some true) (Yk t29) h20 h21 h25 h26 && (okV (some true) none h20 h21 h27 h28 && (okV (some true) (Yk t32) h20 h21 h28 h29 && (okV (some true) none h26 h27 h21 h22 && (okV (some true) (Yk t26) h26 h27 h22 h23 && (okV (some true) none h26 h27 h23 h24 && (okV (some true) none h26 h27 h27 h28 && (okV (some true) (Yk t32) h26 h27 h28 h29 && (okV (some true) none h29 h30 h21 h22 && (okV (some true) (Yk t26) h29 h30 h22 h23 && (okV (some true) none h29 h30 h23 h24 && true))))))))))))))))))))))))))))))))))))))))))))))) <|
K0 .ret [(2, t35)] h31) K0)
theorem s_jobs_row_eq (M : CombL) (C : Yc) (LP : Yv) (a0 : Value) (H : AHeap) : Yy M Tryd.prog hints C LP F.jobs_row [a0] H = Un M.b.g M.c M.s Tryd.prog C a0 H (Yi Tryd.prog [.tmp 2]) := by kernel_rfl
noncomputable def Wh (mg : GT) (mc : CT) (ms : ST) (P : Program) (C : Yc) (a0 a1 a2 : Value) (H : AHeap) (K0 : K) : Res :=
Yp (UC T.string [(.string (mk []))] 1 [(0, a2)] H) fun t14 h1 =>
Yh C F.model_Model_at [a0, a1, t14] h1 fun t15 h2 =>
Yb (Yn t15 0) h2 fun t16 h3 =>
Yb (Yn t15 1) h3 fun t17 h4 =>
Yb (Yn t15 2) h4 fun t18 h5 =>
Yb (Yf P .neq T.api_Errno (.tmp 19) (.const (.int .i64 0)) t18 (.int .i64 0)) h5 fun t20 h6 =>
mc t20 (fun k1 => k1 .ret [(6, t18)] h6) (fun k1 =>
k1 .normal [(0, a0), (1, a1), (2, a2), (7, t16), (8, t17)] h6) (Ys (fun tT h7 =>
Yb (Ui #[(.string (mk [])), (.string (mk []))] [(0, 1), (1, 1)] [(0, (get tT 1)), (1, (get tT 2))]) h7 fun t27 h8 =>
Yh C F.model_Model_set [(get tT 0), (get tT 7), (get tT 8), t27] h8 fun t28 h9 =>
K0 .ret [(6, t28)] h9) K0)
theorem s_model_Model_Put_eq (M : CombL) (C : Yc) (LP : Yv) (a0 a1 a2 : Value) (H : AHeap) : Yy M Tryd.prog hints C LP F.model_Model_Put [a0, a1, a2] H = Wh M.b.g M.c M.s Tryd.prog C a0 a1 a2 H (Yi Tryd.prog [.tmp 6]) := by kernel_rfl
noncomputable def Ws (mg : GT) (mc : CT) (ms : ST) (P : Program) (C : Yc) (a0 a1 : Value) (H : AHeap) (K0 : K) : Res :=
Yb (Yz a0) H fun t7 h1 =>
Yb (fad 0 t7) h1 fun t8 h2 =>
Yb (ld1 h2 t8) h2 fun t9 h3 =>
Yh C F.slices_BinarySearchFunc_string [t9, a1, (.func (.func F.model_Model_place_1) #[] #[])] h3 fun t11 h4 =>
Yb (Yn t11 0) h4 fun t12 h5 =>
Yb (Yn t11 1) h5 fun t13 h6 =>
K0 .ret [(4, t12), (5, t13)] h6
theorem Gp (M : CombL) (C : Yc) (LP : Yv) (a0 a1 : Value) (H : AHeap) : Yy M Tryd.prog hints C LP F.model_Model_place [a0, a1] H = Ws M.b.g M.c M.s Tryd.prog C a0 a1 H (Yi Tryd.prog [.tmp 4, .tmp 5]) := by kernel_rfl
noncomputable def Wa (mg : GT) (mc : CT) (ms : ST) (P : Program) (C : Yc) (a0 a1 a2 : Value) (H : AHeap) (K0 : K) : Res :=
Yb (lenS a0) H fun t12 h1 =>
Yb (slS T.api_Pair 2 a0 (some a1) (some a2) (some t12) h1) h1 fun t13 h2 =>
Yb (Yf P .eql T.int (.tmp 14) (.tmp 15) a1 a2) h2 fun t16 h3 =>
mc t16 (fun k1 => k1 .ret [(6, a0)] h3) (fun k1 =>
k1 .normal [(0, a0), (1, a1), (2, a2)] h3) (Ys (fun tT h4 =>
Yb (lenS (get tT 0)) h4 fun t19 h5 =>
Yb (slS T.api_Pair 2 (get tT 0) none (some (get tT 1)) none h5) h5 fun t22 h6 =>
Yb (slS T.api_Pair 2 (get tT 0) (some (get tT 2)) none none h6) h6 fun t25 h7 =>
Yp (app T.api_Pair 2 32 t22 (Vn 2 t25 h7) h7) fun t26 h8 =>
Xy true <|
Yb (lenS t26) h8 fun t29 h9 =>
Yb (slS T.api_Pair 2 t26 (some t29) (some t19) none h9) h9 fun t31 h10 =>
Yp (xclear P [T.sl_api_Pair] t31 h10) fun _ h11 =>
K0 .ret [(6, t26)] h11) K0)
theorem ZF (M : CombL) (C : Yc) (LP : Yv) (a0 a1 a2 : Value) (H : AHeap) : Yy M Tryd.prog hints C LP F.slices_Delete_Pair [a0, a1, a2] H = Wa M.b.g M.c M.s Tryd.prog C a0 a1 a2 H (Yi Tryd.prog [.tmp 6]) := by kernel_rfl
noncomputable def Xp (mg : GT) (mc : CT) (ms : ST) (P : Program) (C : Yc) (a0 : Value) (H : AHeap) (K0 : K) : Res :=
Yb (Yf P .eql T.sl_api_Pair (.tmp 3) (.const (.slice none 0 0)) a0 (.slice none 0 0)) H fun t4 h1 =>
mc t4 (fun k1 => k1 .ret [(2, (.slice none 0 0))] h1) (fun k1 =>
k1 .normal [(0, a0)] h1) (Ys (fun tT h2 =>
Yp (UC T.api_Pair [(.string (mk [])), (.string (mk []))] 0 [] h2) fun t5 h3 =>
Yp (app T.api_Pair 2 32 t5 (Vn 2 (get tT 0) h3) h3) fun t7 h4 =>
K0 .ret [(2, t7)] h4) K0)
theorem Gi (M : CombL) (C : Yc) (LP : Yv) (a0 : Value) (H : AHeap) : Yy M Tryd.prog hints C LP F.slices_Clone_Pair [a0] H = Xp M.b.g M.c M.s Tryd.prog C a0 H (Yi Tryd.prog [.tmp 2]) := by kernel_rfl
noncomputable def Wz (mg : GT) (mc : CT) (ms : ST) (P : Program) (C : Yc) (a0 a1 a2 : Value) (H : AHeap) (K0 : K) : Res :=
Yb (Yf P .eql T.p_model_Model (.tmp 13) (.const (.pointer none)) a0 (.pointer none)) H fun t14 h1 =>
mc t14 (fun k1 => k1 .ret [(6, (.int .i64 0)), (7, (.bool false)), (8, (.int .i64 1))] h1) (fun k1 =>
k1 .normal [(0, a0), (1, a1), (2, a2)] h1) (Ys (fun tT h2 =>
Yh C F.model_check [(get tT 1), (get tT 2)] h2 fun t17 h3 =>
Yb (Yf P .neq T.api_Errno (.tmp 18) (.const (.int .i64 0)) t17 (.int .i64 0)) h3 fun t19 h4 =>
mc t19 (fun k2 => k2 .ret [(6, (.int .i64 0)), (7, (.bool false)), (8, t17)] h4) (fun k2 =>
k2 .normal [(0, (get tT 0)), (1, (get tT 1))] h4) (Ys (fun tT_1 h5 =>
Qr P C (.func (.func F.model_Model_place) #[(get tT_1 0)] #[]) [(get tT_1 1)] h5 fun t26 h6 =>
Yb (Yn t26 0) h6 fun t27 h7 =>
Yb (Yn t26 1) h7 fun t28 h8 =>
K0 .ret [(6, t27), (7, t28), (8, (.int .i64 0))] h8) K0)) K0)
theorem s_model_Model_at_eq (M : CombL) (C : Yc) (LP : Yv) (a0 a1 a2 : Value) (H : AHeap) : Yy M Tryd.prog hints C LP F.model_Model_at [a0, a1, a2] H = Wz M.b.g M.c M.s Tryd.prog C a0 a1 a2 H (Yi Tryd.prog [.tmp 6, .tmp 7, .tmp 8]) := by kernel_rfl
noncomputable def X5 (mg : GT) (mc : CT) (ms : ST) (P : Program) (C : Yc) (a0 : Value) (H : AHeap) (K0 : K) : Res :=
Yp (XT T.api_Table a0 H) fun t1 h1 =>
Yb (fad 0 t1) h1 fun t3 h2 =>
Yb (ld1 h2 t3) h2 fun t4 h3 =>
Yb (Yf P .geq T.int (.tmp 4) (.const (.int .i64 1)) t4 (.int .i64 1)) h3 fun t5 h4 =>
mg t5 true (fun o1 => Yb (fad 0 t1) h4 o1) h4 fun t7 h5 =>
mg t5 true (fun o2 => Yb (ld1 h5 t7) h5 o2) h5 fun t8 h6 =>
mg t5 true (fun o3 => Yb (Yf P .leq T.int (.tmp 8) (.const (.int .i64 255)) t8 (.int .i64 255)) h6 o3) h6 fun t9 h7 =>
YQ t5 t9 (.bool false) fun t10 =>
mg t10 true (fun o4 => Yb (fad 1 t1) h7 o4) h7 fun t12 h8 =>
mg t10 true (fun o5 => Yb (ld1 h8 t12) h8 o5) h8 fun t13 h9 =>
mg t10 true (fun o6 => Yb (lenS t13) h9 o6) h9 fun t14 h10 =>
mg t10 true (fun o7 => Yb (Yf P .geq T.int (.tmp 14) (.const (.int .i64 1)) t14 (.int .i64 1)) h10 o7) h10 fun t15 h11 =>
YQ t10 t15 (.bool false) fun t16 =>
mg t16 true (fun o8 => Yb (fad 1 t1) h11 o8) h11 fun t18 h12 =>
mg t16 true (fun o9 => Yb (ld1 h12 t18) h12 o9) h12 fun t19 h13 =>
mg t16 true (fun o10 => Yb (lenS t19) h13 o10) h13 fun t20 h14 =>
mg t16 true (fun o11 => Yb (Yf P .leq T.int (.tmp 20) (.const (.int .i64 8)) t20 (.int .i64 8)) h14 o11) h14 fun t21 h15 =>
YQ t16 t21 (.bool false) fun t22 =>
mg t22 true (fun o12 => Yb (fad 2 t1) h15 o12) h15 fun t24 h16 =>
mg t22 true (fun o13 => Yb (ld1 h16 t24) h16 o13) h16 fun t25 h17 =>
mg t22 true (fun o14 => Yb (lenS t25) h17 o14) h17 fun t26 h18 =>
mg t22 true (fun o15 => Yb (Yf P .leq T.int (.tmp 26) (.const (.int .i64 8)) t26 (.int .i64 8)) h18 o15) h18 fun t27 h19 =>
YQ t22 t27 (.bool false) fun t28 =>
mg t28 true (fun o16 => Yb (fad 1 t1) h19 o16) h19 fun t30 h20 =>
mg t28 true (fun o17 => Yb (ld1 h20 t30) h20 o17) h20 fun t31 h21 =>
mg t28 true (fun o18 => Yb (fad 2 t1) h21 o18) h21 fun t32 h22 =>
mg t28 true (fun o19 => Yb (ld1 h22 t32) h22 o19) h22 fun t33 h23 =>
mg t28 true (fun o20 => Yp (UC T.sl_api_CellKind [(.slice none 0 0)] 2 [(0, t31), (1, t33)] h23) o20) h23 fun t34 h24 =>
mg t28 true (fun o21 => Yh C F.slices_Concat_CellKind [t34] h24 o21) h24 fun t35 h25 =>
mg t28 true (fun o22 => Yh C F.slices_ContainsFunc_CellKind [t35, (.func (.func F.rows_Valid_1) #[] #[])] h25 o22) h25 fun t36 h26 =>
mg t28 true (fun o23 => Yb (xun P .not t36) h26 o23) h26 fun t37 h27 =>
YQ t28 t37 (.bool false) fun t38 =>
K0 .ret [(2, t38)] h27
theorem s_rows_Valid_eq (M : CombL) (C : Yc) (LP : Yv) (a0 : Value) (H : AHeap) : Yy M Tryd.prog hints C LP F.rows_Valid [a0] H = X5 M.b.g M.c M.s Tryd.prog C a0 H (Yi Tryd.prog [.tmp 2]) := by kernel_rfl
noncomputable def X9 (mg : GT) (mc : CT) (ms : ST) (P : Program) (C : Yc) (a0 a1 : Value) (H : AHeap) (K0 : K) : Res :=
Yp (XT T.api_Cell (.agg #[(.int .i64 0), (.int .u64 0), (.int .i64 0), (.string (mk [])), (.bool false)]) H) fun t4 h1 =>
Yb (Ui #[(.int .i64 0), (.int .u64 0), (.int .i64 0), (.string (mk [])), (.bool false)] [(0, 1), (1, 1), (2, 1), (3, 1), (4, 1)] [(0, a1)]) h1 fun t14 h2 =>
Yp (XT T.api_Cell (.agg #[(.int .i64 0), (.int .u64 0), (.int .i64 0), (.string (mk [])), (.bool false)]) h2) fun t7 h3 =>
Yr (stN 5 h3 t7 t14) fun _ h4 =>
Yb (Yf P .eql T.string (.tmp 15) (.const (.string (mk []))) a0 (.string (mk []))) h4 fun t16 h5 =>
mc t16 (fun k1 => Yb (ldN 5 h5 t7) h5 fun t17 h6 =>
Yr (stN 5 h6 t4 t17) fun _ h7 =>
k1 .ret [(4, t4), (5, (.string (mk []))), (6, (.bool false))] h7) (fun k1 =>
k1 .normal [(0, a0), (1, a1), (4, t4), (7, t7)] h5) (Ys (fun tT h8 =>
Yb (Uj P T.string (get tT 0) (.int .i64 0)) h8 fun t19 h9 =>
Yp (YP P T.uint8 T.int t19 h9) fun t20 h10 =>
ms (fun k2 =>
Yb (Yf P .eql T.api_CellKind (.tmp 21) (.const (.int .i64 1)) (get tT 1) (.int .i64 1)) h10 fun t23 h11 =>
mc t23 (fun k3 => Yb (slT (get tT 0) (some (.int .i64 1)) none) h11 fun t26 h12 =>
Yh C F.rows_number [t26, t20, (.bool false)] h12 fun t28 h13 =>
Yb (Yn t28 0) h13 fun t29 h14 =>
Yb (Yn t28 1) h14 fun t30 h15 =>
Yb (Yn t28 2) h15 fun t31 h16 =>
Yb (fad 1 (get tT 7)) h16 fun t32 h17 =>
Yr (st1 h17 t32 t29) fun _ h18 =>
Yb (ldN 5 h18 (get tT 7)) h18 fun t33 h19 =>
Yr (stN 5 h19 (get tT 4) t33) fun _ h20 =>
k3 .ret [(4, (get tT 4)), (5, t30), (6, t31)] h20) (fun k3 =>
Yb (Yf P .eql T.api_CellKind (.tmp 21) (.const (.int .i64 2)) (get tT 1) (.int .i64 2)) h11 fun t37 h21 =>
mc t37 (fun k4 => Yb (Yf P .geq T.int (.tmp 38) (.const (.int .i64 128)) t20 (.int .i64 128)) h21 fun t39 h22 =>
mc t39 (fun k5 => Yb (slT (get tT 0) (some (.int .i64 1)) none) h22 fun t42 h23 =>
Yb (Yf P .sub T.int (.tmp 43) (.const (.int .i64 128)) t20 (.int .i64 128)) h23 fun t44 h24 =>
Yh C F.rows_number [t42, t44, (.bool false)] h24 fun t45 h25 =>
Yb (Yn t45 0) h25 fun t46 h26 =>
Yb (Yn t45 1) h26 fun t47 h27 =>
Yb (Yn t45 2) h27 fun t48 h28 =>
Yp (YP P T.uint64 T.int t46 h28) fun t50 h29 =>
Yb (fad 2 (get tT 7)) h29 fun t51 h30 =>
Yr (st1 h30 t51 t50) fun _ h31 =>
k5 .normal [(4, (get tT 4)), (7, (get tT 7)), (9, t48), (11, t47)] h31) (fun k5 =>
Yb (slT (get tT 0) (some (.int .i64 1)) none) h22 fun t54 h32 =>
Yb (Yf P .sub T.int (.const (.int .i64 127)) (.tmp 55) (.int .i64 127) t20) h32 fun t56 h33 =>
Yh C F.rows_number [t54, t56, (.bool true)] h33 fun t57 h34 =>
Yb (Yn t57 0) h34 fun t58 h35 =>
Yb (Yn t57 1) h35 fun t59 h36 =>
Yb (Yn t57 2) h36 fun t60 h37 =>
Yp (YP P T.uint64 T.int t58 h37) fun t62 h38 =>
Yb (xun P .neg t62) h38 fun t63 h39 =>
Yb (Yf P .sub T.int (.tmp 63) (.const (.int .i64 1)) t63 (.int .i64 1)) h39 fun t64 h40 =>
Yb (fad 2 (get tT 7)) h40 fun t65 h41 =>
Yr (st1 h41 t65 t64) fun _ h42 =>
k5 .normal [(4, (get tT 4)), (7, (get tT 7)), (9, t60), (11, t59)] h42) (Ys (fun tT_1 h43 =>
Yb (ldN 5 h43 (get tT_1 7)) h43 fun t66 h44 =>
Yr (stN 5 h44 (get tT_1 4) t66) fun _ h45 =>
k4 .ret [(4, (get tT_1 4)), (5, (get tT_1 11)), (6, (get tT_1 9))] h45) (Yl [0, 4, 7, 8] k4))) (fun k4 =>
Yb (Yf P .eql T.api_CellKind (.tmp 21) (.const (.int .i64 3)) (get tT 1) (.int .i64 3)) h21 fun t70 h46 =>
mc t70 (fun k6 => Yh C F.strings_Index [(get tT 0), (.string (mk [0, 1]))] h46 fun t72 h47 =>
Yb (Yf P .lss T.int (.tmp 73) (.const (.int .i64 0)) t72 (.int .i64 0)) h47 fun t74 h48 =>
mc t74 (fun k7 => Yb (ldN 5 h48 (get tT 7)) h48 fun t75 h49 =>
Yr (stN 5 h49 (get tT 4) t75) fun _ h50 =>
k7 .ret [(4, (get tT 4)), (5, (.string (mk []))), (6, (.bool false))] h50) (fun k7 =>
k7 .normal [(0, (get tT 0)), (4, (get tT 4)), (7, (get tT 7)), (12, t72)] h48) (Ys (fun tT_2 h51 =>
Yb (slT (get tT_2 0) none (some (get tT_2 12))) h51 fun t78 h52 =>
Yh C F.strings_ReplaceAll [t78, (.string (mk [0, 255])), (.string (mk [0]))] h52 fun t79 h53 =>
Yb (fad 3 (get tT_2 7)) h53 fun t80 h54 =>
Yr (st1 h54 t80 t79) fun _ h55 =>
Yb (ldN 5 h55 (get tT_2 7)) h55 fun t81 h56 =>
Yb (Yf P .add T.int (.tmp 83) (.const (.int .i64 2)) (get tT_2 12) (.int .i64 2)) h56 fun t84 h57 =>
Yb (slT (get tT_2 0) (some t84) none) h57 fun t85 h58 =>
Yr (stN 5 h58 (get tT_2 4) t81) fun _ h59 =>
Xy (okV (some true) none h58 h59 h56 h56 && (okV (some true) none h58 h59 h56 h56 && (okV (some true) none h58 h59 h56 h57 && (okV (some true) (Yk (get tT_2 0)) h58 h59 h57 h58 && true)))) <|
k6 .ret [(4, (get tT_2 4)), (5, t85), (6, (.bool true))] h59) (Yl [0, 4, 7, 8] k6))) (fun k6 =>
k6 .normal [(0, (get tT 0)), (4, (get tT 4)), (7, (get tT 7)), (8, t20)] h46) (Yl [0, 4, 7, 8] k4)) (Yl [0, 4, 7, 8] k3)) (YI [0, 4, 7, 8] 0 k2)) (Ys (fun tT_3 h60 =>
Yb (Yf P .eql T.int (.tmp 86) (.const (.int .i64 1)) (get tT_3 8) (.int .i64 1)) h60 fun t87 h61 =>
Yb (fad 4 (get tT_3 7)) h61 fun t88 h62 =>
Yr (st1 h62 t88 t87) fun _ h63 =>
Yb (ldN 5 h63 (get tT_3 7)) h63 fun t89 h64 =>
Yb (slT (get tT_3 0) (some (.int .i64 1)) none) h64 fun t91 h65 =>
Yr (stN 5 h65 (get tT_3 4) t89) fun _ h66 =>
Xy (okV (some true) none h65 h66 h64 h64 && (okV (some true) (Yk (get tT_3 0)) h65 h66 h64 h65 && true)) <|
K0 .ret [(4, (get tT_3 4)), (5, t91), (6, (.bool true))] h66) K0)) K0)
theorem s_rows_take_eq (M : CombL) (C : Yc) (LP : Yv) (a0 a1 : Value) (H : AHeap) : Yy M Tryd.prog hints C LP F.rows_take [a0, a1] H = X9 M.b.g M.c M.s Tryd.prog C a0 a1 H (Yi Tryd.prog [.cell 4 T.api_Cell, .tmp 5, .tmp 6]) := by kernel_rfl
noncomputable def Um (mg : GT) (mc : CT) (ms : ST) (P : Program) (C : Yc) (L0 : Value → Value → Value → Value → AHeap → K → Res) (a0 a1 : Value) (H : AHeap) (K0 : K) : Res :=
Yb (lenS a0) H fun t8 h1 =>
Yb (lenS a1) h1 fun t10 h2 =>
Yb (Yf P .neq T.int (.tmp 8) (.tmp 10) t8 t10) h2 fun t11 h3 =>
mc t11 (fun k1 => k1 .ret [(4, (.bool false))] h3) (fun k1 =>
k1 .normal [(0, a0), (1, a1)] h3) (Ys (fun tT h4 =>
Yb (lenS (get tT 0)) h4 fun t13 h5 =>
ms (fun k2 =>
L0 (get tT 1) (get tT 0) t13 (.int .i64 0) h5 (YI [] 0 k2)) (Ys (fun tT_1 h6 =>
K0 .ret [(4, (.bool true))] h6) K0)) K0)
noncomputable def Vu (mg : GT) (mc : CT) (ms : ST) (P : Program) (C : Yc) (L0 : Value → Value → Value → Value → AHeap → K → Res) (v1 v12 v13 v14 : Value) (H : AHeap) (k : K) : Res :=
Yb (Yf P .lss T.int (.tmp 14) (.tmp 13) v14 v13) H fun t15 h6 =>
mc t15 (fun k3 => k3 .normal [(1, v1), (12, v12), (13, v13), (14, v14)] h6) (fun k3 =>
k3 (.exit 0) [(15, t15), (1, v1), (12, v12), (13, v13), (14, v14)] h6) (Ys (fun tT h7 =>
ms (fun k4 =>
Yb (ixS 5 (get tT 12) (get tT 14)) h7 fun t17 h8 =>
Yb (ldN 5 h8 t17) h8 fun t18 h9 =>
Yp (XT T.api_Cell (.agg #[(.int .i64 0), (.int .u64 0), (.int .i64 0), (.string (mk [])), (.bool false)]) h9) fun t6 h10 =>
Yr (stN 5 h10 t6 t18) fun _ h11 =>
Yb (ldN 5 h11 t6) h11 fun t19 h12 =>
Yb (ixS 1 (get tT 1) (get tT 14)) h12 fun t22 h13 =>
Yb (ld1 h13 t22) h13 fun t23 h14 =>
Yh C F.rows_proper [t19, t23] h14 fun t24 h15 =>
Yb (xun P .not t24) h15 fun t25 h16 =>
Xy true <|
mc t25 (fun k5 => k5 .ret [(4, (.bool false))] h16) (fun k5 =>
k5 .normal [(1, (get tT 1)), (12, (get tT 12)), (13, (get tT 13)), (14, (get tT 14))] h16) (YI [1, 12, 13, 14] 1 k4)) (Ys (fun tT_1 h17 =>
Yb (Yf P .add T.int (.tmp 14) (.const (.int .i64 1)) (get tT_1 14) (.int .i64 1)) h17 fun t26 h18 =>
k .normal [(1, (get tT_1 1)), (12, (get tT_1 12)), (13, (get tT_1 13)), (14, t26)] h18) (Yl [1, 12, 13, 14] k))) (Yl [1, 12, 13, 14] k))
theorem s_rows_are_eq (M : CombL) (C : Yc) (LP : Yv) (a0 a1 : Value) (H : AHeap) : Yy M Tryd.prog hints C LP F.rows_are [a0, a1] H = Um M.b.g M.c M.s Tryd.prog C (fun v1 v12 v13 v14 H k => YH M Tryd.prog hints C LP F.rows_are 0 [(1, v1), (12, v12), (13, v13), (14, v14)] H k) a0 a1 H (Yi Tryd.prog [.tmp 4]) := by kernel_rfl
theorem s_rows_are_b0_eq (M : CombL) (C : Yc) (LP : Yv) (v1 v12 v13 v14 : Value) (H : AHeap) (k : K) : Uz M Tryd.prog hints C LP F.rows_are 0 [(1, v1), (12, v12), (13, v13), (14, v14)] H (Yl [1, 12, 13, 14] k) = Vu M.b.g M.c M.s Tryd.prog C (fun v1 v12 v13 v14 H k => YH M Tryd.prog hints C LP F.rows_are 0 [(1, v1), (12, v12), (13, v13), (14, v14)] H k) v1 v12 v13 v14 H k := by kernel_rfl
noncomputable def Uw (mg : GT) (mc : CT) (ms : ST) (P : Program) (C : Yc) (L0 : Value → Value → Value → Value → AHeap → K → Res) (a0 a1 : Value) (H : AHeap) (K0 : K) : Res :=
Yb (lenS a1) H fun t8 h1 =>
ms (fun k1 =>
L0 a0 a1 t8 (.int .i64 0) h1 (YI [0] 0 k1)) (Ys (fun tT h2 =>
Yp (YP P T.sl_uint8 T.string (get tT 0) h2) fun t18 h3 =>
K0 .ret [(4, t18)] h3) K0)
noncomputable def UO (mg : GT) (mc : CT) (ms : ST) (P : Program) (C : Yc) (L0 : Value → Value → Value → Value → AHeap → K → Res) (v0 v7 v8 v9 : Value) (H : AHeap) (k : K) : Res :=
Yb (Yf P .lss T.int (.tmp 9) (.tmp 8) v9 v8) H fun t10 h2 =>
mc t10 (fun k2 => k2 .normal [(0, v0), (7, v7), (8, v8), (9, v9)] h2) (fun k2 =>
k2 (.exit 0) [(10, t10), (0, v0), (7, v7), (8, v8), (9, v9)] h2) (Ys (fun tT h3 =>
ms (fun k3 =>
Yb (ixS 5 (get tT 7) (get tT 9)) h3 fun t11 h4 =>
Yb (ldN 5 h4 t11) h4 fun t12 h5 =>
Yp (XT T.api_Cell (.agg #[(.int .i64 0), (.int .u64 0), (.int .i64 0), (.string (mk [])), (.bool false)]) h5) fun t6 h6 =>
Yr (stN 5 h6 t6 t12) fun _ h7 =>
Yb (ldN 5 h7 t6) h7 fun t14 h8 =>
Yh C F.rows_put [(get tT 0), t14] h8 fun t15 h9 =>
k3 .normal [(0, t15), (7, (get tT 7)), (8, (get tT 8)), (9, (get tT 9))] h9) (Ys (fun tT_1 h10 =>
Yb (Yf P .add T.int (.tmp 9) (.const (.int .i64 1)) (get tT_1 9) (.int .i64 1)) h10 fun t16 h11 =>
k .normal [(0, (get tT_1 0)), (7, (get tT_1 7)), (8, (get tT_1 8)), (9, t16)] h11) (Yl [0, 7, 8, 9] k))) (Yl [0, 7, 8, 9] k))
theorem s_rows_puts_eq (M : CombL) (C : Yc) (LP : Yv) (a0 a1 : Value) (H : AHeap) : Yy M Tryd.prog hints C LP F.rows_puts [a0, a1] H = Uw M.b.g M.c M.s Tryd.prog C (fun v0 v7 v8 v9 H k => YH M Tryd.prog hints C LP F.rows_puts 0 [(0, v0), (7, v7), (8, v8), (9, v9)] H k) a0 a1 H (Yi Tryd.prog [.tmp 4]) := by kernel_rfl
theorem s_rows_puts_b0_eq (M : CombL) (C : Yc) (LP : Yv) (v0 v7 v8 v9 : Value) (H : AHeap) (k : K) : Uz M Tryd.prog hints C LP F.rows_puts 0 [(0, v0), (7, v7), (8, v8), (9, v9)] H (Yl [0, 7, 8, 9] k) = UO M.b.g M.c M.s Tryd.prog C (fun v0 v7 v8 v9 H k => YH M Tryd.prog hints C LP F.rows_puts 0 [(0, v0), (7, v7), (8, v8), (9, v9)] H k) v0 v7 v8 v9 H k := by kernel_rfl
noncomputable def Xx (mg : GT) (mc : CT) (ms : ST) (P : Program) (C : Yc) (L0 : Value → Value → Value → Value → Value → AHeap → K → Res) (L1 : Value → Value → Value → Value → AHeap → K → Res) (a0 : Value) (H : AHeap) (K0 : K) : Res :=
Yb (lenS a0) H fun t10 h1 =>
ms (fun k1 =>
L0 a0 (.int .i64 0) a0 t10 (.int .i64 0) h1 (YI [0, 3] 0 k1)) (Ys (fun tT h2 =>
Yh C F.slices_Grow_CellKind [(.slice none 0 0), (get tT 3)] h2 fun t24 h3 =>
Yb (lenS (get tT 0)) h3 fun t26 h4 =>
ms (fun k2 =>
L1 t24 (get tT 0) t26 (.int .i64 0) h4 (YI [6] 2 k2)) (Ys (fun tT_1 h5 =>
K0 .ret [(2, (get tT_1 6))] h5) K0)) K0)
noncomputable def Y9 (mg : GT) (mc : CT) (ms : ST) (P : Program) (C : Yc) (L0 : Value → Value → Value → Value → Value → AHeap → K → Res) (L1 : Value → Value → Value → Value → AHeap → K → Res) (v0 v3 v9 v10 v11 : Value) (H : AHeap) (k : K) : Res :=
Yb (Yf P .lss T.int (.tmp 11) (.tmp 10) v11 v10) H fun t12 h2 =>
mc t12 (fun k2 => k2 .normal [(0, v0), (3, v3), (9, v9), (10, v10), (11, v11)] h2) (fun k2 =>
k2 (.exit 0) [(12, t12), (0, v0), (3, v3), (9, v9), (10, v10), (11, v11)] h2) (Ys (fun tT h3 =>
ms (fun k3 =>
Yb (ixS 1 (get tT 9) (get tT 11)) h3 fun t13 h4 =>
Yb (ld1 h4 t13) h4 fun t14 h5 =>
Yb (lenS t14) h5 fun t17 h6 =>
Yb (Yf P .add T.int (.tmp 15) (.tmp 17) (get tT 3) t17) h6 fun t18 h7 =>
Yb (Yf P .lss T.int (.tmp 19) (.const (.int .i64 0)) t18 (.int .i64 0)) h7 fun t20 h8 =>
mc t20 (fun k4 => none) (fun k4 =>
k4 .normal [(0, (get tT 0)), (3, t18), (9, (get tT 9)), (10, (get tT 10)), (11, (get tT 11))] h8) (YI [0, 3, 9, 10, 11] 1 k3)) (Ys (fun tT_1 h9 =>
Yb (Yf P .add T.int (.tmp 11) (.const (.int .i64 1)) (get tT_1 11) (.int .i64 1)) h9 fun t22 h10 =>
k .normal [(0, (get tT_1 0)), (3, (get tT_1 3)), (9, (get tT_1 9)), (10, (get tT_1 10)), (11, t22)] h10) (Yl [0, 3, 9, 10, 11] k))) (Yl [0, 3, 9, 10, 11] k))
noncomputable def Xa (mg : GT) (mc : CT) (ms : ST) (P : Program) (C : Yc) (L0 : Value → Value → Value → Value → Value → AHeap → K → Res) (L1 : Value → Value → Value → Value → AHeap → K → Res) (v6 v25 v26 v27 : Value) (H : AHeap) (k : K) : Res :=
Yb (Yf P .lss T.int (.tmp 27) (.tmp 26) v27 v26) H fun t28 h5 =>
mc t28 (fun k3 => k3 .normal [(6, v6), (25, v25), (26, v26), (27, v27)] h5) (fun k3 =>
k3 (.exit 2) [(28, t28), (6, v6), (25, v25), (26, v26), (27, v27)] h5) (Ys (fun tT h6 =>
ms (fun k4 =>
Yb (ixS 1 (get tT 25) (get tT 27)) h6 fun t29 h7 =>
Yb (ld1 h7 t29) h7 fun t30 h8 =>
Yp (app T.api_CellKind 1 8 (get tT 6) (Vn 1 t30 h8) h8) fun t33 h9 =>
k4 .normal [(6, t33), (25, (get tT 25)), (26, (get tT 26)), (27, (get tT 27))] h9) (Ys (fun tT_1 h10 =>
Yb (Yf P .add T.int (.tmp 27) (.const (.int .i64 1)) (get tT_1 27) (.int .i64 1)) h10 fun t34 h11 =>
k .normal [(6, (get tT_1 6)), (25, (get tT_1 25)), (26, (get tT_1 26)), (27, t34)] h11) (Yl [6, 25, 26, 27] k))) (Yl [6, 25, 26, 27] k))
theorem QG (M : CombL) (C : Yc) (LP : Yv) (a0 : Value) (H : AHeap) : Yy M Tryd.prog hints C LP F.slices_Concat_CellKind [a0] H = Xx M.b.g M.c M.s Tryd.prog C (fun v0 v3 v9 v10 v11 H k => YH M Tryd.prog hints C LP F.slices_Concat_CellKind 0 [(0, v0), (3, v3), (9, v9), (10, v10), (11, v11)] H k) (fun v6 v25 v26 v27 H k => YH M Tryd.prog hints C LP F.slices_Concat_CellKind 1 [(6, v6), (25, v25), (26, v26), (27, v27)] H k) a0 H (Yi Tryd.prog [.tmp 2]) := by kernel_rfl
theorem U1 (M : CombL) (C : Yc) (LP : Yv) (v0 v3 v9 v10 v11 : Value) (H : AHeap) (k : K) : Uz M Tryd.prog hints C LP F.slices_Concat_CellKind 0 [(0, v0), (3, v3), (9, v9), (10, v10), (11, v11)] H (Yl [0, 3, 9, 10, 11] k) = Y9 M.b.g M.c M.s Tryd.prog C (fun v0 v3 v9 v10 v11 H k => YH M Tryd.prog hints C LP F.slices_Concat_CellKind 0 [(0, v0), (3, v3), (9, v9), (10, v10), (11, v11)] H k) (fun v6 v25 v26 v27 H k => YH M Tryd.prog hints C LP F.slices_Concat_CellKind 1 [(6, v6), (25, v25), (26, v26), (27, v27)] H k) v0 v3 v9 v10 v11 H k := by kernel_rfl
theorem U5 (M : CombL) (C : Yc) (LP : Yv) (v6 v25 v26 v27 : Value) (H : AHeap) (k : K) : Uz M Tryd.prog hints C LP F.slices_Concat_CellKind 1 [(6, v6), (25, v25), (26, v26), (27, v27)] H (Yl [6, 25, 26, 27] k) = Xa M.b.g M.c M.s Tryd.prog C (fun v0 v3 v9 v10 v11 H k => YH M Tryd.prog hints C LP F.slices_Concat_CellKind 0 [(0, v0), (3, v3), (9, v9), (10, v10), (11, v11)] H k) (fun v6 v25 v26 v27 H k => YH M Tryd.prog hints C LP F.slices_Concat_CellKind 1 [(6, v6), (25, v25), (26, v26), (27, v27)] H k) v6 v25 v26 v27 H k := by kernel_rfl
noncomputable def XO (mg : GT) (mc : CT) (ms : ST) (P : Program) (C : Yc) (a0 a1 a2 a3 : Value) (H : AHeap) (K0 : K) : Res :=
Yp (XT T.api_Pair a3 H) fun t7 h1 =>
ms (fun k1 =>
mc a2 (fun k2 => Yb (Yz a0) h1 fun t23 h2 =>
Yb (fad 0 t23) h2 fun t24 h3 =>
Yb (ld1 h3 t24) h3 fun t25 h4 =>
Yb (ldN 2 h4 t7) h4 fun t27 h5 =>
Yb (ixS 2 t25 a1) h5 fun t28 h6 =>
Yr (stN 2 h6 t28 t27) fun _ h7 =>
Xy true <|
k2 .normal [] h7) (fun k2 =>
Yb (Yz a0) h1 fun t31 h8 =>
Yb (fad 0 t31) h8 fun t32 h9 =>
Yb (ld1 h9 t32) h9 fun t33 h10 =>
Yb (lenS t33) h10 fun t34 h11 =>
Yb (Yf P .eql T.int (.tmp 34) (.const (.int .i64 20000)) t34 (.int .i64 20000)) h11 fun t35 h12 =>
mc t35 (fun k3 => k3 .ret [(8, (.int .i64 7))] h12) (fun k3 =>
Yb (Yz a0) h12 fun t11 h13 =>
Yb (fad 0 t11) h13 fun t12 h14 =>
Yb (ld1 h14 t12) h14 fun t13 h15 =>
Yb (ldN 2 h15 t7) h15 fun t15 h16 =>
Yp (UC T.api_Pair [(.string (mk [])), (.string (mk []))] 1 [(0, t15)] h16) fun t16 h17 =>
Yh C F.slices_Insert_Pair [t13, a1, t16] h17 fun t17 h18 =>
Yb (Yz a0) h18 fun t18 h19 =>
Yb (fad 0 t18) h19 fun t19 h20 =>
Yr (st1 h20 t19 t17) fun _ h21 =>
Xy (okV (some true) none h17 h18 h12 h12 && true) <|
k3 .normal [] h21) (Yl [] k2)) (YI [] 0 k1)) (Ys (fun tT h22 =>
K0 .ret [(8, (.int .i64 0))] h22) K0)
theorem s_model_Model_set_eq (M : CombL) (C : Yc) (LP : Yv) (a0 a1 a2 a3 : Value) (H : AHeap) : Yy M Tryd.prog hints C LP F.model_Model_set [a0, a1, a2, a3] H = XO M.b.g M.c M.s Tryd.prog C a0 a1 a2 a3 H (Yi Tryd.prog [.tmp 8]) := by kernel_rfl
noncomputable def YM (mg : GT) (mc : CT) (ms : ST) (P : Program) (C : Yc) (L0 : Value → Value → Value → Value → Value → Value → AHeap → K → Res) (a0 a1 a2 : Value) (H : AHeap) (K0 : K) : Res :=
Yb (lenS a0) H fun t13 h1 =>
ms (fun k1 =>
L0 a0 a1 a2 t13 (.int .i64 0) t13 h1 (YI [0, 1, 2, 8, 9] 0 k1)) (Ys (fun tT h2 =>
Yb (Yf P .lss T.int (.tmp 36) (.tmp 37) (get tT 9) (get tT 8)) h2 fun t38 h3 =>
mg t38 true (fun o2 => o2 (get tT 2) h3) h3 fun t40 h4 =>
mg t38 true (fun o3 => o3 (get tT 0) h4) h4 fun t41 h5 =>
mg t38 true (fun o4 => o4 (get tT 9) h5) h5 fun t42 h6 =>
mg t38 true (fun o5 => Yb (ixS 2 t41 t42) h6 o5) h6 fun t43 h7 =>
mg t38 true (fun o6 => Yb (ldN 2 h7 t43) h7 o6) h7 fun t44 h8 =>
mg t38 true (fun o7 => o7 (get tT 1) h8) h8 fun t45 h9 =>
mg t38 true (fun o8 => Qr P C t40 [t44, t45] h9 o8) h9 fun t46 h10 =>
mg t38 true (fun o9 => Yb (Yf P .eql T.int (.tmp 46) (.const (.int .i64 0)) t46 (.int .i64 0)) h10 o9) h10 fun t47 h11 =>
YQ t38 t47 (.bool false) fun t48 =>
K0 .ret [(6, (get tT 9)), (7, t48)] h11) K0)
noncomputable def YS (mg : GT) (mc : CT) (ms : ST) (P : Program) (C : Yc) (L0 : Value → Value → Value → Value → Value → Value → AHeap → K → Res) (v0 v1 v2 v8 v9 v10 : Value) (H : AHeap) (k : K) : Res :=
Yb (Yf P .lss T.int (.tmp 15) (.tmp 16) v9 v10) H fun t17 h2 =>
mc t17 (fun k2 => k2 .normal [(0, v0), (1, v1), (2, v2), (8, v8), (9, v9), (10, v10)] h2) (fun k2 =>
k2 (.exit 0) [(17, t17), (16, v10), (15, v9), (0, v0), (1, v1), (2, v2), (8, v8), (9, v9), (10, v10)] h2) (Ys (fun tT h3 =>
ms (fun k3 =>
Yb (Yf P .add T.int (.tmp 18) (.tmp 19) (get tT 9) (get tT 10)) h3 fun t20 h4 =>
Yp (YP P T.int T.uint t20 h4) fun t21 h5 =>
Yb (Yf P .shr T.uint (.tmp 21) (.const (.int .u64 1)) t21 (.int .u64 1)) h5 fun t22 h6 =>
Yp (YP P T.uint T.int t22 h6) fun t23 h7 =>
Yb (ixS 2 (get tT 0) t23) h7 fun t27 h8 =>
Yb (ldN 2 h8 t27) h8 fun t28 h9 =>
Qr P C (get tT 2) [t28, (get tT 1)] h9 fun t30 h10 =>
Yb (Yf P .lss T.int (.tmp 30) (.const (.int .i64 0)) t30 (.int .i64 0)) h10 fun t31 h11 =>
mc t31 (fun k4 => Yb (Yf P .add T.int (.tmp 32) (.const (.int .i64 1)) t23 (.int .i64 1)) h11 fun t33 h12 =>
k4 .normal [(0, (get tT 0)), (1, (get tT 1)), (2, (get tT 2)), (8, (get tT 8)), (9, t33), (10, (get tT 10))] h12) (fun k4 =>
k4 .normal [(0, (get tT 0)), (1, (get tT 1)), (2, (get tT 2)), (8, (get tT 8)), (9, (get tT 9)), (10, t23)] h11) (YI [0, 1, 2, 8, 9, 10] 1 k3)) (Yl [0, 1, 2, 8, 9, 10] k)) (Yl [0, 1, 2, 8, 9, 10] k))
theorem Ua (M : CombL) (C : Yc) (LP : Yv) (a0 a1 a2 : Value) (H : AHeap) : Yy M Tryd.prog hints C LP F.slices_BinarySearchFunc_string [a0, a1, a2] H = YM M.b.g M.c M.s Tryd.prog C (fun v0 v1 v2 v8 v9 v10 H k => YH M Tryd.prog hints C LP F.slices_BinarySearchFunc_string 0 [(0, v0), (1, v1), (2, v2), (8, v8), (9, v9), (10, v10)] H k) a0 a1 a2 H (Yi Tryd.prog [.tmp 6, .tmp 7]) := by kernel_rfl
theorem VS (M : CombL) (C : Yc) (LP : Yv) (v0 v1 v2 v8 v9 v10 : Value) (H : AHeap) (k : K) : Uz M Tryd.prog hints C LP F.slices_BinarySearchFunc_string 0 [(0, v0), (1, v1), (2, v2), (8, v8), (9, v9), (10, v10)] H (Yl [0, 1, 2, 8, 9, 10] k) = YS M.b.g M.c M.s Tryd.prog C (fun v0 v1 v2 v8 v9 v10 H k => YH M Tryd.prog hints C LP F.slices_BinarySearchFunc_string 0 [(0, v0), (1, v1), (2, v2), (8, v8), (9, v9), (10, v10)] H k) v0 v1 v2 v8 v9 v10 H k := by kernel_rfl
noncomputable def XZ (mg : GT) (mc : CT) (ms : ST) (P : Program) (C : Yc) (a0 a1 : Value) (H : AHeap) (K0 : K) : Res :=
Yp (XT T.api_Pair a0 H) fun t2 h1 =>
Yb (fad 0 t2) h1 fun t5 h2 =>
Yb (ld1 h2 t5) h2 fun t6 h3 =>
Yh C F.keys_Compare [t6, a1] h3 fun t8 h4 =>
K0 .ret [(4, t8)] h4
theorem Zp (M : CombL) (C : Yc) (LP : Yv) (a0 a1 : Value) (H : AHeap) : Yy M Tryd.prog hints C LP F.model_Model_place_1 [a0, a1] H = XZ M.b.g M.c M.s Tryd.prog C a0 a1 H (Yi Tryd.prog [.tmp 4]) := by kernel_rfl
noncomputable def VU (mg : GT) (mc : CT) (ms : ST) (P : Program) (C : Yc) (a0 a1 : Value) (H : AHeap) (K0 : K) : Res :=
Yh C F.strings_Compare [a0, a1] H fun t7 h1 =>
K0 .ret [(4, t7)] h1
theorem s_keys_Compare_eq (M : CombL) (C : Yc) (LP : Yv) (a0 a1 : Value) (H : AHeap) : Yy M Tryd.prog hints C LP F.keys_Compare [a0, a1] H = VU M.b.g M.c M.s Tryd.prog C a0 a1 H (Yi Tryd.prog [.tmp 4]) := by kernel_rfl
noncomputable def Wv (mg : GT) (mc : CT) (ms : ST) (P : Program) (C : Yc) (a0 a1 : Value) (H : AHeap) (K0 : K) : Res :=
ms (fun k1 =>
Yb (Yf P .eql T.string (.tmp 6) (.const (.string (mk []))) a0 (.string (mk []))) H fun t7 h1 =>
mc t7 (fun k2 => k2 .ret [(4, (.int .i64 2))] h1) (fun k2 =>
Yb (lenT a0) h1 fun t10 h2 =>
Yb (Yf P .gtr T.int (.tmp 10) (.const (.int .i64 24)) t10 (.int .i64 24)) h2 fun t11 h3 =>
mg t11 false (fun o3 => o3 a1 h3) h3 fun t13 h4 =>
mg t11 false (fun o4 => Yh C F.slices_ContainsFunc_string [t13, (.func (.func F.model_check_1) #[] #[])] h4 o4) h4 fun t14 h5 =>
YQ t11 (.bool true) t14 fun t15 =>
mc t15 (fun k5 => k5 .ret [(4, (.int .i64 5))] h5) (fun k5 =>
k5 .normal [] h5) (Yl [] k2)) (YI [] 0 k1)) (Ys (fun tT h6 =>
K0 .ret [(4, (.int .i64 0))] h6) K0)
theorem s_model_check_eq (M : CombL) (C : Yc) (LP : Yv) (a0 a1 : Value) (H : AHeap) : Yy M Tryd.prog hints C LP F.model_check [a0, a1] H = Wv M.b.g M.c M.s Tryd.prog C a0 a1 H (Yi Tryd.prog [.tmp 4]) := by kernel_rfl
noncomputable def YV (mg : GT) (mc : CT) (ms : ST) (P : Program) (C : Yc) (a0 a1 : Value) (H : AHeap) (K0 : K) : Res :=
Yh C F.slices_IndexFunc_CellKind [a0, a1] H fun t7 h1 =>
Yb (Yf P .geq T.int (.tmp 7) (.const (.int .i64 0)) t7 (.int .i64 0)) h1 fun t8 h2 =>
K0 .ret [(4, t8)] h2
theorem UB (M : CombL) (C : Yc) (LP : Yv) (a0 a1 : Value) (H : AHeap) : Yy M Tryd.prog hints C LP F.slices_ContainsFunc_CellKind [a0, a1] H = YV M.b.g M.c M.s Tryd.prog C a0 a1 H (Yi Tryd.prog [.tmp 4]) := by kernel_rfl
noncomputable def VR (mg : GT) (mc : CT) (ms : ST) (P : Program) (C : Yc) (a0 : Value) (H : AHeap) (K0 : K) : Res :=
Yh C F.rows_kind [a0] H fun t4 h1 =>
Yb (xun P .not t4) h1 fun t5 h2 =>
K0 .ret [(2, t5)] h2
theorem s_rows_Valid_1_eq (M : CombL) (C : Yc) (LP : Yv) (a0 : Value) (H : AHeap) : Yy M Tryd.prog hints C LP F.rows_Valid_1 [a0] H = VR M.b.g M.c M.s Tryd.prog C a0 H (Yi Tryd.prog [.tmp 2]) := by kernel_rfl
noncomputable def Us (mg : GT) (mc : CT) (ms : ST) (P : Program) (C : Yc) (a0 : Value) (H : AHeap) (K0 : K) : Res :=
Yb (Yf P .geq T.api_CellKind (.tmp 3) (.const (.int .i64 1)) a0 (.int .i64 1)) H fun t4 h1 =>
mg t4 true (fun o1 => o1 a0 h1) h1 fun t6 h2 =>
mg t4 true (fun o2 => Yb (Yf P .leq T.api_CellKind (.tmp 6) (.const (.int .i64 4)) t6 (.int .i64 4)) h2 o2) h2 fun t7 h3 =>
YQ t4 t7 (.bool false) fun t8 =>
K0 .ret [(2, t8)] h3
theorem s_rows_kind_eq (M : CombL) (C : Yc) (LP : Yv) (a0 : Value) (H : AHeap) : Yy M Tryd.prog hints C LP F.rows_kind [a0] H = Us M.b.g M.c M.s Tryd.prog C a0 H (Yi Tryd.prog [.tmp 2]) := by kernel_rfl
noncomputable def W0 (mg : GT) (mc : CT) (ms : ST) (P : Program) (C : Yc) (L0 : Value → Value → Value → Value → Value → Value → Value → AHeap → K → Res) (a0 a1 a2 : Value) (H : AHeap) (K0 : K) : Res :=
Yb (Yf P .gtr T.int (.tmp 12) (.const (.int .i64 8)) a1 (.int .i64 8)) H fun t13 h1 =>
mg t13 false (fun o1 => o1 a1 h1) h1 fun t15 h2 =>
mg t13 false (fun o2 => o2 a0 h2) h2 fun t16 h3 =>
mg t13 false (fun o3 => Yb (lenT t16) h3 o3) h3 fun t17 h4 =>
mg t13 false (fun o4 => Yb (Yf P .gtr T.int (.tmp 15) (.tmp 17) t15 t17) h4 o4) h4 fun t18 h5 =>
YQ t13 (.bool true) t18 fun t19 =>
mc t19 (fun k5 => k5 .ret [(6, (.int .u64 0)), (7, (.string (mk []))), (8, (.bool false))] h5) (fun k5 =>
k5 .normal [(0, a0), (1, a1), (2, a2)] h5) (Ys (fun tT h6 =>
Yb (slT (get tT 0) none (some (get tT 1))) h6 fun t22 h7 =>
Yp (YP P T.string T.sl_uint8 t22 h7) fun t23 h8 =>
Yb (lenS t23) h8 fun t24 h9 =>
ms (fun k6 =>
L0 (get tT 0) (get tT 1) (get tT 2) (.int .u64 0) t23 t24 (.int .i64 0) h9 (YI [0, 1, 9] 0 k6)) (Ys (fun tT_1 h10 =>
Yb (slT (get tT_1 0) (some (get tT_1 1)) none) h10 fun t41 h11 =>
Xy true <|
K0 .ret [(6, (get tT_1 9)), (7, t41), (8, (.bool true))] h11) K0)) K0)
noncomputable def Vb (mg : GT) (mc : CT) (ms : ST) (P : Program) (C : Yc) (L0 : Value → Value → Value → Value → Value → Value → Value → AHeap → K → Res) (v0 v1 v2 v9 v23 v24 v25 : Value) (H : AHeap) (k : K) : Res :=
Yb (Yf P .lss T.int (.tmp 25) (.tmp 24) v25 v24) H fun t26 h10 =>
mc t26 (fun k7 => k7 .normal [(0, v0), (1, v1), (2, v2), (9, v9), (23, v23), (24, v24), (25, v25)] h10) (fun k7 =>
k7 (.exit 0) [(26, t26), (0, v0), (1, v1), (2, v2), (9, v9), (23, v23), (24, v24), (25, v25)] h10) (Ys (fun tT h11 =>
ms (fun k8 =>
Yb (ixS 1 (get tT 23) (get tT 25)) h11 fun t27 h12 =>
Yb (ld1 h12 t27) h12 fun t28 h13 =>
mc (get tT 2) (fun k9 => Yb (Yf P .sub T.uint8 (.const (.int .u8 255)) (.tmp 30) (.int .u8 255) t28) h13 fun t31 h14 =>
k9 .normal [(0, (get tT 0)), (1, (get tT 1)), (2, (get tT 2)), (9, (get tT 9)), (11, t31), (23, (get tT 23)), (24, (get tT 24)), (25, (get tT 25))] h14) (fun k9 =>
k9 .normal [(0, (get tT 0)), (1, (get tT 1)), (2, (get tT 2)), (9, (get tT 9)), (11, t28), (23, (get tT 23)), (24, (get tT 24)), (25, (get tT 25))] h13) (Ys (fun tT_1 h15 =>
Yb (Yf P .shl T.uint64 (.tmp 32) (.const (.int .u64 8)) (get tT_1 9) (.int .u64 8)) h15 fun t33 h16 =>
Yp (YP P T.uint8 T.uint64 (get tT_1 11) h16) fun t35 h17 =>
Yb (Yf P .or T.uint64 (.tmp 33) (.tmp 35) t33 t35) h17 fun t36 h18 =>
k8 .normal [(0, (get tT_1 0)), (1, (get tT_1 1)), (2, (get tT_1 2)), (9, t36), (23, (get tT_1 23)), (24, (get tT_1 24)), (25, (get tT_1 25))] h18) (YI [0, 1, 2, 9, 23, 24, 25] 1 k8))) (Ys (fun tT_2 h19 =>
Yb (Yf P .add T.int (.tmp 25) (.const (.int .i64 1)) (get tT_2 25) (.int .i64 1)) h19 fun t37 h20 =>
k .normal [(0, (get tT_2 0)), (1, (get tT_2 1)), (2, (get tT_2 2)), (9, (get tT_2 9)), (23, (get tT_2 23)), (24, (get tT_2 24)), (25, t37)] h20) (Yl [0, 1, 2, 9, 23, 24, 25] k))) (Yl [0, 1, 2, 9, 23, 24, 25] k))
theorem s_rows_number_eq (M : CombL) (C : Yc) (LP : Yv) (a0 a1 a2 : Value) (H : AHeap) : Yy M Tryd.prog hints C LP F.rows_number [a0, a1, a2] H = W0 M.b.g M.c M.s Tryd.prog C (fun v0 v1 v2 v9 v23 v24 v25 H k => YH M Tryd.prog hints C LP F.rows_number 0 [(0, v0), (1, v1), (2, v2), (9, v9), (23, v23), (24, v24), (25, v25)] H k) a0 a1 a2 H (Yi Tryd.prog [.tmp 6, .tmp 7, .tmp 8]) := by kernel_rfl
theorem s_rows_number_b0_eq (M : CombL) (C : Yc) (LP : Yv) (v0 v1 v2 v9 v23 v24 v25 : Value) (H : AHeap) (k : K) : Uz M Tryd.prog hints C LP F.rows_number 0 [(0, v0), (1, v1), (2, v2), (9, v9), (23, v23), (24, v24), (25, v25)] H (Yl [0, 1, 2, 9, 23, 24, 25] k) = Vb M.b.g M.c M.s Tryd.prog C (fun v0 v1 v2 v9 v23 v24 v25 H k => YH M Tryd.prog hints C LP F.rows_number 0 [(0, v0), (1, v1), (2, v2), (9, v9), (23, v23), (24, v24), (25, v25)] H k) v0 v1 v2 v9 v23 v24 v25 H k := by kernel_rfl
noncomputable def X6 (mg : GT) (mc : CT) (ms : ST) (P : Program) (C : Yc) (a0 a1 : Value) (H : AHeap) (K0 : K) : Res :=
Yp (XT T.api_Cell a0 H) fun t2 h1 =>
Yb (Ui #[(.int .i64 0), (.int .u64 0), (.int .i64 0), (.string (mk [])), (.bool false)] [(0, 1), (1, 1), (2, 1), (3, 1), (4, 1)] [(0, a1)]) h1 fun t7 h2 =>
Yp (XT T.api_Cell (.agg #[(.int .i64 0), (.int .u64 0), (.int .i64 0), (.string (mk [])), (.bool false)]) h2) fun t5 h3 =>
Yr (stN 5 h3 t5 t7) fun _ h4 =>
ms (fun k1 =>
Yb (Yf P .eql T.api_CellKind (.tmp 8) (.const (.int .i64 1)) a1 (.int .i64 1)) h4 fun t10 h5 =>
mc t10 (fun k2 => Yb (fad 1 t2) h5 fun t11 h6 =>
Yb (ld1 h6 t11) h6 fun t12 h7 =>
Yb (fad 1 t5) h7 fun t13 h8 =>
Yr (st1 h8 t13 t12) fun _ h9 =>
k2 .normal [(2, t2), (5, t5)] h9) (fun k2 =>
Yb (Yf P .eql T.api_CellKind (.tmp 8) (.const (.int .i64 2)) a1 (.int .i64 2)) h5 fun t15 h10 =>
mc t15 (fun k3 => Yb (fad 2 t2) h10 fun t16 h11 =>
Yb (ld1 h11 t16) h11 fun t17 h12 =>
Yb (fad 2 t5) h12 fun t18 h13 =>
Yr (st1 h13 t18 t17) fun _ h14 =>
k3 .normal [(2, t2), (5, t5)] h14) (fun k3 =>
Yb (Yf P .eql T.api_CellKind (.tmp 8) (.const (.int .i64 3)) a1 (.int .i64 3)) h10 fun t20 h15 =>
mc t20 (fun k4 => Yb (fad 3 t2) h15 fun t21 h16 =>
Yb (ld1 h16 t21) h16 fun t22 h17 =>
Yb (fad 3 t5) h17 fun t23 h18 =>
Yr (st1 h18 t23 t22) fun _ h19 =>
k4 .normal [(2, t2), (5, t5)] h19) (fun k4 =>
Yb (Yf P .eql T.api_CellKind (.tmp 8) (.const (.int .i64 4)) a1 (.int .i64 4)) h15 fun t25 h20 =>
mc t25 (fun k5 => Yb (fad 4 t2) h20 fun t26 h21 =>
Yb (ld1 h21 t26) h21 fun t27 h22 =>
Yb (fad 4 t5) h22 fun t28 h23 =>
Yr (st1 h23 t28 t27) fun _ h24 =>
k5 .normal [(2, t2), (5, t5)] h24) (fun k5 =>
k5 .normal [(2, t2), (5, t5)] h20) (Yl [2, 5] k4)) (Yl [2, 5] k3)) (Yl [2, 5] k2)) (YI [2, 5] 0 k1)) (Ys (fun tT h25 =>
Yb (ldN 5 h25 (get tT 5)) h25 fun t29 h26 =>
Yb (ldN 5 h26 (get tT 2)) h26 fun t30 h27 =>
Yb (Yf P .eql T.api_Cell (.tmp 29) (.tmp 30) t29 t30) h27 fun t31 h28 =>
K0 .ret [(4, t31)] h28) K0)
theorem s_rows_proper_eq (M : CombL) (C : Yc) (LP : Yv) (a0 a1 : Value) (H : AHeap) : Yy M Tryd.prog hints C LP F.rows_proper [a0, a1] H = X6 M.b.g M.c M.s Tryd.prog C a0 a1 H (Yi Tryd.prog [.tmp 4]) := by kernel_rfl
noncomputable def WZ (mg : GT) (mc : CT) (ms : ST) (P : Program) (C : Yc) (L0 : Value → Value → Value → Value → AHeap → K → Res) (a0 a1 : Value) (H : AHeap) (K0 : K) : Res :=
Yp (XT T.api_Cell a1 H) fun t3 h1 =>
Yb (fad 0 t3) h1 fun t9 h2 =>
Yb (ld1 h2 t9) h2 fun t10 h3 =>
ms (fun k1 =>
Yb (Yf P .eql T.api_CellKind (.tmp 10) (.const (.int .i64 1)) t10 (.int .i64 1)) h3 fun t12 h4 =>
mc t12 (fun k2 => Yb (fad 1 t3) h4 fun t13 h5 =>
Yb (ld1 h5 t13) h5 fun t14 h6 =>
Yh C F.rows_digits [t14] h6 fun t15 h7 =>
Yb (lenS t15) h7 fun t18 h8 =>
Yp (YP P T.int T.uint8 t18 h8) fun t19 h9 =>
Yp (UC T.uint8 [(.int .u8 0)] 1 [(0, t19)] h9) fun t20 h10 =>
Yp (app T.uint8 1 1 a0 (Vn 1 t20 h10) h10) fun t21 h11 =>
Yp (app T.uint8 1 1 t21 (Vn 1 t15 h11) h11) fun t23 h12 =>
k2 .ret [(4, t23)] h12) (fun k2 =>
Yb (Yf P .eql T.api_CellKind (.tmp 10) (.const (.int .i64 2)) t10 (.int .i64 2)) h4 fun t25 h13 =>
mc t25 (fun k3 => Yb (fad 2 t3) h13 fun t26 h14 =>
Yb (ld1 h14 t26) h14 fun t27 h15 =>
Yb (Yf P .geq T.int (.tmp 27) (.const (.int .i64 0)) t27 (.int .i64 0)) h15 fun t28 h16 =>
mc t28 (fun k4 => Yb (fad 2 t3) h16 fun t29 h17 =>
Yb (ld1 h17 t29) h17 fun t30 h18 =>
Yp (YP P T.int T.uint64 t30 h18) fun t31 h19 =>
Yh C F.rows_digits [t31] h19 fun t32 h20 =>
Yb (lenS t32) h20 fun t35 h21 =>
Yb (Yf P .add T.int (.const (.int .i64 128)) (.tmp 35) (.int .i64 128) t35) h21 fun t36 h22 =>
Yp (YP P T.int T.uint8 t36 h22) fun t37 h23 =>
Yp (UC T.uint8 [(.int .u8 0)] 1 [(0, t37)] h23) fun t38 h24 =>
Yp (app T.uint8 1 1 a0 (Vn 1 t38 h24) h24) fun t39 h25 =>
Yp (app T.uint8 1 1 t39 (Vn 1 t32 h25) h25) fun t41 h26 =>
k4 .ret [(4, t41)] h26) (fun k4 =>
k4 .normal [(0, a0), (3, t3)] h16) (Ys (fun tT h27 =>
Yb (fad 2 (get tT 3)) h27 fun t42 h28 =>
Yb (ld1 h28 t42) h28 fun t43 h29 =>
Yb (Yf P .add T.int (.tmp 43) (.const (.int .i64 1)) t43 (.int .i64 1)) h29 fun t44 h30 =>
Yb (xun P .neg t44) h30 fun t45 h31 =>
Yp (YP P T.int T.uint64 t45 h31) fun t46 h32 =>
Yh C F.rows_digits [t46] h32 fun t47 h33 =>
Yb (lenS t47) h33 fun t49 h34 =>
ms (fun k5 =>
L0 (get tT 0) t47 t49 (.int .i64 0) h34 (YI [0, 7] 1 k5)) (Ys (fun tT_1 h35 =>
Yb (lenS (get tT_1 7)) h35 fun t64 h36 =>
Yb (Yf P .sub T.int (.const (.int .i64 127)) (.tmp 64) (.int .i64 127) t64) h36 fun t65 h37 =>
Yp (YP P T.int T.uint8 t65 h37) fun t66 h38 =>
Yp (UC T.uint8 [(.int .u8 0)] 1 [(0, t66)] h38) fun t67 h39 =>
Yp (app T.uint8 1 1 (get tT_1 0) (Vn 1 t67 h39) h39) fun t68 h40 =>
Yp (app T.uint8 1 1 t68 (Vn 1 (get tT_1 7) h40) h40) fun t70 h41 =>
k3 .ret [(4, t70)] h41) (Yl [0, 3] k3))) (Yl [0, 3] k3))) (fun k3 =>
Yb (Yf P .eql T.api_CellKind (.tmp 10) (.const (.int .i64 3)) t10 (.int .i64 3)) h13 fun t72 h42 =>
mc t72 (fun k6 => Yb (fad 3 t3) h42 fun t74 h43 =>
Yb (ld1 h43 t74) h43 fun t75 h44 =>
Yh C F.strings_ReplaceAll [t75, (.string (mk [0])), (.string (mk [0, 255]))] h44 fun t76 h45 =>
Yp (app T.uint8 1 1 a0 (srcT t76) h45) fun t77 h46 =>
Yp (UC T.uint8 [(.int .u8 0)] 2 [(0, (.int .u8 0)), (1, (.int .u8 1))] h46) fun t78 h47 =>
Yp (app T.uint8 1 1 t77 (Vn 1 t78 h47) h47) fun t79 h48 =>
k6 .ret [(4, t79)] h48) (fun k6 =>
k6 .normal [(0, a0), (3, t3)] h42) (Yl [0, 3] k3)) (Yl [0, 3] k2)) (YI [0, 3] 0 k1)) (Ys (fun tT_2 h49 =>
Yb (fad 4 (get tT_2 3)) h49 fun t80 h50 =>
Yb (ld1 h50 t80) h50 fun t81 h51 =>
mc t81 (fun k7 => Yp (UC T.uint8 [(.int .u8 0)] 1 [(0, (.int .u8 1))] h51) fun t83 h52 =>
Yp (app T.uint8 1 1 (get tT_2 0) (Vn 1 t83 h52) h52) fun t84 h53 =>
k7 .ret [(4, t84)] h53) (fun k7 =>
k7 .normal [(0, (get tT_2 0))] h51) (Ys (fun tT_3 h54 =>
Yp (UC T.uint8 [(.int .u8 0)] 1 [(0, (.int .u8 0))] h54) fun t86 h55 =>
Yp (app T.uint8 1 1 (get tT_3 0) (Vn 1 t86 h55) h55) fun t87 h56 =>
K0 .ret [(4, t87)] h56) K0)) K0)
noncomputable def Qa (mg : GT) (mc : CT) (ms : ST) (P : Program) (C : Yc) (L0 : Value → Value → Value → Value → AHeap → K → Res) (v0 v7 v49 v50 : Value) (H : AHeap) (k : K) : Res :=
Yb (Yf P .lss T.int (.tmp 50) (.tmp 49) v50 v49) H fun t51 h35 =>
mc t51 (fun k6 => k6 .normal [(0, v0), (7, v7), (49, v49), (50, v50)] h35) (fun k6 =>
k6 (.exit 1) [(51, t51), (0, v0), (7, v7), (49, v49), (50, v50)] h35) (Ys (fun tT h36 =>
ms (fun k7 =>
Yb (ixS 1 (get tT 7) (get tT 50)) h36 fun t57 h37 =>
Yb (ld1 h37 t57) h37 fun t58 h38 =>
Yb (Yf P .sub T.uint8 (.const (.int .u8 255)) (.tmp 58) (.int .u8 255) t58) h38 fun t59 h39 =>
Yb (ixS 1 (get tT 7) (get tT 50)) h39 fun t60 h40 =>
Yr (st1 h40 t60 t59) fun _ h41 =>
k7 .normal [(0, (get tT 0)), (7, (get tT 7)), (49, (get tT 49)), (50, (get tT 50))] h41) (Ys (fun tT_1 h42 =>
Yb (Yf P .add T.int (.tmp 50) (.const (.int .i64 1)) (get tT_1 50) (.int .i64 1)) h42 fun t61 h43 =>
k .normal [(0, (get tT_1 0)), (7, (get tT_1 7)), (49, (get tT_1 49)), (50, t61)] h43) (Yl [0, 7, 49, 50] k))) (Yl [0, 7, 49, 50] k))
theorem s_rows_put_eq (M : CombL) (C : Yc) (LP : Yv) (a0 a1 : Value) (H : AHeap) : Yy M Tryd.prog hints C LP F.rows_put [a0, a1] H = WZ M.b.g M.c M.s Tryd.prog C (fun v0 v7 v49 v50 H k => YH M Tryd.prog hints C LP F.rows_put 0 [(0, v0), (7, v7), (49, v49), (50, v50)] H k) a0 a1 H (Yi Tryd.prog [.tmp 4]) := by kernel_rfl
theorem s_rows_put_b0_eq (M : CombL) (C : Yc) (LP : Yv) (v0 v7 v49 v50 : Value) (H : AHeap) (k : K) : Uz M Tryd.prog hints C LP F.rows_put 0 [(0, v0), (7, v7), (49, v49), (50, v50)] H (Yl [0, 7, 49, 50] k) = Qa M.b.g M.c M.s Tryd.prog C (fun v0 v7 v49 v50 H k => YH M Tryd.prog hints C LP F.rows_put 0 [(0, v0), (7, v7), (49, v49), (50, v50)] H k) v0 v7 v49 v50 H k := by kernel_rfl
noncomputable def XN (mg : GT) (mc : CT) (ms : ST) (P : Program) (C : Yc) (a0 a1 : Value) (H : AHeap) (K0 : K) : Res :=
Yb (Yf P .lss T.int (.tmp 5) (.const (.int .i64 0)) a1 (.int .i64 0)) H fun t6 h1 =>
mc t6 (fun k1 => none) (fun k1 =>
k1 .normal [(0, a0), (1, a1)] h1) (Ys (fun tT h2 =>
Va C h2 (YN P .cap [T.sl_api_CellKind] [(get tT 0)] h2) fun t10 h3 =>
Yb (lenS (get tT 0)) h3 fun t12 h4 =>
Yb (Yf P .sub T.int (.tmp 10) (.tmp 12) t10 t12) h4 fun t13 h5 =>
Yb (Yf P .sub T.int (.tmp 8) (.tmp 13) (get tT 1) t13) h5 fun t14 h6 =>
Yb (Yf P .gtr T.int (.tmp 15) (.const (.int .i64 0)) t14 (.int .i64 0)) h6 fun t16 h7 =>
mc t16 (fun k2 => Va C h7 (YN P .cap [T.sl_api_CellKind] [(get tT 0)] h7) fun t19 h8 =>
Yb (slS T.api_CellKind 1 (get tT 0) none (some t19) none h8) h8 fun t20 h9 =>
Yp (app T.api_CellKind 1 8 t20 (srcZ [(.int .i64 0)] 8 t14) h9) fun t22 h10 =>
Yb (lenS (get tT 0)) h10 fun t24 h11 =>
Yb (slS T.api_CellKind 1 t22 none (some t24) none h11) h11 fun t25 h12 =>
k2 .normal [(0, t25)] h12) (fun k2 =>
k2 .normal [(0, (get tT 0))] h7) (Ys (fun tT_1 h13 =>
K0 .ret [(4, (get tT_1 0))] h13) K0)) K0)
theorem Q7 (M : CombL) (C : Yc) (LP : Yv) (a0 a1 : Value) (H : AHeap) : Yy M Tryd.prog hints C LP F.slices_Grow_CellKind [a0, a1] H = XN M.b.g M.c M.s Tryd.prog C a0 a1 H (Yi Tryd.prog [.tmp 4]) := by kernel_rfl
noncomputable def X8 (mg : GT) (mc : CT) (ms : ST) (P : Program) (C : Yc) (a0 a1 a2 : Value) (H : AHeap) (K0 : K) : Res :=
Yb (slS T.api_Pair 2 a0 (some a1) none none H) H fun t12 h1 =>
Yb (lenS a2) h1 fun t14 h2 =>
Yb (Yf P .eql T.int (.tmp 15) (.const (.int .i64 0)) t14 (.int .i64 0)) h2 fun t16 h3 =>
mc t16 (fun k1 => k1 .ret [(6, a0)] h3) (fun k1 =>
k1 .normal [(0, a0), (1, a1), (2, a2), (7, t14)] h3) (Ys (fun tT h4 =>
Yb (lenS (get tT 0)) h4 fun t19 h5 =>
Yb (Yf P .eql T.int (.tmp 20) (.tmp 21) (get tT 1) t19) h5 fun t22 h6 =>
mc t22 (fun k2 => Yp (app T.api_Pair 2 32 (get tT 0) (Vn 2 (get tT 2) h6) h6) fun t25 h7 =>
k2 .ret [(6, t25)] h7) (fun k2 =>
k2 .normal [(0, (get tT 0)), (1, (get tT 1)), (2, (get tT 2)), (7, (get tT 7)), (8, t19)] h6) (Ys (fun tT_1 h8 =>
Yb (Yf P .add T.int (.tmp 26) (.tmp 27) (get tT_1 8) (get tT_1 7)) h8 fun t28 h9 =>
Va C h9 (YN P .cap [T.sl_api_Pair] [(get tT_1 0)] h9) fun t30 h10 =>
Yb (Yf P .gtr T.int (.tmp 28) (.tmp 30) t28 t30) h10 fun t31 h11 =>
mc t31 (fun k3 => Yb (slS T.api_Pair 2 (get tT_1 0) none (some (get tT_1 1)) none h11) h11 fun t34 h12 =>
Yb (Yf P .add T.int (.tmp 35) (.tmp 36) (get tT_1 8) (get tT_1 7)) h12 fun t37 h13 =>
Yb (Yf P .sub T.int (.tmp 37) (.tmp 38) t37 (get tT_1 1)) h13 fun t39 h14 =>
Yp (app T.api_Pair 2 32 t34 (srcZ [(.string (mk [])), (.string (mk []))] 32 t39) h14) fun t40 h15 =>
Yb (slS T.api_Pair 2 t40 (some (get tT_1 1)) none none h15) h15 fun t43 h16 =>
Yp (cpy 2 t43 (get tT_1 2) h16) fun t45 h17 =>
Yb (Yf P .add T.int (.tmp 47) (.tmp 48) (get tT_1 1) (get tT_1 7)) h17 fun t49 h18 =>
Yb (slS T.api_Pair 2 t40 (some t49) none none h18) h18 fun t50 h19 =>
Yb (slS T.api_Pair 2 (get tT_1 0) (some (get tT_1 1)) none none h19) h19 fun t53 h20 =>
Yp (cpy 2 t50 t53 h20) fun t54 h21 =>
Xy true <|
k3 .ret [(6, t40)] h21) (fun k3 =>
k3 .normal [(0, (get tT_1 0)), (1, (get tT_1 1)), (2, (get tT_1 2)), (7, (get tT_1 7)), (8, (get tT_1 8))] h11) (Ys (fun tT_2 h22 =>
Yb (Yf P .add T.int (.tmp 57) (.tmp 58) (get tT_2 8) (get tT_2 7)) h22 fun t59 h23 =>
Yb (slS T.api_Pair 2 (get tT_2 0) none (some t59) none h23) h23 fun t60 h24 =>
Yb (Yf P .add T.int (.tmp 63) (.tmp 64) (get tT_2 1) (get tT_2 7)) h24 fun t65 h25 =>
Yb (slS T.api_Pair 2 t60 (some t65) none none h25) h25 fun t66 h26 =>
Yb (xext P Tryd.f74 [(get tT_2 2), t66] h26) h26 fun t67 h27 =>
Yb (xun P .not t67) h27 fun t68 h28 =>
mc t68 (fun k4 => Yb (Yf P .add T.int (.tmp 70) (.tmp 71) (get tT_2 1) (get tT_2 7)) h28 fun t72 h29 =>
Yb (slS T.api_Pair 2 t60 (some t72) none none h29) h29 fun t73 h30 =>
Yb (slS T.api_Pair 2 t60 (some (get tT_2 1)) none none h30) h30 fun t76 h31 =>
Yp (cpy 2 t73 t76 h31) fun t77 h32 =>
Xy true <|
Yb (slS T.api_Pair 2 t60 (some (get tT_2 1)) none none h32) h32 fun t80 h33 =>
Yp (cpy 2 t80 (get tT_2 2) h33) fun t82 h34 =>
k4 .ret [(6, t60)] h34) (fun k4 =>
k4 .normal [(0, t60), (1, (get tT_2 1)), (2, (get tT_2 2)), (7, (get tT_2 7)), (8, (get tT_2 8))] h28) (Ys (fun tT_3 h35 =>
Yb (slS T.api_Pair 2 (get tT_3 0) (some (get tT_3 8)) none none h35) h35 fun t86 h36 =>
Yp (cpy 2 t86 (get tT_3 2) h36) fun t88 h37 =>
Yb (slS T.api_Pair 2 (get tT_3 0) (some (get tT_3 1)) none none h37) h37 fun t91 h38 =>
Yh C F.slices_rotateRight_Pair [t91, (get tT_3 7)] h38 fun t93 h39 =>
K0 .ret [(6, (get tT_3 0))] h39) K0)) K0)) K0)) K0)
theorem Uu (M : CombL) (C : Yc) (LP : Yv) (a0 a1 a2 : Value) (H : AHeap) : Yy M Tryd.prog hints C LP F.slices_Insert_Pair [a0, a1, a2] H = X8 M.b.g M.c M.s Tryd.prog C a0 a1 a2 H (Yi Tryd.prog [.tmp 6]) := by kernel_rfl
noncomputable def WW (mg : GT) (mc : CT) (ms : ST) (P : Program) (C : Yc) (a0 a1 : Value) (H : AHeap) (K0 : K) : Res :=
Yh C F.internal_bytealg_CompareString [a0, a1] H fun t7 h1 =>
K0 .ret [(4, t7)] h1
theorem s_strings_Compare_eq (M : CombL) (C : Yc) (LP : Yv) (a0 a1 : Value) (H : AHeap) : Yy M Tryd.prog hints C LP F.strings_Compare [a0, a1] H = WW M.b.g M.c M.s Tryd.prog C a0 a1 H (Yi Tryd.prog [.tmp 4]) := by kernel_rfl
noncomputable def Y7 (mg : GT) (mc : CT) (ms : ST) (P : Program) (C : Yc) (a0 a1 : Value) (H : AHeap) (K0 : K) : Res :=
Yh C F.slices_IndexFunc_string [a0, a1] H fun t7 h1 =>
Yb (Yf P .geq T.int (.tmp 7) (.const (.int .i64 0)) t7 (.int .i64 0)) h1 fun t8 h2 =>
K0 .ret [(4, t8)] h2
theorem US (M : CombL) (C : Yc) (LP : Yv) (a0 a1 : Value) (H : AHeap) : Yy M Tryd.prog hints C LP F.slices_ContainsFunc_string [a0, a1] H = Y7 M.b.g M.c M.s Tryd.prog C a0 a1 H (Yi Tryd.prog [.tmp 4]) := by kernel_rfl
noncomputable def Vs (mg : GT) (mc : CT) (ms : ST) (P : Program) (C : Yc) (a0 : Value) (H : AHeap) (K0 : K) : Res :=
Yb (lenT a0) H fun t4 h1 =>
Yb (Yf P .gtr T.int (.tmp 4) (.const (.int .i64 40)) t4 (.int .i64 40)) h1 fun t5 h2 =>
K0 .ret [(2, t5)] h2
theorem s_model_check_1_eq (M : CombL) (C : Yc) (LP : Yv) (a0 : Value) (H : AHeap) : Yy M Tryd.prog hints C LP F.model_check_1 [a0] H = Vs M.b.g M.c M.s Tryd.prog C a0 H (Yi Tryd.prog [.tmp 2]) := by kernel_rfl
noncomputable def Y2 (mg : GT) (mc : CT) (ms : ST) (P : Program) (C : Yc) (L0 : Value → Value → Value → Value → AHeap → K → Res) (a0 a1 : Value) (H : AHeap) (K0 : K) : Res :=
Yb (lenS a0) H fun t7 h1 =>
ms (fun k1 =>
L0 a0 a1 t7 (.int .i64 0) h1 (YI [] 0 k1)) (Ys (fun tT h2 =>
K0 .ret [(4, (.int .i64 (-1)))] h2) K0)
noncomputable def YU (mg : GT) (mc : CT) (ms : ST) (P : Program) (C : Yc) (L0 : Value → Value → Value → Value → AHeap → K → Res) (v0 v1 v7 v8 : Value) (H : AHeap) (k : K) : Res :=
Yb (Yf P .lss T.int (.tmp 8) (.tmp 7) v8 v7) H fun t9 h2 =>
mc t9 (fun k2 => k2 .normal [(0, v0), (1, v1), (7, v7), (8, v8)] h2) (fun k2 =>
k2 (.exit 0) [(9, t9), (0, v0), (1, v1), (7, v7), (8, v8)] h2) (Ys (fun tT h3 =>
ms (fun k3 =>
Yb (ixS 1 (get tT 0) (get tT 8)) h3 fun t14 h4 =>
Yb (ld1 h4 t14) h4 fun t15 h5 =>
Qr P C (get tT 1) [t15] h5 fun t16 h6 =>
mc t16 (fun k4 => k4 .ret [(4, (get tT 8))] h6) (fun k4 =>
k4 .normal [(0, (get tT 0)), (1, (get tT 1)), (7, (get tT 7)), (8, (get tT 8))] h6) (YI [0, 1, 7, 8] 1 k3)) (Ys (fun tT_1 h7 =>
Yb (Yf P .add T.int (.tmp 8) (.const (.int .i64 1)) (get tT_1 8) (.int .i64 1)) h7 fun t18 h8 =>
k .normal [(0, (get tT_1 0)), (1, (get tT_1 1)), (7, (get tT_1 7)), (8, t18)] h8) (Yl [0, 1, 7, 8] k))) (Yl [0, 1, 7, 8] k))
theorem U2 (M : CombL) (C : Yc) (LP : Yv) (a0 a1 : Value) (H : AHeap) : Yy M Tryd.prog hints C LP F.slices_IndexFunc_CellKind [a0, a1] H = Y2 M.b.g M.c M.s Tryd.prog C (fun v0 v1 v7 v8 H k => YH M Tryd.prog hints C LP F.slices_IndexFunc_CellKind 0 [(0, v0), (1, v1), (7, v7), (8, v8)] H k) a0 a1 H (Yi Tryd.prog [.tmp 4]) := by kernel_rfl
theorem UD (M : CombL) (C : Yc) (LP : Yv) (v0 v1 v7 v8 : Value) (H : AHeap) (k : K) : Uz M Tryd.prog hints C LP F.slices_IndexFunc_CellKind 0 [(0, v0), (1, v1), (7, v7), (8, v8)] H (Yl [0, 1, 7, 8] k) = YU M.b.g M.c M.s Tryd.prog C (fun v0 v1 v7 v8 H k => YH M Tryd.prog hints C LP F.slices_IndexFunc_CellKind 0 [(0, v0), (1, v1), (7, v7), (8, v8)] H k) v0 v1 v7 v8 H k := by kernel_rfl
noncomputable def Vx (mg : GT) (mc : CT) (ms : ST) (P : Program) (C : Yc) (L0 : Value → Value → AHeap → K → Res) (a0 : Value) (H : AHeap) (K0 : K) : Res :=
ms (fun k1 =>
L0 a0 (.slice none 0 0) H (YI [3] 0 k1)) (Ys (fun tT h1 =>
Yh C F.slices_Reverse_byte [(get tT 3)] h1 fun t14 h2 =>
K0 .ret [(2, (get tT 3))] h2) K0)
noncomputable def W6 (mg : GT) (mc : CT) (ms : ST) (P : Program) (C : Yc) (L0 : Value → Value → AHeap → K → Res) (v0 v3 : Value) (H : AHeap) (k : K) : Res :=
Yb (Yf P .gtr T.uint64 (.tmp 4) (.const (.int .u64 0)) v0 (.int .u64 0)) H fun t5 h1 =>
mc t5 (fun k2 => k2 .normal [(0, v0), (3, v3)] h1) (fun k2 =>
k2 (.exit 0) [(5, t5), (4, v0), (0, v0), (3, v3)] h1) (Ys (fun tT h2 =>
ms (fun k3 =>
Yp (YP P T.uint64 T.uint8 (get tT 0) h2) fun t10 h3 =>
Yp (UC T.uint8 [(.int .u8 0)] 1 [(0, t10)] h3) fun t11 h4 =>
Yp (app T.uint8 1 1 (get tT 3) (Vn 1 t11 h4) h4) fun t12 h5 =>
k3 .normal [(0, (get tT 0)), (3, t12)] h5) (Ys (fun tT_1 h6 =>
Yb (Yf P .shr T.uint64 (.tmp 6) (.const (.int .u64 8)) (get tT_1 0) (.int .u64 8)) h6 fun t7 h7 =>
k .normal [(0, t7), (3, (get tT_1 3))] h7) (Yl [0, 3] k))) (Yl [0, 3] k))
theorem s_rows_digits_eq (M : CombL) (C : Yc) (LP : Yv) (a0 : Value) (H : AHeap) : Yy M Tryd.prog hints C LP F.rows_digits [a0] H = Vx M.b.g M.c M.s Tryd.prog C (fun v0 v3 H k => YH M Tryd.prog hints C LP F.rows_digits 0 [(0, v0), (3, v3)] H k) a0 H (Yi Tryd.prog [.tmp 2]) := by kernel_rfl
theorem s_rows_digits_b0_eq (M : CombL) (C : Yc) (LP : Yv) (v0 v3 : Value) (H : AHeap) (k : K) : Uz M Tryd.prog hints C LP F.rows_digits 0 [(0, v0), (3, v3)] H (Yl [0, 3] k) = W6 M.b.g M.c M.s Tryd.prog C (fun v0 v3 H k => YH M Tryd.prog hints C LP F.rows_digits 0 [(0, v0), (3, v3)] H k) v0 v3 H k := by kernel_rfl
noncomputable def YY (mg : GT) (mc : CT) (ms : ST) (P : Program) (C : Yc) (a0 a1 : Value) (H : AHeap) (K0 : K) : Res :=
Yb (xext P Tryd.f89 [a0, a1] H) H fun t7 h1 =>
K0 .ret [(4, t7)] h1
theorem Uc (M : CombL) (C : Yc) (LP : Yv) (a0 a1 : Value) (H : AHeap) : Yy M Tryd.prog hints C LP F.internal_bytealg_CompareString [a0, a1] H = YY M.b.g M.c M.s Tryd.prog C a0 a1 H (Yi Tryd.prog [.tmp 4]) := by kernel_rfl
noncomputable def Xl (mg : GT) (mc : CT) (ms : ST) (P : Program) (C : Yc) (L0 : Value → Value → Value → Value → AHeap → K → Res) (a0 a1 : Value) (H : AHeap) (K0 : K) : Res :=
Yb (lenS a0) H fun t7 h1 =>
ms (fun k1 =>
L0 a0 a1 t7 (.int .i64 0) h1 (YI [] 0 k1)) (Ys (fun tT h2 =>
K0 .ret [(4, (.int .i64 (-1)))] h2) K0)
noncomputable def Y6 (mg : GT) (mc : CT) (ms : ST) (P : Program) (C : Yc) (L0 : Value → Value → Value → Value → AHeap → K → Res) (v0 v1 v7 v8 : Value) (H : AHeap) (k : K) : Res :=
Yb (Yf P .lss T.int (.tmp 8) (.tmp 7) v8 v7) H fun t9 h2 =>
mc t9 (fun k2 => k2 .normal [(0, v0), (1, v1), (7, v7), (8, v8)] h2) (fun k2 =>
k2 (.exit 0) [(9, t9), (0, v0), (1, v1), (7, v7), (8, v8)] h2) (Ys (fun tT h3 =>
ms (fun k3 =>
Yb (ixS 1 (get tT 0) (get tT 8)) h3 fun t14 h4 =>
Yb (ld1 h4 t14) h4 fun t15 h5 =>
Qr P C (get tT 1) [t15] h5 fun t16 h6 =>
mc t16 (fun k4 => k4 .ret [(4, (get tT 8))] h6) (fun k4 =>
k4 .normal [(0, (get tT 0)), (1, (get tT 1)), (7, (get tT 7)), (8, (get tT 8))] h6) (YI [0, 1, 7, 8] 1 k3)) (Ys (fun tT_1 h7 =>
Yb (Yf P .add T.int (.tmp 8) (.const (.int .i64 1)) (get tT_1 8) (.int .i64 1)) h7 fun t18 h8 =>
k .normal [(0, (get tT_1 0)), (1, (get tT_1 1)), (7, (get tT_1 7)), (8, t18)] h8) (Yl [0, 1, 7, 8] k))) (Yl [0, 1, 7, 8] k))
theorem Qt (M : CombL) (C : Yc) (LP : Yv) (a0 a1 : Value) (H : AHeap) : Yy M Tryd.prog hints C LP F.slices_IndexFunc_string [a0, a1] H = Xl M.b.g M.c M.s Tryd.prog C (fun v0 v1 v7 v8 H k => YH M Tryd.prog hints C LP F.slices_IndexFunc_string 0 [(0, v0), (1, v1), (7, v7), (8, v8)] H k) a0 a1 H (Yi Tryd.prog [.tmp 4]) := by kernel_rfl
theorem UV (M : CombL) (C : Yc) (LP : Yv) (v0 v1 v7 v8 : Value) (H : AHeap) (k : K) : Uz M Tryd.prog hints C LP F.slices_IndexFunc_string 0 [(0, v0), (1, v1), (7, v7), (8, v8)] H (Yl [0, 1, 7, 8] k) = Y6 M.b.g M.c M.s Tryd.prog C (fun v0 v1 v7 v8 H k => YH M Tryd.prog hints C LP F.slices_IndexFunc_string 0 [(0, v0), (1, v1), (7, v7), (8, v8)] H k) v0 v1 v7 v8 H k := by kernel_rfl
noncomputable def Xv (mg : GT) (mc : CT) (ms : ST) (P : Program) (C : Yc) (L0 : Value → Value → Value → AHeap → K → Res) (a0 : Value) (H : AHeap) (K0 : K) : Res :=
Yb (lenS a0) H fun t5 h1 =>
Yb (Yf P .sub T.int (.tmp 5) (.const (.int .i64 1)) t5 (.int .i64 1)) h1 fun t6 h2 =>
ms (fun k1 =>
L0 a0 (.int .i64 0) t6 h2 (YI [] 0 k1)) K0
noncomputable def Xw (mg : GT) (mc : CT) (ms : ST) (P : Program) (C : Yc) (L0 : Value → Value → Value → AHeap → K → Res) (v0 v2 v3 : Value) (H : AHeap) (k : K) : Res :=
Yb (Yf P .lss T.int (.tmp 7) (.tmp 8) v2 v3) H fun t9 h3 =>
mc t9 (fun k2 => k2 .normal [(0, v0), (2, v2), (3, v3)] h3) (fun k2 =>
k2 (.exit 0) [(9, t9), (8, v3), (7, v2), (0, v0), (2, v2), (3, v3)] h3) (Ys (fun tT h4 =>
ms (fun k3 =>
Yb (ixS 1 (get tT 0) (get tT 3)) h4 fun t20 h5 =>
Yb (ld1 h5 t20) h5 fun t21 h6 =>
Yb (ixS 1 (get tT 0) (get tT 2)) h6 fun t24 h7 =>
Yb (ld1 h7 t24) h7 fun t25 h8 =>
Yb (ixS 1 (get tT 0) (get tT 2)) h8 fun t26 h9 =>
Yr (st1 h9 t26 t21) fun _ h10 =>
Yb (ixS 1 (get tT 0) (get tT 3)) h10 fun t27 h11 =>
Yr (st1 h11 t27 t25) fun _ h12 =>
Xy (okV (some true) none h9 h10 h4 h4 && (okV (some true) none h9 h10 h4 h4 && true)) <|
k3 .normal [(0, (get tT 0)), (2, (get tT 2)), (3, (get tT 3))] h12) (Ys (fun tT_1 h13 =>
Yb (Yf P .add T.int (.tmp 10) (.const (.int .i64 1)) (get tT_1 2) (.int .i64 1)) h13 fun t11 h14 =>
Yb (Yf P .sub T.int (.tmp 12) (.const (.int .i64 1)) (get tT_1 3) (.int .i64 1)) h14 fun t13 h15 =>
k .normal [(0, (get tT_1 0)), (2, t11), (3, t13)] h15) (Yl [0, 2, 3] k))) (Yl [0, 2, 3] k))
theorem Zo (M : CombL) (C : Yc) (LP : Yv) (a0 : Value) (H : AHeap) : Yy M Tryd.prog hints C LP F.slices_Reverse_byte [a0] H = Xv M.b.g M.c M.s Tryd.prog C (fun v0 v2 v3 H k => YH M Tryd.prog hints C LP F.slices_Reverse_byte 0 [(0, v0), (2, v2), (3, v3)] H k) a0 H (Yi Tryd.prog []) := by kernel_rfl
theorem QA (M : CombL) (C : Yc) (LP : Yv) (v0 v2 v3 : Value) (H : AHeap) (k : K) : Uz M Tryd.prog hints C LP F.slices_Reverse_byte 0 [(0, v0), (2, v2), (3, v3)] H (Yl [0, 2, 3] k) = Xw M.b.g M.c M.s Tryd.prog C (fun v0 v2 v3 H k => YH M Tryd.prog hints C LP F.slices_Reverse_byte 0 [(0, v0), (2, v2), (3, v3)] H k) v0 v2 v3 H k := by kernel_rfl
end Go.Proofs.YtmiinbhnfojnbaaDoor

namespace Go.Proofs.YtmiinbhnfojnbaaDoor
open Go Eng
@[go_sem] theorem x_int_uint8 {n : Int} {H : AHeap} : YP Tryd.prog T.int T.uint8 (.int .i64 n) H = some (.int .u8 (IntKind.wrap .u8 n), H) := Xk (P := Tryd.prog) (s := 3) (t := 5) Tryd.underlying3 Tryd.underlying5
@[go_sem] theorem x_int_uint64 {n : Int} {H : AHeap} : YP Tryd.prog T.int T.uint64 (.int .i64 n) H = some (.int .u64 (IntKind.wrap .u64 n), H) := Xk (P := Tryd.prog) (s := 3) (t := 66) Tryd.underlying3 Tryd.underlying66
@[go_sem] theorem x_int_uint {n : Int} {H : AHeap} : YP Tryd.prog T.int T.uint (.int .i64 n) H = some (.int .u64 (IntKind.wrap .u64 n), H) := Xk (P := Tryd.prog) (s := 3) (t := 120) Tryd.underlying3 Tryd.underlying120
@[go_sem] theorem x_uint8_int {n : Int} {H : AHeap} : YP Tryd.prog T.uint8 T.int (.int .u8 n) H = some (.int .i64 (IntKind.wrap .i64 n), H) := Xk (P := Tryd.prog) (s := 5) (t := 3) Tryd.underlying5 Tryd.underlying3
@[go_sem] theorem x_uint8_int32 {n : Int} {H : AHeap} : YP Tryd.prog T.uint8 T.int32 (.int .u8 n) H = some (.int .i32 (IntKind.wrap .i32 n), H) := Xk (P := Tryd.prog) (s := 5) (t := 21) Tryd.underlying5 Tryd.underlying21
@[go_sem] theorem x_uint8_uint64 {n : Int} {H : AHeap} : YP Tryd.prog T.uint8 T.uint64 (.int .u8 n) H = some (.int .u64 (IntKind.wrap .u64 n), H) := Xk (P := Tryd.prog) (s := 5) (t := 66) Tryd.underlying5 Tryd.underlying66
@[go_sem] theorem x_uint8_uint32 {n : Int} {H : AHeap} : YP Tryd.prog T.uint8 T.uint32 (.int .u8 n) H = some (.int .u32 (IntKind.wrap .u32 n), H) := Xk (P := Tryd.prog) (s := 5) (t := 143) Tryd.underlying5 Tryd.underlying143
@[go_sem] theorem x_uint64_int {n : Int} {H : AHeap} : YP Tryd.prog T.uint64 T.int (.int .u64 n) H = some (.int .i64 (IntKind.wrap .i64 n), H) := Xk (P := Tryd.prog) (s := 66) (t := 3) Tryd.underlying66 Tryd.underlying3
@[go_sem] theorem x_uint64_uint8 {n : Int} {H : AHeap} : YP Tryd.prog T.uint64 T.uint8 (.int .u64 n) H = some (.int .u8 (IntKind.wrap .u8 n), H) := Xk (P := Tryd.prog) (s := 66) (t := 5) Tryd.underlying66 Tryd.underlying5
@[go_sem] theorem x_uint64_api_JobState {n : Int} {H : AHeap} : YP Tryd.prog T.uint64 T.api_JobState (.int .u64 n) H = some (.int .i64 (IntKind.wrap .i64 n), H) := Xk (P := Tryd.prog) (s := 66) (t := 29) Tryd.underlying66 Tryd.underlying29
@[go_sem] theorem x_uint_int {n : Int} {H : AHeap} : YP Tryd.prog T.uint T.int (.int .u64 n) H = some (.int .i64 (IntKind.wrap .i64 n), H) := Xk (P := Tryd.prog) (s := 120) (t := 3) Tryd.underlying120 Tryd.underlying3
theorem c_model_Model_place {call : Yc} {x c : Array Value} {args : List Value} {H : AHeap} {k : Value → AHeap → Res} : Qr Tryd.prog call (.func (.func F.model_Model_place) x c) args H k = Yh call F.model_Model_place (x.toList ++ args ++ c.toList) H k := by kernel_rfl
theorem VB {call : Yc} {x c : Array Value} {args : List Value} {H : AHeap} {k : Value → AHeap → Res} : Qr Tryd.prog call (.func (.func F.model_Model_place_1) x c) args H k = Yh call F.model_Model_place_1 (x.toList ++ args ++ c.toList) H k := by kernel_rfl
theorem QO {call : Yc} {x c : Array Value} {args : List Value} {H : AHeap} {k : Value → AHeap → Res} : Qr Tryd.prog call (.func (.func F.rows_Valid_1) x c) args H k = Yh call F.rows_Valid_1 (x.toList ++ args ++ c.toList) H k := by kernel_rfl
theorem c_model_check_1 {call : Yc} {x c : Array Value} {args : List Value} {H : AHeap} {k : Value → AHeap → Res} : Qr Tryd.prog call (.func (.func F.model_check_1) x c) args H k = Yh call F.model_check_1 (x.toList ++ args ++ c.toList) H k := by kernel_rfl
theorem d_law_known (H : AHeap) {r : Value × AHeap} (h : Qn Ye Ym Yg Tryd.prog CC H (Yi Tryd.prog [.tmp 0]) = some r) : CC F.law_known [] H = some (tidy H r) := YA (by kernel_rfl) ((s_law_known_eq Yd CC Yo H).trans (Eq.trans (show Qn Yd.b.g Yd.c Yd.s Tryd.prog CC H (Yi Tryd.prog [.tmp 0]) = Qn Ye Ym Yg Tryd.prog CC H (Yi Tryd.prog [.tmp 0]) by kernel_rfl) h))
theorem d_jobs_New (a0 : Value) (H : AHeap) {r : Value × AHeap} (h : QN Ye Ym Yg Tryd.prog CC a0 H (Yi Tryd.prog [.tmp 2, .tmp 3]) = some r) : CC F.jobs_New [a0] H = some (tidy H r) := YA (by kernel_rfl) ((s_jobs_New_eq Yd CC Yo a0 H).trans (Eq.trans (show QN Yd.b.g Yd.c Yd.s Tryd.prog CC a0 H (Yi Tryd.prog [.tmp 2, .tmp 3]) = QN Ye Ym Yg Tryd.prog CC a0 H (Yi Tryd.prog [.tmp 2, .tmp 3]) by kernel_rfl) h))
theorem d_law_puts (a0 a1 a2 a3 a4 : Value) (H : AHeap) {r : Value × AHeap} (h : QW Ye Ym Yg Tryd.prog CC a0 a1 a2 a3 a4 H (Yi Tryd.prog [.tmp 10]) = some r) : CC F.law_puts [a0, a1, a2, a3, a4] H = some (tidy H r) := YA (by kernel_rfl) ((s_law_puts_eq Yd CC Yo a0 a1 a2 a3 a4 H).trans (Eq.trans (show QW Yd.b.g Yd.c Yd.s Tryd.prog CC a0 a1 a2 a3 a4 H (Yi Tryd.prog [.tmp 10]) = QW Ye Ym Yg Tryd.prog CC a0 a1 a2 a3 a4 H (Yi Tryd.prog [.tmp 10]) by kernel_rfl) h))
theorem d_law_takes (a0 a1 a2 a3 a4 : Value) (H : AHeap) {r : Value × AHeap} (h : Qp Ye Ym Yg Tryd.prog CC a0 a1 a2 a3 a4 H (Yi Tryd.prog [.tmp 10]) = some r) : CC F.law_takes [a0, a1, a2, a3, a4] H = some (tidy H r) := YA (by kernel_rfl) ((s_law_takes_eq Yd CC Yo a0 a1 a2 a3 a4 H).trans (Eq.trans (show Qp Yd.b.g Yd.c Yd.s Tryd.prog CC a0 a1 a2 a3 a4 H (Yi Tryd.prog [.tmp 10]) = Qp Ye Ym Yg Tryd.prog CC a0 a1 a2 a3 a4 H (Yi Tryd.prog [.tmp 10]) by kernel_rfl) h))
theorem Zn (a0 a1 a2 : Value) (H : AHeap) {r : Value × AHeap} (h : Wi Ye Ym Yg Tryd.prog CC a0 a1 a2 H (Yi Tryd.prog [.tmp 6]) = some r) : CC F.jobs_Queue_Back [a0, a1, a2] H = some (tidy H r) := YA (by kernel_rfl) ((s_jobs_Queue_Back_eq Yd CC Yo a0 a1 a2 H).trans (Eq.trans (show Wi Yd.b.g Yd.c Yd.s Tryd.prog CC a0 a1 a2 H (Yi Tryd.prog [.tmp 6]) = Wi Ye Ym Yg Tryd.prog CC a0 a1 a2 H (Yi Tryd.prog [.tmp 6]) by kernel_rfl) h))
theorem d_law_gets (a0 a1 a2 a3 : Value) (H : AHeap) {r : Value × AHeap} (h : QZ Ye Ym Yg Tryd.prog CC a0 a1 a2 a3 H (Yi Tryd.prog [.tmp 8]) = some r) : CC F.law_gets [a0, a1, a2, a3] H = some (tidy H r) := YA (by kernel_rfl) ((s_law_gets_eq Yd CC Yo a0 a1 a2 a3 H).trans (Eq.trans (show QZ Yd.b.g Yd.c Yd.s Tryd.prog CC a0 a1 a2 a3 H (Yi Tryd.prog [.tmp 8]) = QZ Ye Ym Yg Tryd.prog CC a0 a1 a2 a3 H (Yi Tryd.prog [.tmp 8]) by kernel_rfl) h))
noncomputable def X7 (v0 v1 v5 : Value) (H : AHeap) (k : K) : Res := YH Yd Tryd.prog hints CC Yo F.law_small 0 [(0, v0), (1, v1), (5, v5)] H k
theorem V7 (v0 v1 v5 : Value) (H : AHeap) (k : K) : X7 v0 v1 v5 H k = WD Ye Ym Yg Tryd.prog CC X7 v0 v1 v5 H (Ys (fun T H => X7 (get T 0) (get T 1) (get T 5) H k) k) := ((Xe (by kernel_rfl) rfl H k).trans (s_law_small_b0_eq Yd CC Yo v0 v1 v5 H _)).trans (by kernel_rfl)
theorem d_law_small (a0 a1 : Value) (H : AHeap) {r : Value × AHeap} (h : Ux Ye Ym Yg Tryd.prog CC X7 a0 a1 H (Yi Tryd.prog [.tmp 4]) = some r) : CC F.law_small [a0, a1] H = some (tidy H r) := YA (by kernel_rfl) ((s_law_small_eq Yd CC Yo a0 a1 H).trans (Eq.trans (show Ux Yd.b.g Yd.c Yd.s Tryd.prog CC (fun v0 v1 v5 H k => YH Yd Tryd.prog hints CC Yo F.law_small 0 [(0, v0), (1, v1), (5, v5)] H k) a0 a1 H (Yi Tryd.prog [.tmp 4]) = Ux Ye Ym Yg Tryd.prog CC X7 a0 a1 H (Yi Tryd.prog [.tmp 4]) by kernel_rfl) h))
theorem d_jobs_Queue_Jobs (a0 : Value) (H : AHeap) {r : Value × AHeap} (h : WX Ye Ym Yg Tryd.prog CC a0 H (Yi Tryd.prog [.tmp 2]) = some r) : CC F.jobs_Queue_Jobs [a0] H = some (tidy H r) := YA (by kernel_rfl) ((s_jobs_Queue_Jobs_eq Yd CC Yo a0 H).trans (Eq.trans (show WX Yd.b.g Yd.c Yd.s Tryd.prog CC a0 H (Yi Tryd.prog [.tmp 2]) = WX Ye Ym Yg Tryd.prog CC a0 H (Yi Tryd.prog [.tmp 2]) by kernel_rfl) h))
theorem VY (a0 a1 a2 : Value) (H : AHeap) {r : Value × AHeap} (h : XH Ye Ym Yg Tryd.prog CC a0 a1 a2 H (Yi Tryd.prog [.tmp 6, .tmp 7]) = some r) : CC F.jobs_Queue_Put [a0, a1, a2] H = some (tidy H r) := YA (by kernel_rfl) ((s_jobs_Queue_Put_eq Yd CC Yo a0 a1 a2 H).trans (Eq.trans (show XH Yd.b.g Yd.c Yd.s Tryd.prog CC a0 a1 a2 H (Yi Tryd.prog [.tmp 6, .tmp 7]) = XH Ye Ym Yg Tryd.prog CC a0 a1 a2 H (Yi Tryd.prog [.tmp 6, .tmp 7]) by kernel_rfl) h))
theorem Wg (a0 a1 a2 : Value) (H : AHeap) {r : Value × AHeap} (h : YW Ye Ym Yg Tryd.prog CC a0 a1 a2 H (Yi Tryd.prog [.cell 6 T.api_Job, .tmp 7]) = some r) : CC F.jobs_Queue_Take [a0, a1, a2] H = some (tidy H r) := YA (by kernel_rfl) ((s_jobs_Queue_Take_eq Yd CC Yo a0 a1 a2 H).trans (Eq.trans (show YW Yd.b.g Yd.c Yd.s Tryd.prog CC a0 a1 a2 H (Yi Tryd.prog [.cell 6 T.api_Job, .tmp 7]) = YW Ye Ym Yg Tryd.prog CC a0 a1 a2 H (Yi Tryd.prog [.cell 6 T.api_Job, .tmp 7]) by kernel_rfl) h))
theorem d_jobs_Queue_Now (a0 : Value) (H : AHeap) {r : Value × AHeap} (h : W9 Ye Ym Yg Tryd.prog CC a0 H (Yi Tryd.prog [.tmp 2]) = some r) : CC F.jobs_Queue_Now [a0] H = some (tidy H r) := YA (by kernel_rfl) ((s_jobs_Queue_Now_eq Yd CC Yo a0 H).trans (Eq.trans (show W9 Yd.b.g Yd.c Yd.s Tryd.prog CC a0 H (Yi Tryd.prog [.tmp 2]) = W9 Ye Ym Yg Tryd.prog CC a0 H (Yi Tryd.prog [.tmp 2]) by kernel_rfl) h))
theorem Qw (a0 a1 a2 : Value) (H : AHeap) {r : Value × AHeap} (h : XS Ye Ym Yg Tryd.prog CC a0 a1 a2 H (Yi Tryd.prog [.tmp 6]) = some r) : CC F.jobs_Queue_Finish [a0, a1, a2] H = some (tidy H r) := YA (by kernel_rfl) ((Gn Yd CC Yo a0 a1 a2 H).trans (Eq.trans (show XS Yd.b.g Yd.c Yd.s Tryd.prog CC a0 a1 a2 H (Yi Tryd.prog [.tmp 6]) = XS Ye Ym Yg Tryd.prog CC a0 a1 a2 H (Yi Tryd.prog [.tmp 6]) by kernel_rfl) h))
theorem V4 (a0 a1 : Value) (H : AHeap) {r : Value × AHeap} (h : Xm Ye Ym Yg Tryd.prog CC a0 a1 H (Yi Tryd.prog [.tmp 4]) = some r) : CC F.jobs_Queue_Revive [a0, a1] H = some (tidy H r) := YA (by kernel_rfl) ((Z4 Yd CC Yo a0 a1 H).trans (Eq.trans (show Xm Yd.b.g Yd.c Yd.s Tryd.prog CC a0 a1 H (Yi Tryd.prog [.tmp 4]) = Xm Ye Ym Yg Tryd.prog CC a0 a1 H (Yi Tryd.prog [.tmp 4]) by kernel_rfl) h))
noncomputable def Xo (v0 v1 v32 v33 v34 : Value) (H : AHeap) (k : K) : Res := YH Yd Tryd.prog hints CC Yo F.jobs_Queue_Pass 0 [(0, v0), (1, v1), (32, v32), (33, v33), (34, v34)] H k
theorem V6 (v0 v1 v32 v33 v34 : Value) (H : AHeap) (k : K) : Xo v0 v1 v32 v33 v34 H k = Wd Ye Ym Yg Tryd.prog CC Xo v0 v1 v32 v33 v34 H (Ys (fun T H => Xo (get T 0) (get T 1) (get T 32) (get T 33) (get T 34) H k) k) := ((Xe (by kernel_rfl) rfl H k).trans (ZJ Yd CC Yo v0 v1 v32 v33 v34 H _)).trans (by kernel_rfl)
theorem VG (a0 a1 : Value) (H : AHeap) {r : Value × AHeap} (h : Xr Ye Ym Yg Tryd.prog CC Xo a0 a1 H (Yi Tryd.prog [.tmp 4]) = some r) : CC F.jobs_Queue_Pass [a0, a1] H = some (tidy H r) := YA (by kernel_rfl) ((s_jobs_Queue_Pass_eq Yd CC Yo a0 a1 H).trans (Eq.trans (show Xr Yd.b.g Yd.c Yd.s Tryd.prog CC (fun v0 v1 v32 v33 v34 H k => YH Yd Tryd.prog hints CC Yo F.jobs_Queue_Pass 0 [(0, v0), (1, v1), (32, v32), (33, v33), (34, v34)] H k) a0 a1 H (Yi Tryd.prog [.tmp 4]) = Xr Ye Ym Yg Tryd.prog CC Xo a0 a1 H (Yi Tryd.prog [.tmp 4]) by kernel_rfl) h))
theorem d_law_taken (a0 a1 a2 a3 a4 a5 : Value) (H : AHeap) {r : Value × AHeap} (h : Qq Ye Ym Yg Tryd.prog CC a0 a1 a2 a3 a4 a5 H (Yi Tryd.prog [.cell 12 T.api_Job]) = some r) : CC F.law_taken [a0, a1, a2, a3, a4, a5] H = some (tidy H r) := YA (by kernel_rfl) ((s_law_taken_eq Yd CC Yo a0 a1 a2 a3 a4 a5 H).trans (Eq.trans (show Qq Yd.b.g Yd.c Yd.s Tryd.prog CC a0 a1 a2 a3 a4 a5 H (Yi Tryd.prog [.cell 12 T.api_Job]) = Qq Ye Ym Yg Tryd.prog CC a0 a1 a2 a3 a4 a5 H (Yi Tryd.prog [.cell 12 T.api_Job]) by kernel_rfl) h))
theorem WI (a0 a1 a2 : Value) (H : AHeap) {r : Value × AHeap} (h : Y0 Ye Ym Yg Tryd.prog CC a0 a1 a2 H (Yi Tryd.prog [.cell 6 T.api_Job, .tmp 7]) = some r) : CC F.jobs_Queue_taken [a0, a1, a2] H = some (tidy H r) := YA (by kernel_rfl) ((s_jobs_Queue_taken_eq Yd CC Yo a0 a1 a2 H).trans (Eq.trans (show Y0 Yd.b.g Yd.c Yd.s Tryd.prog CC a0 a1 a2 H (Yi Tryd.prog [.cell 6 T.api_Job, .tmp 7]) = Y0 Ye Ym Yg Tryd.prog CC a0 a1 a2 H (Yi Tryd.prog [.cell 6 T.api_Job, .tmp 7]) by kernel_rfl) h))
theorem Zb (a0 a1 : Value) (H : AHeap) {r : Value × AHeap} (h : Wj Ye Ym Yg Tryd.prog CC a0 a1 H (Yi Tryd.prog [.tmp 4]) = some r) : CC F.jobs_Queue_back [a0, a1] H = some (tidy H r) := YA (by kernel_rfl) ((s_jobs_Queue_back_eq Yd CC Yo a0 a1 H).trans (Eq.trans (show Wj Yd.b.g Yd.c Yd.s Tryd.prog CC a0 a1 H (Yi Tryd.prog [.tmp 4]) = Wj Ye Ym Yg Tryd.prog CC a0 a1 H (Yi Tryd.prog [.tmp 4]) by kernel_rfl) h))
theorem ZX (a0 a1 : Value) (H : AHeap) {r : Value × AHeap} (h : WA Ye Ym Yg Tryd.prog CC a0 a1 H (Yi Tryd.prog [.cell 4 T.api_Job, .tmp 5]) = some r) : CC F.jobs_Queue_Get [a0, a1] H = some (tidy H r) := YA (by kernel_rfl) ((s_jobs_Queue_Get_eq Yd CC Yo a0 a1 H).trans (Eq.trans (show WA Yd.b.g Yd.c Yd.s Tryd.prog CC a0 a1 H (Yi Tryd.prog [.cell 4 T.api_Job, .tmp 5]) = WA Ye Ym Yg Tryd.prog CC a0 a1 H (Yi Tryd.prog [.cell 4 T.api_Job, .tmp 5]) by kernel_rfl) h))
theorem UL (a0 : Value) (H : AHeap) {r : Value × AHeap} (h : XM Ye Ym Yg Tryd.prog CC a0 H (Yi Tryd.prog [.tmp 2]) = some r) : CC F.jobs_Queue_none [a0] H = some (tidy H r) := YA (by kernel_rfl) ((s_jobs_Queue_none_eq Yd CC Yo a0 H).trans (Eq.trans (show XM Yd.b.g Yd.c Yd.s Tryd.prog CC a0 H (Yi Tryd.prog [.tmp 2]) = XM Ye Ym Yg Tryd.prog CC a0 H (Yi Tryd.prog [.tmp 2]) by kernel_rfl) h))
noncomputable def XQ (v5 v6 v8 v24 v25 v26 : Value) (H : AHeap) (k : K) : Res := YH Yd Tryd.prog hints CC Yo F.jobs_Queue_in 0 [(5, v5), (6, v6), (8, v8), (24, v24), (25, v25), (26, v26)] H k
theorem UF (v5 v6 v8 v24 v25 v26 : Value) (H : AHeap) (k : K) : XQ v5 v6 v8 v24 v25 v26 H k = XB Ye Ym Yg Tryd.prog CC XQ v5 v6 v8 v24 v25 v26 H (Ys (fun T H => XQ (get T 5) (get T 6) (get T 8) (get T 24) (get T 25) (get T 26) H k) k) := ((Xe (by kernel_rfl) rfl H k).trans (s_jobs_Queue_in_b0_eq Yd CC Yo v5 v6 v8 v24 v25 v26 H _)).trans (by kernel_rfl)
theorem d_jobs_Queue_in (a0 a1 : Value) (H : AHeap) {r : Value × AHeap} (h : Vt Ye Ym Yg Tryd.prog CC XQ a0 a1 H (Yi Tryd.prog [.tmp 4]) = some r) : CC F.jobs_Queue_in [a0, a1] H = some (tidy H r) := YA (by kernel_rfl) ((s_jobs_Queue_in_eq Yd CC Yo a0 a1 H).trans (Eq.trans (show Vt Yd.b.g Yd.c Yd.s Tryd.prog CC (fun v5 v6 v8 v24 v25 v26 H k => YH Yd Tryd.prog hints CC Yo F.jobs_Queue_in 0 [(5, v5), (6, v6), (8, v8), (24, v24), (25, v25), (26, v26)] H k) a0 a1 H (Yi Tryd.prog [.tmp 4]) = Vt Ye Ym Yg Tryd.prog CC XQ a0 a1 H (Yi Tryd.prog [.tmp 4]) by kernel_rfl) h))
theorem d_jobs_Queue_set (a0 a1 : Value) (H : AHeap) {r : Value × AHeap} (h : XI Ye Ym Yg Tryd.prog CC a0 a1 H (Yi Tryd.prog [.tmp 4]) = some r) : CC F.jobs_Queue_set [a0, a1] H = some (tidy H r) := YA (by kernel_rfl) ((s_jobs_Queue_set_eq Yd CC Yo a0 a1 H).trans (Eq.trans (show XI Yd.b.g Yd.c Yd.s Tryd.prog CC a0 a1 H (Yi Tryd.prog [.tmp 4]) = XI Ye Ym Yg Tryd.prog CC a0 a1 H (Yi Tryd.prog [.tmp 4]) by kernel_rfl) h))
theorem d_jobs_number (a0 : Value) (H : AHeap) {r : Value × AHeap} (h : Ue Ye Ym Yg Tryd.prog CC a0 H (Yi Tryd.prog [.cell 2 T.api_Cell]) = some r) : CC F.jobs_number [a0] H = some (tidy H r) := YA (by kernel_rfl) ((s_jobs_number_eq Yd CC Yo a0 H).trans (Eq.trans (show Ue Yd.b.g Yd.c Yd.s Tryd.prog CC a0 H (Yi Tryd.prog [.cell 2 T.api_Cell]) = Ue Ye Ym Yg Tryd.prog CC a0 H (Yi Tryd.prog [.cell 2 T.api_Cell]) by kernel_rfl) h))
theorem VP (a0 a1 : Value) (H : AHeap) {r : Value × AHeap} (h : Xd Ye Ym Yg Tryd.prog CC a0 a1 H (Yi Tryd.prog [.tmp 4, .tmp 5]) = some r) : CC F.model_Model_Delete [a0, a1] H = some (tidy H r) := YA (by kernel_rfl) ((ZQ Yd CC Yo a0 a1 H).trans (Eq.trans (show Xd Yd.b.g Yd.c Yd.s Tryd.prog CC a0 a1 H (Yi Tryd.prog [.tmp 4, .tmp 5]) = Xd Ye Ym Yg Tryd.prog CC a0 a1 H (Yi Tryd.prog [.tmp 4, .tmp 5]) by kernel_rfl) h))
theorem UQ (a0 a1 : Value) (H : AHeap) {r : Value × AHeap} (h : XP Ye Ym Yg Tryd.prog CC a0 a1 H (Yi Tryd.prog [.tmp 4, .tmp 5]) = some r) : CC F.model_Model_Get [a0, a1] H = some (tidy H r) := YA (by kernel_rfl) ((s_model_Model_Get_eq Yd CC Yo a0 a1 H).trans (Eq.trans (show XP Yd.b.g Yd.c Yd.s Tryd.prog CC a0 a1 H (Yi Tryd.prog [.tmp 4, .tmp 5]) = XP Ye Ym Yg Tryd.prog CC a0 a1 H (Yi Tryd.prog [.tmp 4, .tmp 5]) by kernel_rfl) h))
noncomputable def Xi (v1 v2 v3 v8 v27 v28 v29 : Value) (H : AHeap) (k : K) : Res := YH Yd Tryd.prog hints CC Yo F.rows_Read 0 [(1, v1), (2, v2), (3, v3), (8, v8), (27, v27), (28, v28), (29, v29)] H k
noncomputable def Xh (v1 v2 v3 v8 v10 v27 v28 v29 v41 v42 v43 : Value) (H : AHeap) (k : K) : Res := YH Yd Tryd.prog hints CC Yo F.rows_Read 1 [(1, v1), (2, v2), (3, v3), (8, v8), (10, v10), (27, v27), (28, v28), (29, v29), (41, v41), (42, v42), (43, v43)] H k
theorem Vw (v1 v2 v3 v8 v27 v28 v29 : Value) (H : AHeap) (k : K) : Xi v1 v2 v3 v8 v27 v28 v29 H k = We Ye Ym Yg Tryd.prog CC Xi Xh v1 v2 v3 v8 v27 v28 v29 H (Ys (fun T H => Xi (get T 1) (get T 2) (get T 3) (get T 8) (get T 27) (get T 28) (get T 29) H k) k) := ((Xe (by kernel_rfl) rfl H k).trans (s_rows_Read_b0_eq Yd CC Yo v1 v2 v3 v8 v27 v28 v29 H _)).trans (by kernel_rfl)
theorem Qf (v1 v2 v3 v8 v10 v27 v28 v29 v41 v42 v43 : Value) (H : AHeap) (k : K) : Xh v1 v2 v3 v8 v10 v27 v28 v29 v41 v42 v43 H k = W4 Ye Ym Yg Tryd.prog CC Xi Xh v1 v2 v3 v8 v10 v27 v28 v29 v41 v42 v43 H (Ys (fun T H => Xh (get T 1) (get T 2) (get T 3) (get T 8) (get T 10) (get T 27) (get T 28) (get T 29) (get T 41) (get T 42) (get T 43) H k) k) := ((Xe (by kernel_rfl) rfl H k).trans (s_rows_Read_b1_eq Yd CC Yo v1 v2 v3 v8 v10 v27 v28 v29 v41 v42 v43 H _)).trans (by kernel_rfl)
theorem Vh (a0 a1 a2 : Value) (H : AHeap) {r : Value × AHeap} (h : XV Ye Ym Yg Tryd.prog CC Xi Xh a0 a1 a2 H (Yi Tryd.prog [.tmp 6, .tmp 7]) = some r) : CC F.rows_Read [a0, a1, a2] H = some (tidy H r) := YA (by kernel_rfl) ((s_rows_Read_eq Yd CC Yo a0 a1 a2 H).trans (Eq.trans (show XV Yd.b.g Yd.c Yd.s Tryd.prog CC (fun v1 v2 v3 v8 v27 v28 v29 H k => YH Yd Tryd.prog hints CC Yo F.rows_Read 0 [(1, v1), (2, v2), (3, v3), (8, v8), (27, v27), (28, v28), (29, v29)] H k) (fun v1 v2 v3 v8 v10 v27 v28 v29 v41 v42 v43 H k => YH Yd Tryd.prog hints CC Yo F.rows_Read 1 [(1, v1), (2, v2), (3, v3), (8, v8), (10, v10), (27, v27), (28, v28), (29, v29), (41, v41), (42, v42), (43, v43)] H k) a0 a1 a2 H (Yi Tryd.prog [.tmp 6, .tmp 7]) = XV Ye Ym Yg Tryd.prog CC Xi Xh a0 a1 a2 H (Yi Tryd.prog [.tmp 6, .tmp 7]) by kernel_rfl) h))
theorem d_jobs_table (H : AHeap) {r : Value × AHeap} (h : UR Ye Ym Yg Tryd.prog CC H (Yi Tryd.prog [.cell 0 T.api_Table]) = some r) : CC F.jobs_table [] H = some (tidy H r) := YA (by kernel_rfl) ((s_jobs_table_eq Yd CC Yo H).trans (Eq.trans (show UR Yd.b.g Yd.c Yd.s Tryd.prog CC H (Yi Tryd.prog [.cell 0 T.api_Table]) = UR Ye Ym Yg Tryd.prog CC H (Yi Tryd.prog [.cell 0 T.api_Table]) by kernel_rfl) h))
theorem d_jobs_job (a0 : Value) (H : AHeap) {r : Value × AHeap} (h : U9 Ye Ym Yg Tryd.prog CC a0 H (Yi Tryd.prog [.cell 2 T.api_Job]) = some r) : CC F.jobs_job [a0] H = some (tidy H r) := YA (by kernel_rfl) ((s_jobs_job_eq Yd CC Yo a0 H).trans (Eq.trans (show U9 Yd.b.g Yd.c Yd.s Tryd.prog CC a0 H (Yi Tryd.prog [.cell 2 T.api_Job]) = U9 Ye Ym Yg Tryd.prog CC a0 H (Yi Tryd.prog [.cell 2 T.api_Job]) by kernel_rfl) h))
noncomputable def Vv (v4 v7 : Value) (H : AHeap) (k : K) : Res := YH Yd Tryd.prog hints CC Yo F.rows_Span 0 [(4, v4), (7, v7)] H k
theorem ZA (v4 v7 : Value) (H : AHeap) (k : K) : Vv v4 v7 H k = VM Ye Ym Yg Tryd.prog CC Vv v4 v7 H (Ys (fun T H => Vv (get T 4) (get T 7) H k) k) := ((Xe (by kernel_rfl) rfl H k).trans (s_rows_Span_b0_eq Yd CC Yo v4 v7 H _)).trans (by kernel_rfl)
theorem d_rows_Span (a0 a1 : Value) (H : AHeap) {r : Value × AHeap} (h : VH Ye Ym Yg Tryd.prog CC Vv a0 a1 H (Yi Tryd.prog [.tmp 4, .tmp 5, .tmp 6]) = some r) : CC F.rows_Span [a0, a1] H = some (tidy H r) := YA (by kernel_rfl) ((s_rows_Span_eq Yd CC Yo a0 a1 H).trans (Eq.trans (show VH Yd.b.g Yd.c Yd.s Tryd.prog CC (fun v4 v7 H k => YH Yd Tryd.prog hints CC Yo F.rows_Span 0 [(4, v4), (7, v7)] H k) a0 a1 H (Yi Tryd.prog [.tmp 4, .tmp 5, .tmp 6]) = VH Ye Ym Yg Tryd.prog CC Vv a0 a1 H (Yi Tryd.prog [.tmp 4, .tmp 5, .tmp 6]) by kernel_rfl) h))
theorem d_model_Model_Pairs (a0 : Value) (H : AHeap) {r : Value × AHeap} (h : Wr Ye Ym Yg Tryd.prog CC a0 H (Yi Tryd.prog [.tmp 2]) = some r) : CC F.model_Model_Pairs [a0] H = some (tidy H r) := YA (by kernel_rfl) ((Gf Yd CC Yo a0 H).trans (Eq.trans (show Wr Yd.b.g Yd.c Yd.s Tryd.prog CC a0 H (Yi Tryd.prog [.tmp 2]) = Wr Ye Ym Yg Tryd.prog CC a0 H (Yi Tryd.prog [.tmp 2]) by kernel_rfl) h))
theorem QV (a0 a1 : Value) (H : AHeap) {r : Value × AHeap} (h : Vk Ye Ym Yg Tryd.prog CC a0 a1 H (Yi Tryd.prog [.tmp 4, .tmp 5, .tmp 6]) = some r) : CC F.rows_Row [a0, a1] H = some (tidy H r) := YA (by kernel_rfl) ((s_rows_Row_eq Yd CC Yo a0 a1 H).trans (Eq.trans (show Vk Yd.b.g Yd.c Yd.s Tryd.prog CC a0 a1 H (Yi Tryd.prog [.tmp 4, .tmp 5, .tmp 6]) = Vk Ye Ym Yg Tryd.prog CC a0 a1 H (Yi Tryd.prog [.tmp 4, .tmp 5, .tmp 6]) by kernel_rfl) h))
theorem d_jobs_row (a0 : Value) (H : AHeap) {r : Value × AHeap} (h : Un Ye Ym Yg Tryd.prog CC a0 H (Yi Tryd.prog [.tmp 2]) = some r) : CC F.jobs_row [a0] H = some (tidy H r) := YA (by kernel_rfl) ((s_jobs_row_eq Yd CC Yo a0 H).trans (Eq.trans (show Un Yd.b.g Yd.c Yd.s Tryd.prog CC a0 H (Yi Tryd.prog [.tmp 2]) = Un Ye Ym Yg Tryd.prog CC a0 H (Yi Tryd.prog [.tmp 2]) by kernel_rfl) h))
theorem Zc (a0 a1 a2 : Value) (H : AHeap) {r : Value × AHeap} (h : Wh Ye Ym Yg Tryd.prog CC a0 a1 a2 H (Yi Tryd.prog [.tmp 6]) = some r) : CC F.model_Model_Put [a0, a1, a2] H = some (tidy H r) := YA (by kernel_rfl) ((s_model_Model_Put_eq Yd CC Yo a0 a1 a2 H).trans (Eq.trans (show Wh Yd.b.g Yd.c Yd.s Tryd.prog CC a0 a1 a2 H (Yi Tryd.prog [.tmp 6]) = Wh Ye Ym Yg Tryd.prog CC a0 a1 a2 H (Yi Tryd.prog [.tmp 6]) by kernel_rfl) h))
theorem d_model_Model_place (a0 a1 : Value) (H : AHeap) {r : Value × AHeap} (h : Ws Ye Ym Yg Tryd.prog CC a0 a1 H (Yi Tryd.prog [.tmp 4, .tmp 5]) = some r) : CC F.model_Model_place [a0, a1] H = some (tidy H r) := YA (by kernel_rfl) ((Gp Yd CC Yo a0 a1 H).trans (Eq.trans (show Ws Yd.b.g Yd.c Yd.s Tryd.prog CC a0 a1 H (Yi Tryd.prog [.tmp 4, .tmp 5]) = Ws Ye Ym Yg Tryd.prog CC a0 a1 H (Yi Tryd.prog [.tmp 4, .tmp 5]) by kernel_rfl) h))
theorem d_slices_Delete_Pair (a0 a1 a2 : Value) (H : AHeap) {r : Value × AHeap} (h : Wa Ye Ym Yg Tryd.prog CC a0 a1 a2 H (Yi Tryd.prog [.tmp 6]) = some r) : CC F.slices_Delete_Pair [a0, a1, a2] H = some (tidy H r) := YA (by kernel_rfl) ((ZF Yd CC Yo a0 a1 a2 H).trans (Eq.trans (show Wa Yd.b.g Yd.c Yd.s Tryd.prog CC a0 a1 a2 H (Yi Tryd.prog [.tmp 6]) = Wa Ye Ym Yg Tryd.prog CC a0 a1 a2 H (Yi Tryd.prog [.tmp 6]) by kernel_rfl) h))
theorem V5 (a0 : Value) (H : AHeap) {r : Value × AHeap} (h : Xp Ye Ym Yg Tryd.prog CC a0 H (Yi Tryd.prog [.tmp 2]) = some r) : CC F.slices_Clone_Pair [a0] H = some (tidy H r) := YA (by kernel_rfl) ((Gi Yd CC Yo a0 H).trans (Eq.trans (show Xp Yd.b.g Yd.c Yd.s Tryd.prog CC a0 H (Yi Tryd.prog [.tmp 2]) = Xp Ye Ym Yg Tryd.prog CC a0 H (Yi Tryd.prog [.tmp 2]) by kernel_rfl) h))
theorem ZC (a0 a1 a2 : Value) (H : AHeap) {r : Value × AHeap} (h : Wz Ye Ym Yg Tryd.prog CC a0 a1 a2 H (Yi Tryd.prog [.tmp 6, .tmp 7, .tmp 8]) = some r) : CC F.model_Model_at [a0, a1, a2] H = some (tidy H r) := YA (by kernel_rfl) ((s_model_Model_at_eq Yd CC Yo a0 a1 a2 H).trans (Eq.trans (show Wz Yd.b.g Yd.c Yd.s Tryd.prog CC a0 a1 a2 H (Yi Tryd.prog [.tmp 6, .tmp 7, .tmp 8]) = Wz Ye Ym Yg Tryd.prog CC a0 a1 a2 H (Yi Tryd.prog [.tmp 6, .tmp 7, .tmp 8]) by kernel_rfl) h))
theorem V0 (a0 : Value) (H : AHeap) {r : Value × AHeap} (h : X5 Ye Ym Yg Tryd.prog CC a0 H (Yi Tryd.prog [.tmp 2]) = some r) : CC F.rows_Valid [a0] H = some (tidy H r) := YA (by kernel_rfl) ((s_rows_Valid_eq Yd CC Yo a0 H).trans (Eq.trans (show X5 Yd.b.g Yd.c Yd.s Tryd.prog CC a0 H (Yi Tryd.prog [.tmp 2]) = X5 Ye Ym Yg Tryd.prog CC a0 H (Yi Tryd.prog [.tmp 2]) by kernel_rfl) h))
theorem VN (a0 a1 : Value) (H : AHeap) {r : Value × AHeap} (h : X9 Ye Ym Yg Tryd.prog CC a0 a1 H (Yi Tryd.prog [.cell 4 T.api_Cell, .tmp 5, .tmp 6]) = some r) : CC F.rows_take [a0, a1] H = some (tidy H r) := YA (by kernel_rfl) ((s_rows_take_eq Yd CC Yo a0 a1 H).trans (Eq.trans (show X9 Yd.b.g Yd.c Yd.s Tryd.prog CC a0 a1 H (Yi Tryd.prog [.cell 4 T.api_Cell, .tmp 5, .tmp 6]) = X9 Ye Ym Yg Tryd.prog CC a0 a1 H (Yi Tryd.prog [.cell 4 T.api_Cell, .tmp 5, .tmp 6]) by kernel_rfl) h))
noncomputable def Wu (v1 v12 v13 v14 : Value) (H : AHeap) (k : K) : Res := YH Yd Tryd.prog hints CC Yo F.rows_are 0 [(1, v1), (12, v12), (13, v13), (14, v14)] H k
theorem QD (v1 v12 v13 v14 : Value) (H : AHeap) (k : K) : Wu v1 v12 v13 v14 H k = Vu Ye Ym Yg Tryd.prog CC Wu v1 v12 v13 v14 H (Ys (fun T H => Wu (get T 1) (get T 12) (get T 13) (get T 14) H k) k) := ((Xe (by kernel_rfl) rfl H k).trans (s_rows_are_b0_eq Yd CC Yo v1 v12 v13 v14 H _)).trans (by kernel_rfl)
theorem d_rows_are (a0 a1 : Value) (H : AHeap) {r : Value × AHeap} (h : Um Ye Ym Yg Tryd.prog CC Wu a0 a1 H (Yi Tryd.prog [.tmp 4]) = some r) : CC F.rows_are [a0, a1] H = some (tidy H r) := YA (by kernel_rfl) ((s_rows_are_eq Yd CC Yo a0 a1 H).trans (Eq.trans (show Um Yd.b.g Yd.c Yd.s Tryd.prog CC (fun v1 v12 v13 v14 H k => YH Yd Tryd.prog hints CC Yo F.rows_are 0 [(1, v1), (12, v12), (13, v13), (14, v14)] H k) a0 a1 H (Yi Tryd.prog [.tmp 4]) = Um Ye Ym Yg Tryd.prog CC Wu a0 a1 H (Yi Tryd.prog [.tmp 4]) by kernel_rfl) h))
noncomputable def Wy (v0 v7 v8 v9 : Value) (H : AHeap) (k : K) : Res := YH Yd Tryd.prog hints CC Yo F.rows_puts 0 [(0, v0), (7, v7), (8, v8), (9, v9)] H k
theorem r_rows_puts_0 (v0 v7 v8 v9 : Value) (H : AHeap) (k : K) : Wy v0 v7 v8 v9 H k = UO Ye Ym Yg Tryd.prog CC Wy v0 v7 v8 v9 H (Ys (fun T H => Wy (get T 0) (get T 7) (get T 8) (get T 9) H k) k) := ((Xe (by kernel_rfl) rfl H k).trans (s_rows_puts_b0_eq Yd CC Yo v0 v7 v8 v9 H _)).trans (by kernel_rfl)
theorem d_rows_puts (a0 a1 : Value) (H : AHeap) {r : Value × AHeap} (h : Uw Ye Ym Yg Tryd.prog CC Wy a0 a1 H (Yi Tryd.prog [.tmp 4]) = some r) : CC F.rows_puts [a0, a1] H = some (tidy H r) := YA (by kernel_rfl) ((s_rows_puts_eq Yd CC Yo a0 a1 H).trans (Eq.trans (show Uw Yd.b.g Yd.c Yd.s Tryd.prog CC (fun v0 v7 v8 v9 H k => YH Yd Tryd.prog hints CC Yo F.rows_puts 0 [(0, v0), (7, v7), (8, v8), (9, v9)] H k) a0 a1 H (Yi Tryd.prog [.tmp 4]) = Uw Ye Ym Yg Tryd.prog CC Wy a0 a1 H (Yi Tryd.prog [.tmp 4]) by kernel_rfl) h))
noncomputable def YD (v0 v3 v9 v10 v11 : Value) (H : AHeap) (k : K) : Res := YH Yd Tryd.prog hints CC Yo F.slices_Concat_CellKind 0 [(0, v0), (3, v3), (9, v9), (10, v10), (11, v11)] H k
noncomputable def YE (v6 v25 v26 v27 : Value) (H : AHeap) (k : K) : Res := YH Yd Tryd.prog hints CC Yo F.slices_Concat_CellKind 1 [(6, v6), (25, v25), (26, v26), (27, v27)] H k
theorem WL (v0 v3 v9 v10 v11 : Value) (H : AHeap) (k : K) : YD v0 v3 v9 v10 v11 H k = Y9 Ye Ym Yg Tryd.prog CC YD YE v0 v3 v9 v10 v11 H (Ys (fun T H => YD (get T 0) (get T 3) (get T 9) (get T 10) (get T 11) H k) k) := ((Xe (by kernel_rfl) rfl H k).trans (U1 Yd CC Yo v0 v3 v9 v10 v11 H _)).trans (by kernel_rfl)
theorem WF (v6 v25 v26 v27 : Value) (H : AHeap) (k : K) : YE v6 v25 v26 v27 H k = Xa Ye Ym Yg Tryd.prog CC YD YE v6 v25 v26 v27 H (Ys (fun T H => YE (get T 6) (get T 25) (get T 26) (get T 27) H k) k) := ((Xe (by kernel_rfl) rfl H k).trans (U5 Yd CC Yo v6 v25 v26 v27 H _)).trans (by kernel_rfl)
theorem Zs (a0 : Value) (H : AHeap) {r : Value × AHeap} (h : Xx Ye Ym Yg Tryd.prog CC YD YE a0 H (Yi Tryd.prog [.tmp 2]) = some r) : CC F.slices_Concat_CellKind [a0] H = some (tidy H r) := YA (by kernel_rfl) ((QG Yd CC Yo a0 H).trans (Eq.trans (show Xx Yd.b.g Yd.c Yd.s Tryd.prog CC (fun v0 v3 v9 v10 v11 H k => YH Yd Tryd.prog hints CC Yo F.slices_Concat_CellKind 0 [(0, v0), (3, v3), (9, v9), (10, v10), (11, v11)] H k) (fun v6 v25 v26 v27 H k => YH Yd Tryd.prog hints CC Yo F.slices_Concat_CellKind 1 [(6, v6), (25, v25), (26, v26), (27, v27)] H k) a0 H (Yi Tryd.prog [.tmp 2]) = Xx Ye Ym Yg Tryd.prog CC YD YE a0 H (Yi Tryd.prog [.tmp 2]) by kernel_rfl) h))
theorem UE (a0 a1 a2 a3 : Value) (H : AHeap) {r : Value × AHeap} (h : XO Ye Ym Yg Tryd.prog CC a0 a1 a2 a3 H (Yi Tryd.prog [.tmp 8]) = some r) : CC F.model_Model_set [a0, a1, a2, a3] H = some (tidy H r) := YA (by kernel_rfl) ((s_model_Model_set_eq Yd CC Yo a0 a1 a2 a3 H).trans (Eq.trans (show XO Yd.b.g Yd.c Yd.s Tryd.prog CC a0 a1 a2 a3 H (Yi Tryd.prog [.tmp 8]) = XO Ye Ym Yg Tryd.prog CC a0 a1 a2 a3 H (Yi Tryd.prog [.tmp 8]) by kernel_rfl) h))
noncomputable def YK (v0 v1 v2 v8 v9 v10 : Value) (H : AHeap) (k : K) : Res := YH Yd Tryd.prog hints CC Yo F.slices_BinarySearchFunc_string 0 [(0, v0), (1, v1), (2, v2), (8, v8), (9, v9), (10, v10)] H k
theorem WC (v0 v1 v2 v8 v9 v10 : Value) (H : AHeap) (k : K) : YK v0 v1 v2 v8 v9 v10 H k = YS Ye Ym Yg Tryd.prog CC YK v0 v1 v2 v8 v9 v10 H (Ys (fun T H => YK (get T 0) (get T 1) (get T 2) (get T 8) (get T 9) (get T 10) H k) k) := ((Xe (by kernel_rfl) rfl H k).trans (VS Yd CC Yo v0 v1 v2 v8 v9 v10 H _)).trans (by kernel_rfl)
theorem WV (a0 a1 a2 : Value) (H : AHeap) {r : Value × AHeap} (h : YM Ye Ym Yg Tryd.prog CC YK a0 a1 a2 H (Yi Tryd.prog [.tmp 6, .tmp 7]) = some r) : CC F.slices_BinarySearchFunc_string [a0, a1, a2] H = some (tidy H r) := YA (by kernel_rfl) ((Ua Yd CC Yo a0 a1 a2 H).trans (Eq.trans (show YM Yd.b.g Yd.c Yd.s Tryd.prog CC (fun v0 v1 v2 v8 v9 v10 H k => YH Yd Tryd.prog hints CC Yo F.slices_BinarySearchFunc_string 0 [(0, v0), (1, v1), (2, v2), (8, v8), (9, v9), (10, v10)] H k) a0 a1 a2 H (Yi Tryd.prog [.tmp 6, .tmp 7]) = YM Ye Ym Yg Tryd.prog CC YK a0 a1 a2 H (Yi Tryd.prog [.tmp 6, .tmp 7]) by kernel_rfl) h))
theorem d_model_Model_place_1 (a0 a1 : Value) (H : AHeap) {r : Value × AHeap} (h : XZ Ye Ym Yg Tryd.prog CC a0 a1 H (Yi Tryd.prog [.tmp 4]) = some r) : CC F.model_Model_place_1 [a0, a1] H = some (tidy H r) := YA (by kernel_rfl) ((Zp Yd CC Yo a0 a1 H).trans (Eq.trans (show XZ Yd.b.g Yd.c Yd.s Tryd.prog CC a0 a1 H (Yi Tryd.prog [.tmp 4]) = XZ Ye Ym Yg Tryd.prog CC a0 a1 H (Yi Tryd.prog [.tmp 4]) by kernel_rfl) h))
theorem d_keys_Compare (a0 a1 : Value) (H : AHeap) {r : Value × AHeap} (h : VU Ye Ym Yg Tryd.prog CC a0 a1 H (Yi Tryd.prog [.tmp 4]) = some r) : CC F.keys_Compare [a0, a1] H = some (tidy H r) := YA (by kernel_rfl) ((s_keys_Compare_eq Yd CC Yo a0 a1 H).trans (Eq.trans (show VU Yd.b.g Yd.c Yd.s Tryd.prog CC a0 a1 H (Yi Tryd.prog [.tmp 4]) = VU Ye Ym Yg Tryd.prog CC a0 a1 H (Yi Tryd.prog [.tmp 4]) by kernel_rfl) h))
theorem Qc (a0 a1 : Value) (H : AHeap) {r : Value × AHeap} (h : Wv Ye Ym Yg Tryd.prog CC a0 a1 H (Yi Tryd.prog [.tmp 4]) = some r) : CC F.model_check [a0, a1] H = some (tidy H r) := YA (by kernel_rfl) ((s_model_check_eq Yd CC Yo a0 a1 H).trans (Eq.trans (show Wv Yd.b.g Yd.c Yd.s Tryd.prog CC a0 a1 H (Yi Tryd.prog [.tmp 4]) = Wv Ye Ym Yg Tryd.prog CC a0 a1 H (Yi Tryd.prog [.tmp 4]) by kernel_rfl) h))
theorem Vd (a0 a1 : Value) (H : AHeap) {r : Value × AHeap} (h : YV Ye Ym Yg Tryd.prog CC a0 a1 H (Yi Tryd.prog [.tmp 4]) = some r) : CC F.slices_ContainsFunc_CellKind [a0, a1] H = some (tidy H r) := YA (by kernel_rfl) ((UB Yd CC Yo a0 a1 H).trans (Eq.trans (show YV Yd.b.g Yd.c Yd.s Tryd.prog CC a0 a1 H (Yi Tryd.prog [.tmp 4]) = YV Ye Ym Yg Tryd.prog CC a0 a1 H (Yi Tryd.prog [.tmp 4]) by kernel_rfl) h))
theorem d_rows_Valid_1 (a0 : Value) (H : AHeap) {r : Value × AHeap} (h : VR Ye Ym Yg Tryd.prog CC a0 H (Yi Tryd.prog [.tmp 2]) = some r) : CC F.rows_Valid_1 [a0] H = some (tidy H r) := YA (by kernel_rfl) ((s_rows_Valid_1_eq Yd CC Yo a0 H).trans (Eq.trans (show VR Yd.b.g Yd.c Yd.s Tryd.prog CC a0 H (Yi Tryd.prog [.tmp 2]) = VR Ye Ym Yg Tryd.prog CC a0 H (Yi Tryd.prog [.tmp 2]) by kernel_rfl) h))
theorem d_rows_kind (a0 : Value) (H : AHeap) {r : Value × AHeap} (h : Us Ye Ym Yg Tryd.prog CC a0 H (Yi Tryd.prog [.tmp 2]) = some r) : CC F.rows_kind [a0] H = some (tidy H r) := YA (by kernel_rfl) ((s_rows_kind_eq Yd CC Yo a0 H).trans (Eq.trans (show Us Yd.b.g Yd.c Yd.s Tryd.prog CC a0 H (Yi Tryd.prog [.tmp 2]) = Us Ye Ym Yg Tryd.prog CC a0 H (Yi Tryd.prog [.tmp 2]) by kernel_rfl) h))
noncomputable def Wp (v0 v1 v2 v9 v23 v24 v25 : Value) (H : AHeap) (k : K) : Res := YH Yd Tryd.prog hints CC Yo F.rows_number 0 [(0, v0), (1, v1), (2, v2), (9, v9), (23, v23), (24, v24), (25, v25)] H k
theorem r_rows_number_0 (v0 v1 v2 v9 v23 v24 v25 : Value) (H : AHeap) (k : K) : Wp v0 v1 v2 v9 v23 v24 v25 H k = Vb Ye Ym Yg Tryd.prog CC Wp v0 v1 v2 v9 v23 v24 v25 H (Ys (fun T H => Wp (get T 0) (get T 1) (get T 2) (get T 9) (get T 23) (get T 24) (get T 25) H k) k) := ((Xe (by kernel_rfl) rfl H k).trans (s_rows_number_b0_eq Yd CC Yo v0 v1 v2 v9 v23 v24 v25 H _)).trans (by kernel_rfl)
theorem Zw (a0 a1 a2 : Value) (H : AHeap) {r : Value × AHeap} (h : W0 Ye Ym Yg Tryd.prog CC Wp a0 a1 a2 H (Yi Tryd.prog [.tmp 6, .tmp 7, .tmp 8]) = some r) : CC F.rows_number [a0, a1, a2] H = some (tidy H r) := YA (by kernel_rfl) ((s_rows_number_eq Yd CC Yo a0 a1 a2 H).trans (Eq.trans (show W0 Yd.b.g Yd.c Yd.s Tryd.prog CC (fun v0 v1 v2 v9 v23 v24 v25 H k => YH Yd Tryd.prog hints CC Yo F.rows_number 0 [(0, v0), (1, v1), (2, v2), (9, v9), (23, v23), (24, v24), (25, v25)] H k) a0 a1 a2 H (Yi Tryd.prog [.tmp 6, .tmp 7, .tmp 8]) = W0 Ye Ym Yg Tryd.prog CC Wp a0 a1 a2 H (Yi Tryd.prog [.tmp 6, .tmp 7, .tmp 8]) by kernel_rfl) h))
theorem Ub (a0 a1 : Value) (H : AHeap) {r : Value × AHeap} (h : X6 Ye Ym Yg Tryd.prog CC a0 a1 H (Yi Tryd.prog [.tmp 4]) = some r) : CC F.rows_proper [a0, a1] H = some (tidy H r) := YA (by kernel_rfl) ((s_rows_proper_eq Yd CC Yo a0 a1 H).trans (Eq.trans (show X6 Yd.b.g Yd.c Yd.s Tryd.prog CC a0 a1 H (Yi Tryd.prog [.tmp 4]) = X6 Ye Ym Yg Tryd.prog CC a0 a1 H (Yi Tryd.prog [.tmp 4]) by kernel_rfl) h))
noncomputable def Vl (v0 v7 v49 v50 : Value) (H : AHeap) (k : K) : Res := YH Yd Tryd.prog hints CC Yo F.rows_put 0 [(0, v0), (7, v7), (49, v49), (50, v50)] H k
theorem r_rows_put_0 (v0 v7 v49 v50 : Value) (H : AHeap) (k : K) : Vl v0 v7 v49 v50 H k = Qa Ye Ym Yg Tryd.prog CC Vl v0 v7 v49 v50 H (Ys (fun T H => Vl (get T 0) (get T 7) (get T 49) (get T 50) H k) k) := ((Xe (by kernel_rfl) rfl H k).trans (s_rows_put_b0_eq Yd CC Yo v0 v7 v49 v50 H _)).trans (by kernel_rfl)
theorem U7 (a0 a1 : Value) (H : AHeap) {r : Value × AHeap} (h : WZ Ye Ym Yg Tryd.prog CC Vl a0 a1 H (Yi Tryd.prog [.tmp 4]) = some r) : CC F.rows_put [a0, a1] H = some (tidy H r) := YA (by kernel_rfl) ((s_rows_put_eq Yd CC Yo a0 a1 H).trans (Eq.trans (show WZ Yd.b.g Yd.c Yd.s Tryd.prog CC (fun v0 v7 v49 v50 H k => YH Yd Tryd.prog hints CC Yo F.rows_put 0 [(0, v0), (7, v7), (49, v49), (50, v50)] H k) a0 a1 H (Yi Tryd.prog [.tmp 4]) = WZ Ye Ym Yg Tryd.prog CC Vl a0 a1 H (Yi Tryd.prog [.tmp 4]) by kernel_rfl) h))
theorem Z5 (a0 a1 : Value) (H : AHeap) {r : Value × AHeap} (h : XN Ye Ym Yg Tryd.prog CC a0 a1 H (Yi Tryd.prog [.tmp 4]) = some r) : CC F.slices_Grow_CellKind [a0, a1] H = some (tidy H r) := YA (by kernel_rfl) ((Q7 Yd CC Yo a0 a1 H).trans (Eq.trans (show XN Yd.b.g Yd.c Yd.s Tryd.prog CC a0 a1 H (Yi Tryd.prog [.tmp 4]) = XN Ye Ym Yg Tryd.prog CC a0 a1 H (Yi Tryd.prog [.tmp 4]) by kernel_rfl) h))
theorem d_strings_Compare (a0 a1 : Value) (H : AHeap) {r : Value × AHeap} (h : WW Ye Ym Yg Tryd.prog CC a0 a1 H (Yi Tryd.prog [.tmp 4]) = some r) : CC F.strings_Compare [a0, a1] H = some (tidy H r) := YA (by kernel_rfl) ((s_strings_Compare_eq Yd CC Yo a0 a1 H).trans (Eq.trans (show WW Yd.b.g Yd.c Yd.s Tryd.prog CC a0 a1 H (Yi Tryd.prog [.tmp 4]) = WW Ye Ym Yg Tryd.prog CC a0 a1 H (Yi Tryd.prog [.tmp 4]) by kernel_rfl) h))
theorem Qu (a0 a1 : Value) (H : AHeap) {r : Value × AHeap} (h : Y7 Ye Ym Yg Tryd.prog CC a0 a1 H (Yi Tryd.prog [.tmp 4]) = some r) : CC F.slices_ContainsFunc_string [a0, a1] H = some (tidy H r) := YA (by kernel_rfl) ((US Yd CC Yo a0 a1 H).trans (Eq.trans (show Y7 Yd.b.g Yd.c Yd.s Tryd.prog CC a0 a1 H (Yi Tryd.prog [.tmp 4]) = Y7 Ye Ym Yg Tryd.prog CC a0 a1 H (Yi Tryd.prog [.tmp 4]) by kernel_rfl) h))
theorem d_model_check_1 (a0 : Value) (H : AHeap) {r : Value × AHeap} (h : Vs Ye Ym Yg Tryd.prog CC a0 H (Yi Tryd.prog [.tmp 2]) = some r) : CC F.model_check_1 [a0] H = some (tidy H r) := YA (by kernel_rfl) ((s_model_check_1_eq Yd CC Yo a0 H).trans (Eq.trans (show Vs Yd.b.g Yd.c Yd.s Tryd.prog CC a0 H (Yi Tryd.prog [.tmp 2]) = Vs Ye Ym Yg Tryd.prog CC a0 H (Yi Tryd.prog [.tmp 2]) by kernel_rfl) h))
noncomputable def Yx (v0 v1 v7 v8 : Value) (H : AHeap) (k : K) : Res := YH Yd Tryd.prog hints CC Yo F.slices_IndexFunc_CellKind 0 [(0, v0), (1, v1), (7, v7), (8, v8)] H k
theorem Xu (v0 v1 v7 v8 : Value) (H : AHeap) (k : K) : Yx v0 v1 v7 v8 H k = YU Ye Ym Yg Tryd.prog CC Yx v0 v1 v7 v8 H (Ys (fun T H => Yx (get T 0) (get T 1) (get T 7) (get T 8) H k) k) := ((Xe (by kernel_rfl) rfl H k).trans (UD Yd CC Yo v0 v1 v7 v8 H _)).trans (by kernel_rfl)
theorem VE (a0 a1 : Value) (H : AHeap) {r : Value × AHeap} (h : Y2 Ye Ym Yg Tryd.prog CC Yx a0 a1 H (Yi Tryd.prog [.tmp 4]) = some r) : CC F.slices_IndexFunc_CellKind [a0, a1] H = some (tidy H r) := YA (by kernel_rfl) ((U2 Yd CC Yo a0 a1 H).trans (Eq.trans (show Y2 Yd.b.g Yd.c Yd.s Tryd.prog CC (fun v0 v1 v7 v8 H k => YH Yd Tryd.prog hints CC Yo F.slices_IndexFunc_CellKind 0 [(0, v0), (1, v1), (7, v7), (8, v8)] H k) a0 a1 H (Yi Tryd.prog [.tmp 4]) = Y2 Ye Ym Yg Tryd.prog CC Yx a0 a1 H (Yi Tryd.prog [.tmp 4]) by kernel_rfl) h))
noncomputable def Wm (v0 v3 : Value) (H : AHeap) (k : K) : Res := YH Yd Tryd.prog hints CC Yo F.rows_digits 0 [(0, v0), (3, v3)] H k
theorem Qs (v0 v3 : Value) (H : AHeap) (k : K) : Wm v0 v3 H k = W6 Ye Ym Yg Tryd.prog CC Wm v0 v3 H (Ys (fun T H => Wm (get T 0) (get T 3) H k) k) := ((Xe (by kernel_rfl) rfl H k).trans (s_rows_digits_b0_eq Yd CC Yo v0 v3 H _)).trans (by kernel_rfl)
theorem d_rows_digits (a0 : Value) (H : AHeap) {r : Value × AHeap} (h : Vx Ye Ym Yg Tryd.prog CC Wm a0 H (Yi Tryd.prog [.tmp 2]) = some r) : CC F.rows_digits [a0] H = some (tidy H r) := YA (by kernel_rfl) ((s_rows_digits_eq Yd CC Yo a0 H).trans (Eq.trans (show Vx Yd.b.g Yd.c Yd.s Tryd.prog CC (fun v0 v3 H k => YH Yd Tryd.prog hints CC Yo F.rows_digits 0 [(0, v0), (3, v3)] H k) a0 H (Yi Tryd.prog [.tmp 2]) = Vx Ye Ym Yg Tryd.prog CC Wm a0 H (Yi Tryd.prog [.tmp 2]) by kernel_rfl) h))
theorem UM (a0 a1 : Value) (H : AHeap) {r : Value × AHeap} (h : YY Ye Ym Yg Tryd.prog CC a0 a1 H (Yi Tryd.prog [.tmp 4]) = some r) : CC F.internal_bytealg_CompareString [a0, a1] H = some (tidy H r) := YA (by kernel_rfl) ((Uc Yd CC Yo a0 a1 H).trans (Eq.trans (show YY Yd.b.g Yd.c Yd.s Tryd.prog CC a0 a1 H (Yi Tryd.prog [.tmp 4]) = YY Ye Ym Yg Tryd.prog CC a0 a1 H (Yi Tryd.prog [.tmp 4]) by kernel_rfl) h))
noncomputable def Y1 (v0 v1 v7 v8 : Value) (H : AHeap) (k : K) : Res := YH Yd Tryd.prog hints CC Yo F.slices_IndexFunc_string 0 [(0, v0), (1, v1), (7, v7), (8, v8)] H k
theorem VF (v0 v1 v7 v8 : Value) (H : AHeap) (k : K) : Y1 v0 v1 v7 v8 H k = Y6 Ye Ym Yg Tryd.prog CC Y1 v0 v1 v7 v8 H (Ys (fun T H => Y1 (get T 0) (get T 1) (get T 7) (get T 8) H k) k) := ((Xe (by kernel_rfl) rfl H k).trans (UV Yd CC Yo v0 v1 v7 v8 H _)).trans (by kernel_rfl)
theorem Q9 (a0 a1 : Value) (H : AHeap) {r : Value × AHeap} (h : Xl Ye Ym Yg Tryd.prog CC Y1 a0 a1 H (Yi Tryd.prog [.tmp 4]) = some r) : CC F.slices_IndexFunc_string [a0, a1] H = some (tidy H r) := YA (by kernel_rfl) ((Qt Yd CC Yo a0 a1 H).trans (Eq.trans (show Xl Yd.b.g Yd.c Yd.s Tryd.prog CC (fun v0 v1 v7 v8 H k => YH Yd Tryd.prog hints CC Yo F.slices_IndexFunc_string 0 [(0, v0), (1, v1), (7, v7), (8, v8)] H k) a0 a1 H (Yi Tryd.prog [.tmp 4]) = Xl Ye Ym Yg Tryd.prog CC Y1 a0 a1 H (Yi Tryd.prog [.tmp 4]) by kernel_rfl) h))
noncomputable def Y3 (v0 v2 v3 : Value) (H : AHeap) (k : K) : Res := YH Yd Tryd.prog hints CC Yo F.slices_Reverse_byte 0 [(0, v0), (2, v2), (3, v3)] H k
theorem W3 (v0 v2 v3 : Value) (H : AHeap) (k : K) : Y3 v0 v2 v3 H k = Xw Ye Ym Yg Tryd.prog CC Y3 v0 v2 v3 H (Ys (fun T H => Y3 (get T 0) (get T 2) (get T 3) H k) k) := ((Xe (by kernel_rfl) rfl H k).trans (QA Yd CC Yo v0 v2 v3 H _)).trans (by kernel_rfl)
theorem d_slices_Reverse_byte (a0 : Value) (H : AHeap) {r : Value × AHeap} (h : Xv Ye Ym Yg Tryd.prog CC Y3 a0 H (Yi Tryd.prog []) = some r) : CC F.slices_Reverse_byte [a0] H = some (tidy H r) := YA (by kernel_rfl) ((Zo Yd CC Yo a0 H).trans (Eq.trans (show Xv Yd.b.g Yd.c Yd.s Tryd.prog CC (fun v0 v2 v3 H k => YH Yd Tryd.prog hints CC Yo F.slices_Reverse_byte 0 [(0, v0), (2, v2), (3, v3)] H k) a0 H (Yi Tryd.prog []) = Xv Ye Ym Yg Tryd.prog CC Y3 a0 H (Yi Tryd.prog []) by kernel_rfl) h))
end Go.Proofs.YtmiinbhnfojnbaaDoor

namespace Go.Proofs.YtmiinbhnfojnbaaDoor.Eng
open Go
section
variable {H : Type} {enc : TypeId × Value → H}
theorem wrapX {a : Assume} {C : Checked} {os : Os} {f : FuncId} {fn : Func} {s : ChangeSpec} {conds : List PathCond} {Vg fresh handsOn again : Bool} {X : World → Array Value → Prop}
    (hX : ∀ (w w' : World) (args : Array Value), w.heap = w'.heap → X w args → X w' args)
    (own : ownKnob C.prog.godebug = none) (started : os.Started) (noInit : C.prog.inits.idxOf? f = none) (hfn : C.prog.funcs[f]? = some fn)
    (witness : ∃ (w : World) (tape : Tape) (i : Input), w.os = os ∧ (w.forCall tape i).Shaped C.prog ∧ i.vars = [] ∧ Input.okWide C.prog (w.forCall tape i) .any w.heap.size f i ∧
      ((s.pre enc C.prog fn conds Vg (w.forCall tape i).memory i.args ∧ X (w.forCall tape i).memory i.args) ∧ sizedMet enc C.prog fn (OpenSpec.ofChange s) Vg (w.forCall tape i).memory i.args) ∧ a.holds C.prog (lone (Frame.enter C.prog f i.args .normal) [] (w.forCall tape i)))
    (contract : ∀ (W : World) (base : Nat) (args : Array Value) (ds gs : List (DataW H)) (before : List MemPlace),
      (∀ (j : Nat) t v, fn.params[j]? = some t → args[j]? = some v → Value.okWide C.prog W .any base t v) →
      DataW.Whole enc C.prog fn.params.toList s.vars Vg W args.toList ds gs before →
      (DataW.weightsEach C.prog (fn.params.toList ++ s.plain.varTypes C.prog) (ds ++ gs)).all (· ≤ reachBytes) = true →
      W.ShapedOpen C.prog → X W args →
      Calls C.prog f args W fun e W' => ∃ v, e = .returned v ∧ s.post enc C.prog fn Vg fresh handsOn again W args v W') :
    ReturnsInHanded a C os f .any (fun w args => (s.pre enc C.prog fn conds Vg w args ∧ X w args) ∧ sizedMet enc C.prog fn (OpenSpec.ofChange s) Vg w args) (s.post enc C.prog fn Vg fresh handsOn again) := by
  refine returnsInHanded_of_calls own started noInit witness ?_
  intro w tape i _ hsh _ hok hpre _
  obtain ⟨_, _, _, fn', hfn', _, _, _, _, hval⟩ := hok
  have e : fn' = fn := Option.some.inj (hfn'.symm.trans hfn)
  subst e
  obtain ⟨⟨⟨ds, gs, before, hw, hc⟩, hx⟩, hz⟩ := hpre
  have hw' := DataW.Whole.of_heap (w' := w.forCall tape i) (by rfl) hw
  refine (contract (w.forCall tape i) w.heap.size i.args ds gs before hval hw' (hz.weights hw) hsh (hX (w.forCall tape i).memory _ _ rfl hx)).mono fun e W' ⟨v, he, hp⟩ => ?_
  subst he
  exact ChangeSpec.post_blind hp
end
end Go.Proofs.YtmiinbhnfojnbaaDoor.Eng
