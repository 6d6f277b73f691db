/-
  8 texts in one (merge.py): Eng29 Shelf Hints Known Names Sh Ds Eng33.
  Conditions: none. By an AI agent.
-/
import Derived.Test.YtmiinbhnfojnbaaDoorQa3
import Derived.Shelf.Strings.Replace
import Derived.Shelf.Strings.Search3
import Derived.Test.YtmiinbhnfojnbaaDoorProg
import Derived.Test.YtmiinbhnfojnbaaDoorChecked
import Derived.KernelRfl
import Derived.HandedShaped
import Derived.Shelf.Vars
import Derived.Lay
import Derived.PinnedBridge

/-
  The engine, part 29: strings.Index and strings.ReplaceAll taken as a whole, by the kit's contracts (a library variable, internal/bytealg.MaxLen, is asked for; 'globs').
  Conditions: none. By an AI agent.
-/
namespace Go.Proofs.YtmiinbhnfojnbaaDoor.Eng
open Go

def indexP : List Value → AHeap → Res := fun xs H => match xs with
  | [.string s, .string t] => if s.size < 4294967281 then some (.int .i64 (Lib.index s.data.toList t.data.toList), H) else none
  | _ => none

def replP : List Value → AHeap → Res := fun xs H => match xs with
  | [.string s, .string o, .string t] => if s.size < 4294967281 ∧ 1 ≤ o.size ∧ t.size ≤ 100 then some (.string ⟨(Lib.replaceAll s.data.toList o.data.toList t.data.toList).toArray⟩, H) else none
  | _ => none

theorem rvs_str {ι : Emb} {s : ByteArray} {xs : List Value} {args' : List Value} (h : RVs ι (.string s :: xs) args') : ∃ r, args' = .string s :: r ∧ RVs ι xs r := by
  cases h with
  | cons a b => cases a; exact ⟨_, rfl, b⟩

theorem rvs_nil {ι : Emb} {args' : List Value} (h : RVs ι [] args') : args' = [] := by cases h; rfl

theorem index_prim {P : Program} {f : FuncId} (g : Nat) (hgl : (g, GK.int) ∈ globs)
    (hc : ∀ (s sub : ByteArray) (m : Int) (w : World), s.size < 4294967281 → w.cell? ⟨g, 0, none⟩ = some (.int .i64 m) →
      Calls P f #[.string s, .string sub] w fun e w' => e = .returned (.int .i64 (Lib.index s.data.toList sub.data.toList)) ∧ w' = w) :
    (CallAd fun _ args H => indexP args H) ∧ CallOK P fun h args H => if h = f then indexP args H else none := by
  constructor
  · intro _ args H v H' h hl _
    replace h : indexP args H = some (v, H') := h
    unfold indexP at h
    split at h
    · split at h
      · cases h; exact OkV.still hl (.int _ _)
      · cases h
    · cases h
  · intro k args H v H' h2 hl had B ι w args' r ha
    by_cases hg : k = f
    · subst hg
      simp only [if_true] at h2
      unfold indexP at h2
      split at h2
      · split at h2
        · rename_i s t hs
          cases h2
          obtain ⟨a', ea, hA⟩ := rvs_str ha; subst ea
          obtain ⟨a2, ea, hb⟩ := rvs_str hA; subst ea
          cases rvs_nil hb
          obtain ⟨m, hm⟩ := r.glob.int hgl
          refine Calls.mono (hc s t m w hs hm) ?_
          rintro e w' ⟨rfl, rfl⟩
          exact ⟨_, ι, rfl, .int _ _, r, Stp.refl _ _ _ r.dom⟩
        · cases h2
      · cases h2
    · simp [hg] at h2

theorem repl_prim {P : Program} {f : FuncId} (g : Nat) (hgl : (g, GK.int) ∈ globs)
    (hc : ∀ (s old new : ByteArray) (m : Int) (w : World), s.size < 4294967281 → w.cell? ⟨g, 0, none⟩ = some (.int .i64 m) → 1 ≤ old.size → s.size + Lib.countB s old * new.size ≤ 140737488355328 →
      Calls P f #[.string s, .string old, .string new] w fun e w' => e = .returned (.string ⟨(Lib.replaceAll s.data.toList old.data.toList new.data.toList).toArray⟩) ∧ RowKit.Below w.heap.size w w') :
    (CallAd fun _ args H => replP args H) ∧ CallOK P fun h args H => if h = f then replP args H else none := by
  constructor
  · intro _ args H v H' h hl _
    replace h : replP args H = some (v, H') := h
    unfold replP at h
    split at h
    · split at h
      · cases h; exact OkV.still hl (.str _)
      · cases h
    · cases h
  · intro k args H v H' h2 hl had B ι w args' r ha
    by_cases hg : k = f
    · subst hg
      simp only [if_true] at h2
      unfold replP at h2
      split at h2
      · split at h2
        · rename_i s o t hs
          cases h2
          obtain ⟨a', ea, hA⟩ := rvs_str ha; subst ea
          obtain ⟨a2, ea, hb⟩ := rvs_str hA; subst ea
          obtain ⟨a3, ea, hc3⟩ := rvs_str hb; subst ea
          cases rvs_nil hc3
          obtain ⟨m, hm⟩ := r.glob.int hgl
          have hcnt : s.size + Lib.countB s o * t.size ≤ 140737488355328 := by
            have h1 : Lib.countB s o ≤ s.size + 1 := by
              have := Lib.count_le s.data.toList o.data.toList
              simpa [Lib.countB] using this
            have h2 : Lib.countB s o * t.size ≤ (s.size + 1) * 100 := Nat.mul_le_mul h1 hs.2.2
            omega
          refine Calls.mono (hc s o t m w hs.1 hm hs.2.1 hcnt) ?_
          rintro e w' ⟨rfl, hb⟩
          obtain ⟨h3, h4⟩ := below_rel r hb
          exact ⟨_, ι, rfl, .str _, h3, h4⟩
        · cases h2
      · cases h2
    · simp [hg] at h2

end Go.Proofs.YtmiinbhnfojnbaaDoor.Eng

/-
  The kit's contracts of library functions, laid at this program (printed by the kit's tools lay-shelf and lay-plain, cut down by us).
  Conditions: none. By an AI agent.
-/
namespace Go.Proofs
open Go.Shelf Go.RowKit Go.Lib
def Tryd.lays143_ren : Go.Shelf.Ren := ⟨fun | 143 => 61 | 219 => 71 | 217 => 78 | 225 => 79 | 224 => 80 | 267 => 81 | 266 => 90 | 314 => 91 | n => n, fun | 9 => 9 | 3 => 3 | 4 => 4 | 5 => 5 | 46 => 120 | 146 => 144 | 51 => 143 | n => n, fun | 1 => 0 | n => n⟩
theorem Tryd.lays143 : Go.Proofs.Lays.n143 Tryd.prog Tryd.lays143_ren := {
  mixed := by kernel_rfl
  f143 := Tryd.func61.trans (congrArg some (by kernel_rfl))
  f217 := Tryd.func78.trans (congrArg some (by kernel_rfl))
  f219 := Tryd.func71.trans (congrArg some (by kernel_rfl))
  f224 := Tryd.func80.trans (congrArg some (by kernel_rfl))
  f225 := Tryd.func79.trans (congrArg some (by kernel_rfl))
  f266 := Tryd.func90.trans (congrArg some (by kernel_rfl))
  f267 := Tryd.func81.trans (congrArg some (by kernel_rfl))
  f314 := Tryd.func91.trans (congrArg some (by kernel_rfl))
  t3 := Tryd.underlying3
  a3 := Tryd.isAgg3
  z3 := Tryd.sizeOf3
  v3 := Tryd.zeroValue3
  t4 := Tryd.underlying4
  a4 := Tryd.isAgg4
  z4 := Tryd.sizeOf4
  v4 := Tryd.zeroValue4
  t5 := Tryd.underlying5
  a5 := Tryd.isAgg5
  z5 := Tryd.sizeOf5
  v5 := Tryd.zeroValue5
  t9 := Tryd.underlying9
  a9 := Tryd.isAgg9
  z9 := Tryd.sizeOf9
  v9 := Tryd.zeroValue9
  t46 := Tryd.underlying120
  a46 := Tryd.isAgg120
  z46 := Tryd.sizeOf120
  v46 := Tryd.zeroValue120
  t51 := Tryd.underlying143
  a51 := Tryd.isAgg143
  z51 := Tryd.sizeOf143
  v51 := Tryd.zeroValue143
  t146 := Tryd.underlying144
  a146 := Tryd.isAgg144
  z146 := Tryd.sizeOf144
  v146 := Tryd.zeroValue144
  g1 := by kernel_rfl }
theorem Tryd.strings_Index (s sub : ByteArray) (m : Int) (w : World) (hs : s.size < 4294967281) (hm : w.cell? ⟨0, 0, none⟩ = some (.int .i64 m)) :
    Calls Tryd.prog 61 #[.string s, .string sub] w fun e w' => e = .returned (.int .i64 (Lib.index s.data.toList sub.data.toList)) ∧ w' = w := Any.strings_Index Tryd.lays143 s sub m w hs hm
def Tryd.lays155_ren : Go.Shelf.Ren := ⟨fun | 155 => 62 | 154 => 72 | 138 => 82 | 165 => 83 | 143 => 61 | 166 => 84 | 197 => 85 | 169 => 86 | 195 => 92 | 218 => 93 | 240 => 94 | 241 => 95 | 219 => 71 | 260 => 96 | 276 => 98 | 277 => 99 | 217 => 78 | 225 => 79 | 224 => 80 | 267 => 81 | 266 => 90 | 314 => 91 | n => n, fun | 9 => 9 | 3 => 3 | 4 => 4 | 72 => 133 | 0 => 0 | 76 => 137 | 105 => 139 | 21 => 21 | 5 => 5 | 70 => 131 | 20 => 20 | 37 => 104 | 75 => 136 | 127 => 147 | 164 => 149 | 46 => 120 | 119 => 152 | 139 => 155 | 138 => 154 | 146 => 144 | 51 => 143 | 80 => 141 | n => n, fun | 1 => 0 | 3 => 1 | 4 => 2 | n => n⟩
theorem Tryd.lays155 : Go.Proofs.Lays.n155 Tryd.prog Tryd.lays155_ren := {
  mixed := by kernel_rfl
  f138 := Tryd.func82.trans (congrArg some (by kernel_rfl))
  f143 := Tryd.func61.trans (congrArg some (by kernel_rfl))
  f154 := Tryd.func72.trans (congrArg some (by kernel_rfl))
  f155 := Tryd.func62.trans (congrArg some (by kernel_rfl))
  f165 := Tryd.func83.trans (congrArg some (by kernel_rfl))
  f166 := Tryd.func84.trans (congrArg some (by kernel_rfl))
  f169 := Tryd.func86.trans (congrArg some (by kernel_rfl))
  f195 := Tryd.func92.trans (congrArg some (by kernel_rfl))
  f197 := Tryd.func85.trans (congrArg some (by kernel_rfl))
  f217 := Tryd.func78.trans (congrArg some (by kernel_rfl))
  f218 := Tryd.func93.trans (congrArg some (by kernel_rfl))
  f219 := Tryd.func71.trans (congrArg some (by kernel_rfl))
  f224 := Tryd.func80.trans (congrArg some (by kernel_rfl))
  f225 := Tryd.func79.trans (congrArg some (by kernel_rfl))
  f240 := Tryd.func94.trans (congrArg some (by kernel_rfl))
  f241 := Tryd.func95.trans (congrArg some (by kernel_rfl))
  f260 := Tryd.func96.trans (congrArg some (by kernel_rfl))
  f266 := Tryd.func90.trans (congrArg some (by kernel_rfl))
  f267 := Tryd.func81.trans (congrArg some (by kernel_rfl))
  f276 := Tryd.func98.trans (congrArg some (by kernel_rfl))
  f277 := Tryd.func99.trans (congrArg some (by kernel_rfl))
  f314 := Tryd.func91.trans (congrArg some (by kernel_rfl))
  t0 := Tryd.underlying0
  a0 := Tryd.isAgg0
  z0 := Tryd.sizeOf0
  v0 := Tryd.zeroValue0
  t3 := Tryd.underlying3
  a3 := Tryd.isAgg3
  z3 := Tryd.sizeOf3
  v3 := Tryd.zeroValue3
  t4 := Tryd.underlying4
  a4 := Tryd.isAgg4
  z4 := Tryd.sizeOf4
  v4 := Tryd.zeroValue4
  t5 := Tryd.underlying5
  a5 := Tryd.isAgg5
  z5 := Tryd.sizeOf5
  v5 := Tryd.zeroValue5
  t9 := Tryd.underlying9
  a9 := Tryd.isAgg9
  z9 := Tryd.sizeOf9
  v9 := Tryd.zeroValue9
  t20 := Tryd.underlying20
  a20 := Tryd.isAgg20
  z20 := Tryd.sizeOf20
  v20 := Tryd.zeroValue20
  t21 := Tryd.underlying21
  a21 := Tryd.isAgg21
  z21 := Tryd.sizeOf21
  v21 := Tryd.zeroValue21
  t37 := Tryd.underlying104
  a37 := Tryd.isAgg104
  z37 := Tryd.sizeOf104
  v37 := Tryd.zeroValue104
  t46 := Tryd.underlying120
  a46 := Tryd.isAgg120
  z46 := Tryd.sizeOf120
  v46 := Tryd.zeroValue120
  t51 := Tryd.underlying143
  a51 := Tryd.isAgg143
  z51 := Tryd.sizeOf143
  v51 := Tryd.zeroValue143
  t70 := Tryd.underlying131
  a70 := Tryd.isAgg131
  z70 := Tryd.sizeOf131
  v70 := Tryd.zeroValue131
  t72 := Tryd.underlying133
  a72 := Tryd.isAgg133
  z72 := Tryd.sizeOf133
  v72 := Tryd.zeroValue133
  t75 := Tryd.underlying136
  a75 := Tryd.isAgg136
  z75 := Tryd.sizeOf136
  v75 := Tryd.zeroValue136
  t76 := Tryd.underlying137
  a76 := Tryd.isAgg137
  z76 := Tryd.sizeOf137
  v76 := Tryd.zeroValue137
  t105 := Tryd.underlying139
  a105 := Tryd.isAgg139
  z105 := Tryd.sizeOf139
  v105 := Tryd.zeroValue139
  t119 := Tryd.underlying152
  a119 := Tryd.isAgg152
  z119 := Tryd.sizeOf152
  t127 := Tryd.underlying147
  a127 := Tryd.isAgg147
  z127 := Tryd.sizeOf147
  v127 := Tryd.zeroValue147
  t138 := Tryd.underlying154
  a138 := Tryd.isAgg154
  z138 := Tryd.sizeOf154
  v138 := Tryd.zeroValue154
  t139 := Tryd.underlying155
  a139 := Tryd.isAgg155
  z139 := Tryd.sizeOf155
  v139 := Tryd.zeroValue155
  t146 := Tryd.underlying144
  a146 := Tryd.isAgg144
  z146 := Tryd.sizeOf144
  v146 := Tryd.zeroValue144
  t164 := Tryd.underlying149
  a164 := Tryd.isAgg149
  z164 := Tryd.sizeOf149
  v164 := Tryd.zeroValue149
  g1 := by kernel_rfl
  g3 := by kernel_rfl
  g4 := by kernel_rfl }
theorem Tryd.Builder_Extra_155 : Builder.Extra Tryd.prog Tryd.lays155_ren := {
  sizeBuilder := by kernel_rfl
  liesBuilder := by kernel_rfl
  t5 := Tryd.underlying5
  a5 := Tryd.isAgg5
  z5 := Tryd.sizeOf5
  v5 := Tryd.zeroValue5
  infoByte := by kernel_rfl
  cellsByte := by kernel_rfl
  sizeByte := by kernel_rfl
  neB5 := by decide }
theorem Tryd.strings_ReplaceAll (s old new : ByteArray) (m : Int) (w : World) (hs : s.size < 4294967281) (hm : w.cell? ⟨0, 0, none⟩ = some (.int .i64 m)) (h1 : 1 ≤ old.size) (hlen : s.size + Lib.countB s old * new.size ≤ 140737488355328) :
    Calls Tryd.prog 62 #[.string s, .string old, .string new] w fun e w' =>
      e = .returned (.string ⟨(Lib.replaceAll s.data.toList old.data.toList new.data.toList).toArray⟩) ∧ Below w.heap.size w w' := Any.strings_ReplaceAll Tryd.lays155 Tryd.Builder_Extra_155 s old new m w hs hm h1 hlen
end Go.Proofs

/-
  The hints: which temporaries are asked for behind each if, block, loop head, return of each function (a program of ours printed it).
  Conditions: none. By an AI agent.
-/
namespace Go.Proofs.YtmiinbhnfojnbaaDoor
open Go Eng

def hintList : List (List (List Nat)) := [
  [],
  [],
  [],
  [[0,1],[4],[0,1,5],[4],[0,1,5],[0,1,5,7],[0,1,5,7],[0,1,5,7],[0,1,5,7],[4],[4]],
  [[0,1],[4],[0,1,5],[4],[],[0,1,5,7,8,9],[0,1,5,7,8,9],[0,1,5,7,8,9],[0,1,5,7,8,9],[0,1,5,7,8,9],[0,1,5,7,8,9],[0,1,5,7,8,9,12],[4],[0,1,5,7,8,9],[0,1,5,7,8,9,10,11,14],[0,1,5,7,8,9,11,14],[4],[0,1,5,7,8,9],[0,1,5,7,8,9,11,14,16],[0,1,5,7,8,9,11,14,16],[0,1,5,7,8,9,11,14,16],[0,1,5,7,8,9,11,14,16],[4],[0,1,5,7,8,9],[0,1,5,7,8,9],[0,1,5,7,8,9],[0,1,5,7,8,9],[0,1,5,7,8,9],[0,1,5,7,8,9],[0,1,5,7,8,9,17,18],[0,1,5,7,8,9,17,18,203],[0,1,5,7,8,9,17,18,203],[0,1,5,7,8,9,17,18,203],[0,1,5,7,8,9,17,18,203],[0,1,5,7,8,9,17],[4],[0,1,5,7,8,9],[0,1,5,7,8,9,17,21],[0,1,5,7,8,9,17,21],[0,1,5,7,8,9,17,21],[0,1,5,7,8,9,17,21],[4],[4]],
  [[1],[2],[],[1,12,13,14],[1,12,13,14],[1,12,13,14],[1,12,13,14],[2],[2]],
  [[1],[0],[1],[0],[1],[0],[0]],
  [[0],[2,3],[2,3]],
  [[10]],
  [[10]],
  [[0,7],[6],[6]],
  [[8]],
  [[0,1],[0,1,5],[0,1,5],[0,1,5],[0,1,5],[4],[4]],
  [[0],[2],[2]],
  [[0,1,2],[0,1,2],[6,7],[0,1,2],[6,7],[0,1,2],[6,7],[0],[6,7],[6,7]],
  [[0,1,2,6],[0,1,2,6],[6,7],[0,1,2,6],[6,7],[0,1,2,6,8],[6,7],[6,9],[6,7],[6,7]],
  [[0],[2],[2]],
  [[0,2],[6],[6]],
  [[0,5],[0,5],[4],[0,5],[4],[4]],
  [[0,1],[0,1],[4],[0,1],[4],[0,1],[4],[],[0,1,32,33,34],[0,1,32,33,34],[0,1,32,33,34],[0,1,6,32,33,34],[0,1,32,33,34],[4],[4]],
  [[0],[2],[2]],
  [[0],[2],[2]],
  [[12]],
  [[0,1,2,6],[0,1,2,6],[6,7],[0,1,2,6],[6,7],[1,6,8],[6,7],[6,8],[6,7],[6,7]],
  [[0,3],[4]],
  [[0,1,4],[4,5],[0,4,6],[4,5],[4,6,8],[4,5],[4,10],[4,5],[4,5]],
  [[2]],
  [[8],[5,6,8,24,25,26],[5,6,8,24,25,26],[5,6,8,24,25,26],[5,6,8,10,24,25,26],[5,6,8,24,25,26],[4]],
  [[0,3,5,6],[4],[0,3,5,6],[0,3,5],[4],[4]],
  [[2]],
  [[0,1,6],[4,5],[4,5]],
  [[0],[2],[2]],
  [[0],[2],[2]],
  [[0,6],[0,6],[4,5],[0,6],[4,5],[4,5]],
  [[1,2,3],[6,7],[1,2,3],[6,7],[1,2,3,8],[1,2,3,8,27,28,29],[1,2,3,8,27,28,29],[1,2,3,8,27,28,29],[1,2,3,8,27,28,29],[1,2,3,8,10,27,28,29,41,42,43],[1,2,3,8,10,27,28,29,41,42,43],[1,2,3,8,10,27,28,29,41,42,43],[1,2,3,8,13,14,27,28,29,41,42,43],[6,7],[8],[6,7],[6,7]],
  [[0]],
  [[2,3],[2]],
  [[1,2],[4,5,6],[4],[4,5,6],[4,7],[4,7],[4,7],[4,7],[4,7],[4,5,6]],
  [[0],[2],[2]],
  [[1,2],[4,5,6],[4,5],[4,5,6],[4,5,6]],
  [[1,3],[1,3],[1,3],[2]],
  [[0,1,2,7,8],[6],[6]],
  [[4,5]],
  [[0,1,2],[6],[6]],
  [[0],[2],[2]],
  [],
  [[0,1,2],[6,7,8],[0,1],[6,7,8],[6,7,8]],
  [[2]],
  [[0,1,4,7],[4,5,6],[0,4,7,8],[0,4,7,8],[4,5,6],[0,4,7,8],[4,7,9,11],[4,5,6],[0,4,7,8],[0,4,7,12],[4,5,6],[4,5,6],[4,5,6]],
  [[0,1],[4],[],[1,12,13,14],[1,12,13,14],[1,12,13,14],[1,12,13,14],[4],[4]],
  [[0],[0,7,8,9],[0,7,8,9],[0,7,8,9],[4]],
  [[0,3],[0,3,9,10,11],[0,3,9,10,11],[0,3,9,10,11],[0,3,9,10,11],[6],[6,25,26,27],[6,25,26,27],[6,25,26,27],[2]],
  [[],[],[],[8],[8]],
  [[0,1,2,8,9],[0,1,2,8,9,10],[0,1,2,8,9,10],[0,1,2,8,9,10],[0,1,2,8,9,10],[6,7]],
  [[4]],
  [[4]],
  [[],[],[4],[],[4],[4]],
  [[4]],
  [[2]],
  [[2]],
  [[0,1,2],[6,7,8],[0,1,9],[0,1,2,9,23,24,25],[0,1,2,9,23,24,25],[0,1,2,9,23,24,25],[0,1,2,9,11,23,24,25],[6,7,8]],
  [[4]],
  [[6]],
  [[2,5],[2,5],[2,5],[2,5],[2,5],[4]],
  [[0,3],[0,3],[4],[0,3],[0,3],[4],[0,7],[0,7,49,50],[0,7,49,50],[0,7,49,50],[4],[0,3],[4],[0],[4],[4]],
  [[0,1],[0],[4]],
  [[0,1,2,7],[6],[0,1,2,7,8],[6],[0,1,2,7,8],[6],[0,1,2,7,8],[6],[6]],
  [[4]],
  [[4]],
  [[2]],
  [[],[0,1,7,8],[0,1,7,8],[0,1,7,8],[0,1,7,8],[4],[4]],
  [[0,1,5],[0,1,5],[4],[0,1,5],[4],[0,1,5],[4],[0,1,5],[4],[],[0,1,5,6,7,8,9,10],[0,1,5,6,7,8,9,10],[0,1,5,6,7,8,9,10],[0,1,5,6,7,8,9,10],[0,1,5,6,7,8,9,10,11],[4],[0,1,5,6,7,8,9,10],[4],[0,1,5,6,7,8,9,10],[],[4],[4],[0,1,5,6,7,8,9,10],[8,13],[4],[4],[4]],
  [[0,1,2,3],[8],[0,1,2,3],[8],[0,1,2,3],[0,10,11],[0,10,11],[0,1,2,10,11,52,53],[0,1,2,10,11,52,53],[0,1,2,10,11,52,53],[0,10,11],[0,2,10,11,77,78],[0,2,10,11,77,78],[0,2,10,11,77,78],[8]],
  [[3],[0,3],[0,3],[0,3],[2]],
  [],
  [],
  [[4]],
  [[],[0,1,7,8],[0,1,7,8],[0,1,7,8],[0,1,7,8],[4],[4]],
  [[4]],
  [],
  [[2]],
  [[0,1,5,6,7,8],[0,1,5,6,7,8,9],[0,1,5,6,7,8,9],[0,1,5,6,7,8,9],[0,1,5,6,7,8],[4],[],[0,1,5,6,7,8,10],[0,1,5,6,7,8,10],[0,1,5,6,7,8,10],[0,1,5,6,7,8,10],[4],[4]],
  [[0,1],[4],[0,1],[4],[4],[0,1,5],[0,1,5],[0,1,5,6],[4]],
  [[0,1],[]],
  [[4,5]],
  [[2,3],[2,3],[2,3]],
  [[2]],
  [[],[0,2,3],[0,2,3],[0,2,3]],
  [],
  [],
  [],
  [[0,4],[0,4,5],[0,4,5],[0,4,5],[4,6],[4,6,7,8],[4,6,7,8],[4,6,7,8],[4,6,7,8],[2,3]],
  [[2],[2,4],[2,4],[2,4],[2]],
  [],
  [[],[]],
  [],
  [[0,4],[2,3],[0,4,5,6],[2,3],[0,5,8,9],[2,3],[0,5,8,10],[2,3],[0,5,8,10],[2,3],[0,5,8,10,11],[2,3],[0,5,10,11],[2,3],[5,10,11,12],[2,3],[2,3]],
  [[],[0,2,3],[0,2,3],[0,2,3]],
  [],
  [],
  [],
  [],
  [],
  [],
  [],
  [],
  [],
  [],
  [],
  [],
  [],
  [],
  [],
  [],
  [],
  [],
  [],
  [],
  [],
  [],
  [],
  [],
  []
]

def hints : Hints := fun f => (hintList[f]?).getD []

end Go.Proofs.YtmiinbhnfojnbaaDoor

/-
  Chapter 46: slices.Insert as a Prim; known() returns true.
  Conditions: none. By an AI agent.
-/
namespace Go.Proofs.YtmiinbhnfojnbaaDoor
open Go Eng

theorem mixed : Tryd.prog.follows .mixedOrders = true := by kernel_rfl

def zIns0 : List Value := [(.string (mk [])), (.string (mk []))]
theorem insOK0 : InsOK Tryd.prog hints 66 59 3 86 zIns0 74 75 where
  mixed := mixed
  body := fun C n a0 a1 a2 H => by kernel_rfl
  hS := Tryd.underlying59
  hI := Tryd.underlying3
  hz := by kernel_rfl
  hsz := by kernel_rfl
  ovl := ⟨Tryd.f74, by kernel_rfl, by decide, by kernel_rfl, by kernel_rfl, by kernel_rfl, by kernel_rfl⟩

theorem prim61 : (CallAd fun _ args H => indexP args H) ∧ CallOK Tryd.prog fun g args H => if g = 61 then indexP args H else none :=
  index_prim 0 (by simp [globs]) fun s t m w h1 h2 => Tryd.strings_Index s t m w h1 h2

theorem prim62 : (CallAd fun _ args H => replP args H) ∧ CallOK Tryd.prog fun g args H => if g = 62 then replP args H else none :=
  repl_prim 0 (by simp [globs]) fun s o t m w h1 h2 h3 h4 => Tryd.strings_ReplaceAll s o t m w h1 h2 h3 h4

noncomputable def prims0 : Prims := fun f => if f = 66 then some (insP Tryd.prog hints 66 86 zIns0) else if f = 62 then some replP else if f = 61 then some indexP else none

theorem prims0_ok : PrimsOK Tryd.prog prims0 := by
  intro f p h
  unfold prims0 at h
  split at h
  · rename_i hf
    have e := Option.some.inj h
    subst hf
    rw [← e]
    exact ins_prim insOK0
  · skip
    split at h
    · rename_i hf
      have e := Option.some.inj h
      subst hf
      rw [← e]
      exact prim62
    · skip
      split at h
      · rename_i hf
        have e := Option.some.inj h
        subst hf
        rw [← e]
        exact prim61
      · skip
        cases h

noncomputable def prims1 : Prims := prims0
theorem prims1_ok : PrimsOK Tryd.prog prims1 := prims0_ok

/-- What a call gives. -/
noncomputable def CC : CallF := D Tryd.prog prims1 hints

end Go.Proofs.YtmiinbhnfojnbaaDoor

/-
  Names of the seat's functions and types (a program of ours printed it).
  Conditions: none. By an AI agent.
-/
namespace Go.Proofs.YtmiinbhnfojnbaaDoor
open Go
def F.law_JobsBodies : FuncId := 3
def F.law_known : FuncId := 6
def F.jobs_New : FuncId := 7
def F.law_puts : FuncId := 8
def F.law_takes : FuncId := 9
def F.jobs_Queue_Back : FuncId := 10
def F.law_gets : FuncId := 11
def F.jobs_Queue_Jobs : FuncId := 13
def F.jobs_Queue_Put : FuncId := 14
def F.jobs_Queue_Take : FuncId := 15
def F.jobs_Queue_Finish : FuncId := 17
def F.jobs_Queue_Revive : FuncId := 18
def F.jobs_Queue_Pass : FuncId := 19
def F.law_taken : FuncId := 22
def F.jobs_Queue_taken : FuncId := 23
def F.jobs_Queue_back : FuncId := 24
def F.jobs_Queue_Get : FuncId := 25
def F.jobs_Queue_none : FuncId := 26
def F.jobs_Queue_in : FuncId := 27
def F.jobs_Queue_set : FuncId := 28
def F.jobs_number : FuncId := 29
def F.model_Model_Delete : FuncId := 30
def F.model_Model_Get : FuncId := 33
def F.rows_Read : FuncId := 34
def F.jobs_table : FuncId := 35
def F.jobs_job : FuncId := 36
def F.rows_Span : FuncId := 37
def F.model_Model_Pairs : FuncId := 38
def F.rows_Row : FuncId := 39
def F.jobs_row : FuncId := 40
def F.model_Model_Put : FuncId := 41
def F.model_Model_place : FuncId := 42
def F.slices_Delete_Pair : FuncId := 43
def F.slices_Clone_Pair : FuncId := 44
def F.model_Model_at : FuncId := 46
def F.rows_Valid : FuncId := 47
def F.rows_take : FuncId := 48
def F.rows_are : FuncId := 49
def F.rows_puts : FuncId := 50
def F.slices_Concat_CellKind : FuncId := 51
def F.model_Model_set : FuncId := 52
def F.slices_BinarySearchFunc_string : FuncId := 53
def F.model_Model_place_1 : FuncId := 54
def F.keys_Compare : FuncId := 55
def F.model_check : FuncId := 56
def F.slices_ContainsFunc_CellKind : FuncId := 57
def F.rows_Valid_1 : FuncId := 58
def F.rows_kind : FuncId := 59
def F.rows_number : FuncId := 60
def F.strings_Index : FuncId := 61
def F.strings_ReplaceAll : FuncId := 62
def F.rows_proper : FuncId := 63
def F.rows_put : FuncId := 64
def F.slices_Grow_CellKind : FuncId := 65
def F.slices_Insert_Pair : FuncId := 66
def F.strings_Compare : FuncId := 67
def F.slices_ContainsFunc_string : FuncId := 68
def F.model_check_1 : FuncId := 69
def F.slices_IndexFunc_CellKind : FuncId := 70
def F.rows_digits : FuncId := 73
def F.slices_rotateRight_Pair : FuncId := 75
def F.internal_bytealg_CompareString : FuncId := 76
def F.slices_IndexFunc_string : FuncId := 77
def F.slices_Reverse_byte : FuncId := 87
def T.tuple : TypeId := 0
def T.func : TypeId := 1
def T.int : TypeId := 3
def T.bool : TypeId := 4
def T.uint8 : TypeId := 5
def T.string : TypeId := 9
def T.interface : TypeId := 20
def T.int32 : TypeId := 21
def T.p_jobs_Queue : TypeId := 23
def T.api_Errno : TypeId := 24
def T.api_JobState : TypeId := 29
def T.api_Job : TypeId := 31
def T.p_model_Model : TypeId := 50
def T.map_int_string : TypeId := 51
def T.jobs_Queue : TypeId := 53
def T.sl_api_Pair : TypeId := 59
def T.model_Model : TypeId := 61
def T.api_CellKind : TypeId := 65
def T.uint64 : TypeId := 66
def T.api_Cell : TypeId := 68
def T.sl_api_CellKind : TypeId := 77
def T.api_Table : TypeId := 79
def T.api_Pair : TypeId := 86
def T.sl_uint8 : TypeId := 104
def T.uint : TypeId := 120
def T.error : TypeId := 136
def T.uint32 : TypeId := 143
end Go.Proofs.YtmiinbhnfojnbaaDoor

/-
  The seat's functions as terms over the engine's combinators (a program of ours printed it).
  Conditions: none. By an AI agent.
-/
set_option linter.unusedVariables false
namespace Go.Proofs.YtmiinbhnfojnbaaDoor
open Go Eng

/-! ticketline.ticketlinelaw46.known -/

noncomputable def s_law_known (mg : GT) (mc : CT) (ms : ST) (P : Program) (C : CallF) (H : AHeap) (K0 : K) : Res :=
enterK C F.jobs_New [(.int .i64 2)] H fun t5 h1 =>
bareK (xextract t5 0) h1 fun t6 h2 =>
bareK (xextract t5 1) h2 fun t7 h3 =>
bareK (xbin P .eql T.p_jobs_Queue (.tmp 8) (.const (.pointer none)) t6 (.pointer none)) h3 fun t9 h4 =>
mg t9 false (fun o1 => o1 t7 h4) h4 fun t11 h5 =>
mg t9 false (fun o2 => bareK (xbin P .neq T.api_Errno (.tmp 11) (.const (.int .i64 0)) t11 (.int .i64 0)) h5 o2) h5 fun t12 h6 =>
pickK t9 (.bool true) t12 fun t13 =>
mg t13 false (fun o3 => o3 t6 h6) h6 fun t15 h7 =>
mg t13 false (fun o4 => enterK C F.law_puts [t15, (.int .i64 3), (.string (mk [97])), (.int .i64 1), (.int .i64 0)] h7 o4) h7 fun t16 h8 =>
mg t13 false (fun o5 => bareK (xun P .not t16) h8 o5) h8 fun t17 h9 =>
pickK t13 (.bool true) t17 fun t18 =>
mg t18 false (fun o6 => o6 t6 h9) h9 fun t20 h10 =>
mg t18 false (fun o7 => enterK C F.law_puts [t20, (.int .i64 7), (.string (mk [98])), (.int .i64 2), (.int .i64 0)] h10 o7) h10 fun t21 h11 =>
mg t18 false (fun o8 => bareK (xun P .not t21) h11 o8) h11 fun t22 h12 =>
pickK t18 (.bool true) t22 fun t23 =>
mg t23 false (fun o9 => o9 t6 h12) h12 fun t25 h13 =>
mg t23 false (fun o10 => enterK C F.law_puts [t25, (.int .i64 3), (.string (mk [99])), (.int .i64 3), (.int .i64 0)] h13 o10) h13 fun t26 h14 =>
mg t23 false (fun o11 => bareK (xun P .not t26) h14 o11) h14 fun t27 h15 =>
pickK t23 (.bool true) t27 fun t28 =>
mg t28 false (fun o12 => o12 t6 h15) h15 fun t30 h16 =>
mg t28 false (fun o13 => enterK C F.law_taken [(.int .i64 2), (.int .i64 7), (.string (mk [98])), (.int .i64 1), (.int .i64 5), (.int .i64 10)] h16 o13) h16 fun t31 h17 =>
mg t28 false (fun o14 => enterK C F.law_takes [t30, (.int .i64 5), (.int .i64 10), t31, (.int .i64 0)] h17 o14) h17 fun t32 h18 =>
mg t28 false (fun o15 => bareK (xun P .not t32) h18 o15) h18 fun t33 h19 =>
pickK t28 (.bool true) t33 fun t34 =>
mg t34 false (fun o16 => o16 t6 h19) h19 fun t36 h20 =>
mg t34 false (fun o17 => enterK C F.law_taken [(.int .i64 1), (.int .i64 3), (.string (mk [97])), (.int .i64 1), (.int .i64 6), (.int .i64 4)] h20 o17) h20 fun t37 h21 =>
mg t34 false (fun o18 => enterK C F.law_takes [t36, (.int .i64 6), (.int .i64 4), t37, (.int .i64 0)] h21 o18) h21 fun t38 h22 =>
mg t34 false (fun o19 => bareK (xun P .not t38) h22 o19) h22 fun t39 h23 =>
pickK t34 (.bool true) t39 fun t40 =>
mc t40 (fun k20 => k20 .ret [(0, (.bool false))] h23) (fun k20 =>
k20 .normal [(1, t6)] h23) (seqK (fun tT h24 =>
enterK C F.jobs_Queue_Finish [(get tT 1), (.int .i64 5), (.int .i64 2)] h24 fun t42 h25 =>
bareK (xbin P .neq T.api_Errno (.tmp 42) (.const (.int .i64 0)) t42 (.int .i64 0)) h25 fun t43 h26 =>
mg t43 false (fun o21 => o21 (get tT 1) h26) h26 fun t45 h27 =>
mg t43 false (fun o22 => enterK C F.jobs_Queue_Finish [t45, (.int .i64 5), (.int .i64 1)] h27 o22) h27 fun t46 h28 =>
mg t43 false (fun o23 => bareK (xbin P .neq T.api_Errno (.tmp 46) (.const (.int .i64 8)) t46 (.int .i64 8)) h28 o23) h28 fun t47 h29 =>
pickK t43 (.bool true) t47 fun t48 =>
mg t48 false (fun o24 => o24 (get tT 1) h29) h29 fun t50 h30 =>
mg t48 false (fun o25 => enterK C F.jobs_Queue_Back [t50, (.int .i64 6), (.int .i64 1)] h30 o25) h30 fun t51 h31 =>
mg t48 false (fun o26 => bareK (xbin P .neq T.api_Errno (.tmp 51) (.const (.int .i64 0)) t51 (.int .i64 0)) h31 o26) h31 fun t52 h32 =>
pickK t48 (.bool true) t52 fun t53 =>
mg t53 false (fun o27 => o27 (get tT 1) h32) h32 fun t55 h33 =>
mg t53 false (fun o28 => enterK C F.law_taken [(.int .i64 1), (.int .i64 3), (.string (mk [97])), (.int .i64 2), (.int .i64 6), (.int .i64 4)] h33 o28) h33 fun t56 h34 =>
mg t53 false (fun o29 => enterK C F.law_takes [t55, (.int .i64 6), (.int .i64 4), t56, (.int .i64 0)] h34 o29) h34 fun t57 h35 =>
mg t53 false (fun o30 => bareK (xun P .not t57) h35 o30) h35 fun t58 h36 =>
pickK t53 (.bool true) t58 fun t59 =>
mg t59 false (fun o31 => o31 (get tT 1) h36) h36 fun t61 h37 =>
mg t59 false (fun o32 => enterK C F.jobs_Queue_Pass [t61, (.int .i64 4)] h37 o32) h37 fun t62 h38 =>
mg t59 false (fun o33 => bareK (xbin P .neq T.api_Errno (.tmp 62) (.const (.int .i64 0)) t62 (.int .i64 0)) h38 o33) h38 fun t63 h39 =>
pickK t59 (.bool true) t63 fun t64 =>
mg t64 false (fun o34 => o34 (get tT 1) h39) h39 fun t66 h40 =>
mg t64 false (fun o35 => bareK (bldS #[(.int .i64 0), (.int .i64 0), (.string (mk [])), (.int .i64 0), (.int .i64 0), (.int .i64 0), (.int .i64 0)] [(0, 1), (1, 1), (2, 1), (3, 1), (4, 1), (5, 1), (6, 1)] [(0, (.int .i64 1)), (1, (.int .i64 3)), (2, (.string (mk [97]))), (3, (.int .i64 3)), (4, (.int .i64 2))]) h40 o35) h40 fun t67 h41 =>
mg t64 false (fun o36 => enterK C F.law_gets [t66, (.int .i64 1), t67, (.int .i64 0)] h41 o36) h41 fun t68 h42 =>
mg t64 false (fun o37 => bareK (xun P .not t68) h42 o37) h42 fun t69 h43 =>
pickK t64 (.bool true) t69 fun t70 =>
mc t70 (fun k38 => k38 .ret [(0, (.bool false))] h43) (fun k38 =>
k38 .normal [(1, (get tT 1))] h43) (seqK (fun tT_1 h44 =>
enterK C F.law_taken [(.int .i64 3), (.int .i64 3), (.string (mk [99])), (.int .i64 1), (.int .i64 9), (.int .i64 5)] h44 fun t72 h45 =>
enterK C F.law_takes [(get tT_1 1), (.int .i64 9), (.int .i64 1), t72, (.int .i64 0)] h45 fun t73 h46 =>
bareK (xun P .not t73) h46 fun t74 h47 =>
mg t74 false (fun o39 => o39 (get tT_1 1) h47) h47 fun t76 h48 =>
mg t74 false (fun o40 => bareK (bldS #[(.int .i64 0), (.int .i64 0), (.string (mk [])), (.int .i64 0), (.int .i64 0), (.int .i64 0), (.int .i64 0)] [(0, 1), (1, 1), (2, 1), (3, 1), (4, 1), (5, 1), (6, 1)] []) h48 o40) h48 fun t77 h49 =>
mg t74 false (fun o41 => enterK C F.law_takes [t76, (.int .i64 9), (.int .i64 1), t77, (.int .i64 9)] h49 o41) h49 fun t78 h50 =>
mg t74 false (fun o42 => bareK (xun P .not t78) h50 o42) h50 fun t79 h51 =>
pickK t74 (.bool true) t79 fun t80 =>
mg t80 false (fun o43 => o43 (get tT_1 1) h51) h51 fun t82 h52 =>
mg t80 false (fun o44 => enterK C F.jobs_Queue_Revive [t82, (.int .i64 1)] h52 o44) h52 fun t83 h53 =>
mg t80 false (fun o45 => bareK (xbin P .neq T.api_Errno (.tmp 83) (.const (.int .i64 0)) t83 (.int .i64 0)) h53 o45) h53 fun t84 h54 =>
pickK t80 (.bool true) t84 fun t85 =>
mg t85 false (fun o46 => o46 (get tT_1 1) h54) h54 fun t87 h55 =>
mg t85 false (fun o47 => bareK (bldS #[(.int .i64 0), (.int .i64 0), (.string (mk [])), (.int .i64 0), (.int .i64 0), (.int .i64 0), (.int .i64 0)] [(0, 1), (1, 1), (2, 1), (3, 1), (4, 1), (5, 1), (6, 1)] [(0, (.int .i64 1)), (1, (.int .i64 3)), (2, (.string (mk [97]))), (3, (.int .i64 1))]) h55 o47) h55 fun t88 h56 =>
mg t85 false (fun o48 => enterK C F.law_gets [t87, (.int .i64 1), t88, (.int .i64 0)] h56 o48) h56 fun t89 h57 =>
mg t85 false (fun o49 => bareK (xun P .not t89) h57 o49) h57 fun t90 h58 =>
pickK t85 (.bool true) t90 fun t91 =>
mg t91 false (fun o50 => o50 (get tT_1 1) h58) h58 fun t93 h59 =>
mg t91 false (fun o51 => enterK C F.jobs_Queue_Pass [t93, (.int .i64 3)] h59 o51) h59 fun t94 h60 =>
mg t91 false (fun o52 => bareK (xbin P .neq T.api_Errno (.tmp 94) (.const (.int .i64 14)) t94 (.int .i64 14)) h60 o52) h60 fun t95 h61 =>
pickK t91 (.bool true) t95 fun t96 =>
mg t96 false (fun o53 => o53 (get tT_1 1) h61) h61 fun t98 h62 =>
mg t96 false (fun o54 => enterK C F.law_puts [t98, (.int .i64 10), (.string (mk [120])), (.int .i64 0), (.int .i64 2)] h62 o54) h62 fun t99 h63 =>
mg t96 false (fun o55 => bareK (xun P .not t99) h63 o55) h63 fun t100 h64 =>
pickK t96 (.bool true) t100 fun t101 =>
mc t101 (fun k56 => k56 .ret [(0, (.bool false))] h64) (fun k56 =>
k56 .normal [(1, (get tT_1 1))] h64) (seqK (fun tT_2 h65 =>
enterK C F.jobs_Queue_Jobs [(get tT_2 1)] h65 fun t103 h66 =>
bareK (lenS t103) h66 fun t105 h67 =>
bareK (xbin P .eql T.int (.tmp 105) (.const (.int .i64 2)) t105 (.int .i64 2)) h67 fun t106 h68 =>
mg t106 true (fun o57 => o57 t103 h68) h68 fun t108 h69 =>
mg t106 true (fun o58 => bareK (ixS 7 t108 (.int .i64 0)) h69 o58) h69 fun t109 h70 =>
mg t106 true (fun o59 => bareK (fad 0 t109) h70 o59) h70 fun t110 h71 =>
mg t106 true (fun o60 => bareK (ld1 h71 t110) h71 o60) h71 fun t111 h72 =>
mg t106 true (fun o61 => bareK (xbin P .eql T.int (.tmp 111) (.const (.int .i64 1)) t111 (.int .i64 1)) h72 o61) h72 fun t112 h73 =>
pickK t106 t112 (.bool false) fun t113 =>
mg t113 true (fun o62 => o62 t103 h73) h73 fun t115 h74 =>
mg t113 true (fun o63 => bareK (ixS 7 t115 (.int .i64 1)) h74 o63) h74 fun t116 h75 =>
mg t113 true (fun o64 => bareK (fad 0 t116) h75 o64) h75 fun t117 h76 =>
mg t113 true (fun o65 => bareK (ld1 h76 t117) h76 o65) h76 fun t118 h77 =>
mg t113 true (fun o66 => bareK (xbin P .eql T.int (.tmp 118) (.const (.int .i64 3)) t118 (.int .i64 3)) h77 o66) h77 fun t119 h78 =>
pickK t113 t119 (.bool false) fun t120 =>
K0 .ret [(0, t120)] h78) K0)) K0)) K0)

theorem s_law_known_eq (M : CombL) (C : CallF) (LP : LoopH) (H : AHeap) : dBodyL M Tryd.prog hints C LP F.law_known [] H = s_law_known M.b.g M.c M.s Tryd.prog C H (endK Tryd.prog [.tmp 0]) := by kernel_rfl

/-! ticketline.jobs.New -/

noncomputable def s_jobs_New (mg : GT) (mc : CT) (ms : ST) (P : Program) (C : CallF) (a0 : Value) (H : AHeap) (K0 : K) : Res :=
bareK (xbin P .lss T.int (.tmp 4) (.const (.int .i64 1)) a0 (.int .i64 1)) H fun t5 h1 =>
mg t5 false (fun o1 => o1 a0 h1) h1 fun t7 h2 =>
mg t5 false (fun o2 => bareK (xbin P .gtr T.int (.tmp 7) (.const (.int .i64 100)) t7 (.int .i64 100)) h2 o2) h2 fun t8 h3 =>
pickK t5 (.bool true) t8 fun t9 =>
mc t9 (fun k3 => k3 .ret [(2, (.pointer none)), (3, (.int .i64 2))] h3) (fun k3 =>
k3 .normal [(0, a0)] h3) (seqK (fun tT h4 =>
bareK (bldS #[(.slice none 0 0)] [(0, 1)] []) h4 fun t10 h5 =>
bothK (newv T.model_Model t10 h5) fun t11 h6 =>
bothK (xmakeMap P T.map_int_string none h6) fun t12 h7 =>
bareK (bldS #[(.pointer none), (.map none), (.int .i64 0), (.int .i64 0), (.int .i64 0)] [(0, 1), (1, 1), (2, 1), (3, 1), (4, 1)] [(0, t11), (1, t12), (2, (get tT 0))]) h7 fun t14 h8 =>
bothK (newv T.jobs_Queue t14 h8) fun t15 h9 =>
K0 .ret [(2, t15), (3, (.int .i64 0))] h9) K0)

theorem s_jobs_New_eq (M : CombL) (C : CallF) (LP : LoopH) (a0 : Value) (H : AHeap) : dBodyL M Tryd.prog hints C LP F.jobs_New [a0] H = s_jobs_New M.b.g M.c M.s Tryd.prog C a0 H (endK Tryd.prog [.tmp 2, .tmp 3]) := by kernel_rfl

/-! ticketline.ticketlinelaw46.puts -/

noncomputable def s_law_puts (mg : GT) (mc : CT) (ms : ST) (P : Program) (C : CallF) (a0 : Value) (a1 : Value) (a2 : Value) (a3 : Value) (a4 : Value) (H : AHeap) (K0 : K) : Res :=
enterK C F.jobs_Queue_Put [a0, a1, a2] H fun t17 h1 =>
bareK (xextract t17 0) h1 fun t18 h2 =>
bareK (xextract t17 1) h2 fun t19 h3 =>
bareK (xbin P .eql T.int (.tmp 20) (.tmp 21) t18 a3) h3 fun t22 h4 =>
mg t22 true (fun o1 => o1 t19 h4) h4 fun t24 h5 =>
mg t22 true (fun o2 => o2 a4 h5) h5 fun t25 h6 =>
mg t22 true (fun o3 => bareK (xbin P .eql T.int (.tmp 24) (.tmp 25) t24 t25) h6 o3) h6 fun t26 h7 =>
pickK t22 t26 (.bool false) fun t27 =>
K0 .ret [(10, t27)] h7

theorem s_law_puts_eq (M : CombL) (C : CallF) (LP : LoopH) (a0 : Value) (a1 : Value) (a2 : Value) (a3 : Value) (a4 : Value) (H : AHeap) : dBodyL M Tryd.prog hints C LP F.law_puts [a0, a1, a2, a3, a4] H = s_law_puts M.b.g M.c M.s Tryd.prog C a0 a1 a2 a3 a4 H (endK Tryd.prog [.tmp 10]) := by kernel_rfl

/-! ticketline.ticketlinelaw46.takes -/

noncomputable def s_law_takes (mg : GT) (mc : CT) (ms : ST) (P : Program) (C : CallF) (a0 : Value) (a1 : Value) (a2 : Value) (a3 : Value) (a4 : Value) (H : AHeap) (K0 : K) : Res :=
bothK (newv T.api_Job a3 H) fun t8 h1 =>
enterK C F.jobs_Queue_Take [a0, a1, a2] h1 fun t17 h2 =>
bareK (xextract t17 0) h2 fun t18 h3 =>
bareK (xextract t17 1) h3 fun t19 h4 =>
bothK (newv T.api_Job (.agg #[(.int .i64 0), (.int .i64 0), (.string (mk [])), (.int .i64 0), (.int .i64 0), (.int .i64 0), (.int .i64 0)]) h4) fun t11 h5 =>
quietK (stN 7 h5 t11 t18) fun _ h6 =>
bareK (ldN 7 h6 t11) h6 fun t20 h7 =>
bareK (ldN 7 h7 t8) h7 fun t21 h8 =>
bareK (xbin P .eql T.api_Job (.tmp 20) (.tmp 21) t20 t21) h8 fun t22 h9 =>
mg t22 true (fun o1 => o1 t19 h9) h9 fun t24 h10 =>
mg t22 true (fun o2 => o2 a4 h10) h10 fun t25 h11 =>
mg t22 true (fun o3 => bareK (xbin P .eql T.int (.tmp 24) (.tmp 25) t24 t25) h11 o3) h11 fun t26 h12 =>
pickK t22 t26 (.bool false) fun t27 =>
K0 .ret [(10, t27)] h12

theorem s_law_takes_eq (M : CombL) (C : CallF) (LP : LoopH) (a0 : Value) (a1 : Value) (a2 : Value) (a3 : Value) (a4 : Value) (H : AHeap) : dBodyL M Tryd.prog hints C LP F.law_takes [a0, a1, a2, a3, a4] H = s_law_takes M.b.g M.c M.s Tryd.prog C a0 a1 a2 a3 a4 H (endK Tryd.prog [.tmp 10]) := by kernel_rfl

/-! (*ticketline.jobs.Queue).Back -/

noncomputable def s_jobs_Queue_Back (mg : GT) (mc : CT) (ms : ST) (P : Program) (C : CallF) (a0 : Value) (a1 : Value) (a2 : Value) (H : AHeap) (K0 : K) : Res :=
enterK C F.jobs_Queue_taken [a0, a1, a2] H fun t13 h1 =>
bareK (xextract t13 0) h1 fun t14 h2 =>
bareK (xextract t13 1) h2 fun t15 h3 =>
bothK (newv T.api_Job (.agg #[(.int .i64 0), (.int .i64 0), (.string (mk [])), (.int .i64 0), (.int .i64 0), (.int .i64 0), (.int .i64 0)]) h3) fun t7 h4 =>
quietK (stN 7 h4 t7 t14) fun _ h5 =>
bareK (xbin P .neq T.api_Errno (.tmp 16) (.const (.int .i64 0)) t15 (.int .i64 0)) h5 fun t17 h6 =>
mc t17 (fun k1 => k1 .ret [(6, t15)] h6) (fun k1 =>
k1 .normal [(0, a0), (7, t7)] h6) (seqK (fun tT h7 =>
bareK (ldN 7 h7 (get tT 7)) h7 fun t20 h8 =>
enterK C F.jobs_Queue_back [(get tT 0), t20] h8 fun t21 h9 =>
K0 .ret [(6, t21)] h9) K0)

theorem s_jobs_Queue_Back_eq (M : CombL) (C : CallF) (LP : LoopH) (a0 : Value) (a1 : Value) (a2 : Value) (H : AHeap) : dBodyL M Tryd.prog hints C LP F.jobs_Queue_Back [a0, a1, a2] H = s_jobs_Queue_Back M.b.g M.c M.s Tryd.prog C a0 a1 a2 H (endK Tryd.prog [.tmp 6]) := by kernel_rfl

/-! ticketline.ticketlinelaw46.gets -/

noncomputable def s_law_gets (mg : GT) (mc : CT) (ms : ST) (P : Program) (C : CallF) (a0 : Value) (a1 : Value) (a2 : Value) (a3 : Value) (H : AHeap) (K0 : K) : Res :=
bothK (newv T.api_Job a2 H) fun t6 h1 =>
enterK C F.jobs_Queue_Get [a0, a1] h1 fun t14 h2 =>
bareK (xextract t14 0) h2 fun t15 h3 =>
bareK (xextract t14 1) h3 fun t16 h4 =>
bothK (newv T.api_Job (.agg #[(.int .i64 0), (.int .i64 0), (.string (mk [])), (.int .i64 0), (.int .i64 0), (.int .i64 0), (.int .i64 0)]) h4) fun t9 h5 =>
quietK (stN 7 h5 t9 t15) fun _ h6 =>
bareK (ldN 7 h6 t9) h6 fun t17 h7 =>
bareK (ldN 7 h7 t6) h7 fun t18 h8 =>
bareK (xbin P .eql T.api_Job (.tmp 17) (.tmp 18) t17 t18) h8 fun t19 h9 =>
mg t19 true (fun o1 => o1 t16 h9) h9 fun t21 h10 =>
mg t19 true (fun o2 => o2 a3 h10) h10 fun t22 h11 =>
mg t19 true (fun o3 => bareK (xbin P .eql T.int (.tmp 21) (.tmp 22) t21 t22) h11 o3) h11 fun t23 h12 =>
pickK t19 t23 (.bool false) fun t24 =>
K0 .ret [(8, t24)] h12

theorem s_law_gets_eq (M : CombL) (C : CallF) (LP : LoopH) (a0 : Value) (a1 : Value) (a2 : Value) (a3 : Value) (H : AHeap) : dBodyL M Tryd.prog hints C LP F.law_gets [a0, a1, a2, a3] H = s_law_gets M.b.g M.c M.s Tryd.prog C a0 a1 a2 a3 H (endK Tryd.prog [.tmp 8]) := by kernel_rfl

/-! ticketline.ticketlinelaw46.small -/

/-! (*ticketline.jobs.Queue).Jobs -/

noncomputable def s_jobs_Queue_Jobs (mg : GT) (mc : CT) (ms : ST) (P : Program) (C : CallF) (a0 : Value) (H : AHeap) (K0 : K) : Res :=
enterK C F.jobs_Queue_none [a0] H fun t4 h1 =>
mc t4 (fun k1 => k1 .ret [(2, (.slice none 0 0))] h1) (fun k1 =>
k1 .normal [(0, a0)] h1) (seqK (fun tT h2 =>
enterK C F.jobs_Queue_in [(get tT 0), (.slice none 0 0)] h2 fun t6 h3 =>
K0 .ret [(2, t6)] h3) K0)

theorem s_jobs_Queue_Jobs_eq (M : CombL) (C : CallF) (LP : LoopH) (a0 : Value) (H : AHeap) : dBodyL M Tryd.prog hints C LP F.jobs_Queue_Jobs [a0] H = s_jobs_Queue_Jobs M.b.g M.c M.s Tryd.prog C a0 H (endK Tryd.prog [.tmp 2]) := by kernel_rfl

/-! (*ticketline.jobs.Queue).Put -/

noncomputable def s_jobs_Queue_Put (mg : GT) (mc : CT) (ms : ST) (P : Program) (C : CallF) (a0 : Value) (a1 : Value) (a2 : Value) (H : AHeap) (K0 : K) : Res :=
ms (fun k1 =>
enterK C F.jobs_Queue_none [a0] H fun t11 h1 =>
mc t11 (fun k2 => k2 .ret [(6, (.int .i64 0)), (7, (.int .i64 1))] h1) (fun k2 =>
bareK (xbin P .lss T.int (.tmp 13) (.const (.int .i64 0)) a1 (.int .i64 0)) h1 fun t14 h2 =>
mg t14 false (fun o3 => o3 a1 h2) h2 fun t16 h3 =>
mg t14 false (fun o4 => bareK (xbin P .gtr T.int (.tmp 16) (.const (.int .i64 9)) t16 (.int .i64 9)) h3 o4) h3 fun t17 h4 =>
pickK t14 (.bool true) t17 fun t18 =>
mc t18 (fun k5 => k5 .ret [(6, (.int .i64 0)), (7, (.int .i64 2))] h4) (fun k5 =>
bareK (lenT a2) h4 fun t21 h5 =>
bareK (xbin P .gtr T.int (.tmp 21) (.const (.int .i64 15)) t21 (.int .i64 15)) h5 fun t22 h6 =>
mc t22 (fun k6 => k6 .ret [(6, (.int .i64 0)), (7, (.int .i64 5))] h6) (fun k6 =>
k6 .normal [(0, a0), (1, a1), (2, a2)] h6) (afterK [0, 1, 2] k5)) (afterK [0, 1, 2] k2)) (blkK [0, 1, 2] 0 k1)) (seqK (fun tT h7 =>
bareK (xnilCheck (get tT 0)) h7 fun t25 h8 =>
bareK (fad 3 t25) h8 fun t26 h9 =>
bareK (ld1 h9 t26) h9 fun t27 h10 =>
bareK (xbin P .add T.int (.tmp 27) (.const (.int .i64 1)) t27 (.int .i64 1)) h10 fun t28 h11 =>
bareK (bldS #[(.int .i64 0), (.int .i64 0), (.string (mk [])), (.int .i64 0), (.int .i64 0), (.int .i64 0), (.int .i64 0)] [(0, 1), (1, 1), (2, 1), (3, 1), (4, 1), (5, 1), (6, 1)] [(0, t28), (1, (get tT 1)), (2, (get tT 2)), (3, (.int .i64 1))]) h11 fun t31 h12 =>
enterK C F.jobs_Queue_set [(get tT 0), t31] h12 fun t32 h13 =>
bareK (xbin P .neq T.api_Errno (.tmp 33) (.const (.int .i64 0)) t32 (.int .i64 0)) h13 fun t34 h14 =>
mc t34 (fun k7 => k7 .ret [(6, (.int .i64 0)), (7, t32)] h14) (fun k7 =>
k7 .normal [(0, (get tT 0))] h14) (seqK (fun tT_1 h15 =>
bareK (xnilCheck (get tT_1 0)) h15 fun t37 h16 =>
bareK (fad 3 t37) h16 fun t38 h17 =>
bareK (ld1 h17 t38) h17 fun t39 h18 =>
bareK (xbin P .add T.int (.tmp 39) (.const (.int .i64 1)) t39 (.int .i64 1)) h18 fun t40 h19 =>
bareK (xnilCheck (get tT_1 0)) h19 fun t41 h20 =>
bareK (fad 3 t41) h20 fun t42 h21 =>
quietK (st1 h21 t42 t40) fun _ h22 =>
bareK (xnilCheck (get tT_1 0)) h22 fun t44 h23 =>
bareK (fad 3 t44) h23 fun t45 h24 =>
bareK (ld1 h24 t45) h24 fun t46 h25 =>
K0 .ret [(6, t46), (7, (.int .i64 0))] h25) K0)) K0)

theorem s_jobs_Queue_Put_eq (M : CombL) (C : CallF) (LP : LoopH) (a0 : Value) (a1 : Value) (a2 : Value) (H : AHeap) : dBodyL M Tryd.prog hints C LP F.jobs_Queue_Put [a0, a1, a2] H = s_jobs_Queue_Put M.b.g M.c M.s Tryd.prog C a0 a1 a2 H (endK Tryd.prog [.tmp 6, .tmp 7]) := by kernel_rfl

/-! (*ticketline.jobs.Queue).Take -/

noncomputable def s_jobs_Queue_Take (mg : GT) (mc : CT) (ms : ST) (P : Program) (C : CallF) (a0 : Value) (a1 : Value) (a2 : Value) (H : AHeap) (K0 : K) : Res :=
bothK (newv T.api_Job (.agg #[(.int .i64 0), (.int .i64 0), (.string (mk [])), (.int .i64 0), (.int .i64 0), (.int .i64 0), (.int .i64 0)]) H) fun t6 h1 =>
ms (fun k1 =>
enterK C F.jobs_Queue_none [a0] h1 fun t13 h2 =>
mc t13 (fun k2 => bareK (bldS #[(.int .i64 0), (.int .i64 0), (.string (mk [])), (.int .i64 0), (.int .i64 0), (.int .i64 0), (.int .i64 0)] [(0, 1), (1, 1), (2, 1), (3, 1), (4, 1), (5, 1), (6, 1)] []) h2 fun t14 h3 =>
quietK (stN 7 h3 t6 t14) fun _ h4 =>
k2 .ret [(6, t6), (7, (.int .i64 1))] h4) (fun k2 =>
bareK (xbin P .lss T.int (.tmp 16) (.const (.int .i64 1)) a1 (.int .i64 1)) h2 fun t17 h5 =>
mg t17 false (fun o3 => o3 a1 h5) h5 fun t19 h6 =>
mg t17 false (fun o4 => bareK (xbin P .gtr T.int (.tmp 19) (.const (.int .i64 1000)) t19 (.int .i64 1000)) h6 o4) h6 fun t20 h7 =>
pickK t17 (.bool true) t20 fun t21 =>
mg t21 false (fun o5 => o5 a2 h7) h7 fun t23 h8 =>
mg t21 false (fun o6 => bareK (xbin P .lss T.int (.tmp 23) (.const (.int .i64 1)) t23 (.int .i64 1)) h8 o6) h8 fun t24 h9 =>
pickK t21 (.bool true) t24 fun t25 =>
mg t25 false (fun o7 => o7 a2 h9) h9 fun t27 h10 =>
mg t25 false (fun o8 => o8 a0 h10) h10 fun t28 h11 =>
mg t25 false (fun o9 => bareK (xnilCheck t28) h11 o9) h11 fun t29 h12 =>
mg t25 false (fun o10 => bareK (fad 4 t29) h12 o10) h12 fun t30 h13 =>
mg t25 false (fun o11 => bareK (ld1 h13 t30) h13 o11) h13 fun t31 h14 =>
mg t25 false (fun o12 => bareK (xbin P .sub T.int (.const (.int .i64 1099511627776)) (.tmp 31) (.int .i64 1099511627776) t31) h14 o12) h14 fun t32 h15 =>
mg t25 false (fun o13 => bareK (xbin P .gtr T.int (.tmp 27) (.tmp 32) t27 t32) h15 o13) h15 fun t33 h16 =>
pickK t25 (.bool true) t33 fun t34 =>
mc t34 (fun k14 => bareK (bldS #[(.int .i64 0), (.int .i64 0), (.string (mk [])), (.int .i64 0), (.int .i64 0), (.int .i64 0), (.int .i64 0)] [(0, 1), (1, 1), (2, 1), (3, 1), (4, 1), (5, 1), (6, 1)] []) h16 fun t35 h17 =>
quietK (stN 7 h17 t6 t35) fun _ h18 =>
k14 .ret [(6, t6), (7, (.int .i64 2))] h18) (fun k14 =>
k14 .normal [(0, a0), (1, a1), (2, a2), (6, t6)] h16) (afterK [0, 1, 2, 6] k2)) (blkK [0, 1, 2, 6] 0 k1)) (seqK (fun tT h19 =>
enterK C F.jobs_number [(.int .i64 1)] h19 fun t37 h20 =>
bothK (bldL T.api_Cell [(.int .i64 0), (.int .u64 0), (.int .i64 0), (.string (mk [])), (.bool false)] 1 [(0, t37)] h20) fun t38 h21 =>
enterK C F.jobs_Queue_in [(get tT 0), t38] h21 fun t39 h22 =>
bareK (lenS t39) h22 fun t41 h23 =>
bareK (xbin P .eql T.int (.tmp 41) (.const (.int .i64 0)) t41 (.int .i64 0)) h23 fun t42 h24 =>
mc t42 (fun k15 => bareK (bldS #[(.int .i64 0), (.int .i64 0), (.string (mk [])), (.int .i64 0), (.int .i64 0), (.int .i64 0), (.int .i64 0)] [(0, 1), (1, 1), (2, 1), (3, 1), (4, 1), (5, 1), (6, 1)] []) h24 fun t43 h25 =>
quietK (stN 7 h25 (get tT 6) t43) fun _ h26 =>
k15 .ret [(6, (get tT 6)), (7, (.int .i64 9))] h26) (fun k15 =>
k15 .normal [(0, (get tT 0)), (1, (get tT 1)), (2, (get tT 2)), (6, (get tT 6)), (8, t39)] h24) (seqK (fun tT_1 h27 =>
bareK (ixS 7 (get tT_1 8) (.int .i64 0)) h27 fun t45 h28 =>
bareK (ldN 7 h28 t45) h28 fun t46 h29 =>
bothK (newv T.api_Job (.agg #[(.int .i64 0), (.int .i64 0), (.string (mk [])), (.int .i64 0), (.int .i64 0), (.int .i64 0), (.int .i64 0)]) h29) fun t9 h30 =>
quietK (stN 7 h30 t9 t46) fun _ h31 =>
bareK (xnilCheck (get tT_1 0)) h31 fun t49 h32 =>
bareK (fad 4 t49) h32 fun t50 h33 =>
bareK (ld1 h33 t50) h33 fun t51 h34 =>
bareK (xbin P .add T.int (.tmp 51) (.tmp 52) t51 (get tT_1 2)) h34 fun t53 h35 =>
bareK (fad 4 t9) h35 fun t54 h36 =>
bareK (ld1 h36 t54) h36 fun t55 h37 =>
bareK (xbin P .add T.int (.tmp 55) (.const (.int .i64 1)) t55 (.int .i64 1)) h37 fun t56 h38 =>
bareK (fad 3 t9) h38 fun t57 h39 =>
quietK (st1 h39 t57 (.int .i64 2)) fun _ h40 =>
bareK (fad 5 t9) h40 fun t58 h41 =>
quietK (st1 h41 t58 (get tT_1 1)) fun _ h42 =>
bareK (fad 6 t9) h42 fun t59 h43 =>
quietK (st1 h43 t59 t53) fun _ h44 =>
bareK (fad 4 t9) h44 fun t60 h45 =>
quietK (st1 h45 t60 t56) fun _ h46 =>
checkK (okV (some true) none h39 h40 h31 h31 && (okV (some true) none h39 h40 h31 h31 && (okV (some true) none h39 h40 h31 h32 && (okV (some true) none h39 h40 h32 h33 && (okV (some true) (blockOf t50) h39 h40 h33 h34 && (okV (some true) none h39 h40 h34 h34 && (okV (some true) none h39 h40 h34 h35 && (okV (some true) none h39 h40 h37 h38 && (okV (some true) none h41 h42 h31 h31 && (okV (some true) none h41 h42 h31 h32 && (okV (some true) none h41 h42 h32 h33 && (okV (some true) (blockOf t50) h41 h42 h33 h34 && (okV (some true) none h41 h42 h34 h34 && (okV (some true) none h41 h42 h34 h35 && (okV (some true) none h41 h42 h37 h38 && (okV (some true) none h43 h44 h37 h38 && true)))))))))))))))) <|
bareK (ldN 7 h46 t9) h46 fun t62 h47 =>
enterK C F.jobs_Queue_set [(get tT_1 0), t62] h47 fun t63 h48 =>
bareK (xbin P .neq T.api_Errno (.tmp 64) (.const (.int .i64 0)) t63 (.int .i64 0)) h48 fun t65 h49 =>
mc t65 (fun k16 => bareK (bldS #[(.int .i64 0), (.int .i64 0), (.string (mk [])), (.int .i64 0), (.int .i64 0), (.int .i64 0), (.int .i64 0)] [(0, 1), (1, 1), (2, 1), (3, 1), (4, 1), (5, 1), (6, 1)] []) h49 fun t66 h50 =>
quietK (stN 7 h50 (get tT_1 6) t66) fun _ h51 =>
k16 .ret [(6, (get tT_1 6)), (7, t63)] h51) (fun k16 =>
k16 .normal [(6, (get tT_1 6)), (9, t9)] h49) (seqK (fun tT_2 h52 =>
bareK (ldN 7 h52 (get tT_2 9)) h52 fun t68 h53 =>
quietK (stN 7 h53 (get tT_2 6) t68) fun _ h54 =>
K0 .ret [(6, (get tT_2 6)), (7, (.int .i64 0))] h54) K0)) K0)) K0)

theorem s_jobs_Queue_Take_eq (M : CombL) (C : CallF) (LP : LoopH) (a0 : Value) (a1 : Value) (a2 : Value) (H : AHeap) : dBodyL M Tryd.prog hints C LP F.jobs_Queue_Take [a0, a1, a2] H = s_jobs_Queue_Take M.b.g M.c M.s Tryd.prog C a0 a1 a2 H (endK Tryd.prog [.cell 6 T.api_Job, .tmp 7]) := by kernel_rfl

/-! (*ticketline.jobs.Queue).Now -/

/-! (*ticketline.jobs.Queue).Finish -/

noncomputable def s_jobs_Queue_Finish (mg : GT) (mc : CT) (ms : ST) (P : Program) (C : CallF) (a0 : Value) (a1 : Value) (a2 : Value) (H : AHeap) (K0 : K) : Res :=
enterK C F.jobs_Queue_taken [a0, a1, a2] H fun t13 h1 =>
bareK (xextract t13 0) h1 fun t14 h2 =>
bareK (xextract t13 1) h2 fun t15 h3 =>
bothK (newv T.api_Job (.agg #[(.int .i64 0), (.int .i64 0), (.string (mk [])), (.int .i64 0), (.int .i64 0), (.int .i64 0), (.int .i64 0)]) h3) fun t7 h4 =>
quietK (stN 7 h4 t7 t14) fun _ h5 =>
bareK (xbin P .neq T.api_Errno (.tmp 16) (.const (.int .i64 0)) t15 (.int .i64 0)) h5 fun t17 h6 =>
mc t17 (fun k1 => k1 .ret [(6, t15)] h6) (fun k1 =>
k1 .normal [(0, a0), (2, a2)] h6) (seqK (fun tT h7 =>
bareK (xnilCheck (get tT 0)) h7 fun t20 h8 =>
bareK (fad 0 t20) h8 fun t21 h9 =>
bareK (ld1 h9 t21) h9 fun t22 h10 =>
bareK (xnilCheck (get tT 0)) h10 fun t24 h11 =>
bareK (fad 1 t24) h11 fun t25 h12 =>
bareK (ld1 h12 t25) h12 fun t26 h13 =>
bareK (xlookup P T.map_int_string t26 (get tT 2) false h13) h13 fun t28 h14 =>
enterK C F.model_Model_Delete [t22, t28] h14 fun t29 h15 =>
checkK true <|
bareK (xnilCheck (get tT 0)) h15 fun t31 h16 =>
bareK (fad 1 t31) h16 fun t32 h17 =>
bareK (ld1 h17 t32) h17 fun t33 h18 =>
nextK C h18 (xbuiltin P .delete [T.map_int_string, T.int] [t33, (get tT 2)] h18) fun _ h19 =>
K0 .ret [(6, (.int .i64 0))] h19) K0)

theorem s_jobs_Queue_Finish_eq (M : CombL) (C : CallF) (LP : LoopH) (a0 : Value) (a1 : Value) (a2 : Value) (H : AHeap) : dBodyL M Tryd.prog hints C LP F.jobs_Queue_Finish [a0, a1, a2] H = s_jobs_Queue_Finish M.b.g M.c M.s Tryd.prog C a0 a1 a2 H (endK Tryd.prog [.tmp 6]) := by kernel_rfl

/-! (*ticketline.jobs.Queue).Revive -/

noncomputable def s_jobs_Queue_Revive (mg : GT) (mc : CT) (ms : ST) (P : Program) (C : CallF) (a0 : Value) (a1 : Value) (H : AHeap) (K0 : K) : Res :=
enterK C F.jobs_Queue_Get [a0, a1] H fun t10 h1 =>
bareK (xextract t10 0) h1 fun t11 h2 =>
bareK (xextract t10 1) h2 fun t12 h3 =>
bothK (newv T.api_Job (.agg #[(.int .i64 0), (.int .i64 0), (.string (mk [])), (.int .i64 0), (.int .i64 0), (.int .i64 0), (.int .i64 0)]) h3) fun t5 h4 =>
quietK (stN 7 h4 t5 t11) fun _ h5 =>
ms (fun k1 =>
bareK (xbin P .neq T.api_Errno (.tmp 14) (.const (.int .i64 0)) t12 (.int .i64 0)) h5 fun t15 h6 =>
mc t15 (fun k2 => k2 .ret [(4, t12)] h6) (fun k2 =>
bareK (fad 3 t5) h6 fun t18 h7 =>
bareK (ld1 h7 t18) h7 fun t19 h8 =>
bareK (xbin P .neq T.api_JobState (.tmp 19) (.const (.int .i64 3)) t19 (.int .i64 3)) h8 fun t20 h9 =>
mc t20 (fun k3 => k3 .ret [(4, (.int .i64 8))] h9) (fun k3 =>
k3 .normal [(0, a0), (5, t5)] h9) (afterK [0, 5] k2)) (blkK [0, 5] 0 k1)) (seqK (fun tT h10 =>
bareK (fad 3 (get tT 5)) h10 fun t21 h11 =>
quietK (st1 h11 t21 (.int .i64 1)) fun _ h12 =>
bareK (fad 4 (get tT 5)) h12 fun t22 h13 =>
quietK (st1 h13 t22 (.int .i64 0)) fun _ h14 =>
bareK (ldN 7 h14 (get tT 5)) h14 fun t24 h15 =>
enterK C F.jobs_Queue_set [(get tT 0), t24] h15 fun t25 h16 =>
K0 .ret [(4, t25)] h16) K0)

theorem s_jobs_Queue_Revive_eq (M : CombL) (C : CallF) (LP : LoopH) (a0 : Value) (a1 : Value) (H : AHeap) : dBodyL M Tryd.prog hints C LP F.jobs_Queue_Revive [a0, a1] H = s_jobs_Queue_Revive M.b.g M.c M.s Tryd.prog C a0 a1 H (endK Tryd.prog [.tmp 4]) := by kernel_rfl

/-! (*ticketline.jobs.Queue).Pass -/

noncomputable def s_jobs_Queue_Pass (mg : GT) (mc : CT) (ms : ST) (P : Program) (C : CallF) (L0 : Value → Value → Value → Value → Value → AHeap → K → Res) (a0 : Value) (a1 : Value) (H : AHeap) (K0 : K) : Res :=
ms (fun k1 =>
enterK C F.jobs_Queue_none [a0] H fun t10 h1 =>
mc t10 (fun k2 => k2 .ret [(4, (.int .i64 1))] h1) (fun k2 =>
bareK (xbin P .lss T.int (.tmp 12) (.const (.int .i64 0)) a1 (.int .i64 0)) h1 fun t13 h2 =>
mg t13 false (fun o3 => o3 a1 h2) h2 fun t15 h3 =>
mg t13 false (fun o4 => bareK (xbin P .gtr T.int (.tmp 15) (.const (.int .i64 1099511627776)) t15 (.int .i64 1099511627776)) h3 o4) h3 fun t16 h4 =>
pickK t13 (.bool true) t16 fun t17 =>
mc t17 (fun k5 => k5 .ret [(4, (.int .i64 2))] h4) (fun k5 =>
bareK (xnilCheck a0) h4 fun t21 h5 =>
bareK (fad 4 t21) h5 fun t22 h6 =>
bareK (ld1 h6 t22) h6 fun t23 h7 =>
bareK (xbin P .lss T.int (.tmp 19) (.tmp 23) a1 t23) h7 fun t24 h8 =>
mc t24 (fun k6 => k6 .ret [(4, (.int .i64 14))] h8) (fun k6 =>
k6 .normal [(0, a0), (1, a1)] h8) (afterK [0, 1] k5)) (afterK [0, 1] k2)) (blkK [0, 1] 0 k1)) (seqK (fun tT h9 =>
bareK (xnilCheck (get tT 0)) h9 fun t27 h10 =>
bareK (fad 4 t27) h10 fun t28 h11 =>
quietK (st1 h11 t28 (get tT 1)) fun _ h12 =>
enterK C F.jobs_number [(.int .i64 2)] h12 fun t30 h13 =>
bothK (bldL T.api_Cell [(.int .i64 0), (.int .u64 0), (.int .i64 0), (.string (mk [])), (.bool false)] 1 [(0, t30)] h13) fun t31 h14 =>
enterK C F.jobs_Queue_in [(get tT 0), t31] h14 fun t32 h15 =>
bareK (lenS t32) h15 fun t33 h16 =>
ms (fun k7 =>
L0 (get tT 0) (get tT 1) t32 t33 (.int .i64 0) h16 (blkK [] 1 k7)) (seqK (fun tT_1 h17 =>
K0 .ret [(4, (.int .i64 0))] h17) K0)) K0)

noncomputable def s_jobs_Queue_Pass_b0 (mg : GT) (mc : CT) (ms : ST) (P : Program) (C : CallF) (L0 : Value → Value → Value → Value → Value → AHeap → K → Res) (v0 : Value) (v1 : Value) (v32 : Value) (v33 : Value) (v34 : Value) (H : AHeap) (k : K) : Res :=
bareK (xbin P .lss T.int (.tmp 34) (.tmp 33) v34 v33) H fun t35 h17 =>
mc t35 (fun k8 => k8 .normal [(0, v0), (1, v1), (32, v32), (33, v33), (34, v34)] h17) (fun k8 =>
k8 (.exit 1) [(35, t35), (0, v0), (1, v1), (32, v32), (33, v33), (34, v34)] h17) (seqK (fun tT h18 =>
ms (fun k9 =>
bareK (ixS 7 (get tT 32) (get tT 34)) h18 fun t36 h19 =>
bareK (ldN 7 h19 t36) h19 fun t37 h20 =>
bothK (newv T.api_Job (.agg #[(.int .i64 0), (.int .i64 0), (.string (mk [])), (.int .i64 0), (.int .i64 0), (.int .i64 0), (.int .i64 0)]) h20) fun t6 h21 =>
quietK (stN 7 h21 t6 t37) fun _ h22 =>
bareK (fad 6 t6) h22 fun t38 h23 =>
bareK (ld1 h23 t38) h23 fun t39 h24 =>
bareK (xbin P .gtr T.int (.tmp 39) (.tmp 40) t39 (get tT 1)) h24 fun t41 h25 =>
mc t41 (fun k10 => k10 (.exit 1) ((41, t41) :: (40, (get tT 1)) :: (39, t39) :: (38, t38) :: (6, t6) :: (37, t37) :: (36, t36) :: tT) h25) (fun k10 =>
k10 .normal [(0, (get tT 0)), (1, (get tT 1)), (6, t6), (32, (get tT 32)), (33, (get tT 33)), (34, (get tT 34))] h25) (seqK (fun tT_1 h26 =>
bareK (ldN 7 h26 (get tT_1 6)) h26 fun t43 h27 =>
enterK C F.jobs_Queue_back [(get tT_1 0), t43] h27 fun t44 h28 =>
bareK (xbin P .neq T.api_Errno (.tmp 45) (.const (.int .i64 0)) t44 (.int .i64 0)) h28 fun t46 h29 =>
mc t46 (fun k11 => k11 .ret [(4, t44)] h29) (fun k11 =>
k11 .normal [(0, (get tT_1 0)), (1, (get tT_1 1)), (32, (get tT_1 32)), (33, (get tT_1 33)), (34, (get tT_1 34))] h29) (blkK [0, 1, 32, 33, 34] 2 k9)) (blkK [0, 1, 32, 33, 34] 2 k9))) (seqK (fun tT_2 h30 =>
bareK (xbin P .add T.int (.tmp 34) (.const (.int .i64 1)) (get tT_2 34) (.int .i64 1)) h30 fun t48 h31 =>
k .normal [(0, (get tT_2 0)), (1, (get tT_2 1)), (32, (get tT_2 32)), (33, (get tT_2 33)), (34, t48)] h31) (afterK [0, 1, 32, 33, 34] k))) (afterK [0, 1, 32, 33, 34] k))

theorem s_jobs_Queue_Pass_eq (M : CombL) (C : CallF) (LP : LoopH) (a0 : Value) (a1 : Value) (H : AHeap) : dBodyL M Tryd.prog hints C LP F.jobs_Queue_Pass [a0, a1] H = s_jobs_Queue_Pass M.b.g M.c M.s Tryd.prog C (fun v0 v1 v32 v33 v34 H k => loopL M Tryd.prog hints C LP F.jobs_Queue_Pass 0 [(0, v0), (1, v1), (32, v32), (33, v33), (34, v34)] H k) a0 a1 H (endK Tryd.prog [.tmp 4]) := by kernel_rfl

theorem s_jobs_Queue_Pass_b0_eq (M : CombL) (C : CallF) (LP : LoopH) (v0 : Value) (v1 : Value) (v32 : Value) (v33 : Value) (v34 : Value) (H : AHeap) (k : K) : bodyL M Tryd.prog hints C LP F.jobs_Queue_Pass 0 [(0, v0), (1, v1), (32, v32), (33, v33), (34, v34)] H (afterK [0, 1, 32, 33, 34] k) = s_jobs_Queue_Pass_b0 M.b.g M.c M.s Tryd.prog C (fun v0 v1 v32 v33 v34 H k => loopL M Tryd.prog hints C LP F.jobs_Queue_Pass 0 [(0, v0), (1, v1), (32, v32), (33, v33), (34, v34)] H k) v0 v1 v32 v33 v34 H k := by kernel_rfl

/-! (*ticketline.jobs.Queue).Map -/

/-! (*ticketline.jobs.Queue).Copy -/

/-! ticketline.ticketlinelaw46.taken -/

noncomputable def s_law_taken (mg : GT) (mc : CT) (ms : ST) (P : Program) (C : CallF) (a0 : Value) (a1 : Value) (a2 : Value) (a3 : Value) (a4 : Value) (a5 : Value) (H : AHeap) (K0 : K) : Res :=
bothK (newv T.api_Job (.agg #[(.int .i64 0), (.int .i64 0), (.string (mk [])), (.int .i64 0), (.int .i64 0), (.int .i64 0), (.int .i64 0)]) H) fun t12 h1 =>
bareK (bldS #[(.int .i64 0), (.int .i64 0), (.string (mk [])), (.int .i64 0), (.int .i64 0), (.int .i64 0), (.int .i64 0)] [(0, 1), (1, 1), (2, 1), (3, 1), (4, 1), (5, 1), (6, 1)] [(0, a0), (1, a1), (2, a2), (3, (.int .i64 2)), (4, a3), (5, a4), (6, a5)]) h1 fun t19 h2 =>
quietK (stN 7 h2 t12 t19) fun _ h3 =>
K0 .ret [(12, t12)] h3

theorem s_law_taken_eq (M : CombL) (C : CallF) (LP : LoopH) (a0 : Value) (a1 : Value) (a2 : Value) (a3 : Value) (a4 : Value) (a5 : Value) (H : AHeap) : dBodyL M Tryd.prog hints C LP F.law_taken [a0, a1, a2, a3, a4, a5] H = s_law_taken M.b.g M.c M.s Tryd.prog C a0 a1 a2 a3 a4 a5 H (endK Tryd.prog [.cell 12 T.api_Job]) := by kernel_rfl

/-! (*ticketline.jobs.Queue).taken -/

noncomputable def s_jobs_Queue_taken (mg : GT) (mc : CT) (ms : ST) (P : Program) (C : CallF) (a0 : Value) (a1 : Value) (a2 : Value) (H : AHeap) (K0 : K) : Res :=
bothK (newv T.api_Job (.agg #[(.int .i64 0), (.int .i64 0), (.string (mk [])), (.int .i64 0), (.int .i64 0), (.int .i64 0), (.int .i64 0)]) H) fun t6 h1 =>
ms (fun k1 =>
enterK C F.jobs_Queue_none [a0] h1 fun t12 h2 =>
mc t12 (fun k2 => bareK (bldS #[(.int .i64 0), (.int .i64 0), (.string (mk [])), (.int .i64 0), (.int .i64 0), (.int .i64 0), (.int .i64 0)] [(0, 1), (1, 1), (2, 1), (3, 1), (4, 1), (5, 1), (6, 1)] []) h2 fun t13 h3 =>
quietK (stN 7 h3 t6 t13) fun _ h4 =>
k2 .ret [(6, t6), (7, (.int .i64 1))] h4) (fun k2 =>
bareK (xbin P .lss T.int (.tmp 15) (.const (.int .i64 1)) a1 (.int .i64 1)) h2 fun t16 h5 =>
mg t16 false (fun o3 => o3 a1 h5) h5 fun t18 h6 =>
mg t16 false (fun o4 => bareK (xbin P .gtr T.int (.tmp 18) (.const (.int .i64 1000)) t18 (.int .i64 1000)) h6 o4) h6 fun t19 h7 =>
pickK t16 (.bool true) t19 fun t20 =>
mc t20 (fun k5 => bareK (bldS #[(.int .i64 0), (.int .i64 0), (.string (mk [])), (.int .i64 0), (.int .i64 0), (.int .i64 0), (.int .i64 0)] [(0, 1), (1, 1), (2, 1), (3, 1), (4, 1), (5, 1), (6, 1)] []) h7 fun t21 h8 =>
quietK (stN 7 h8 t6 t21) fun _ h9 =>
k5 .ret [(6, t6), (7, (.int .i64 2))] h9) (fun k5 =>
k5 .normal [(0, a0), (1, a1), (2, a2), (6, t6)] h7) (afterK [0, 1, 2, 6] k2)) (blkK [0, 1, 2, 6] 0 k1)) (seqK (fun tT h10 =>
enterK C F.jobs_Queue_Get [(get tT 0), (get tT 2)] h10 fun t25 h11 =>
bareK (xextract t25 0) h11 fun t26 h12 =>
bareK (xextract t25 1) h12 fun t27 h13 =>
bothK (newv T.api_Job (.agg #[(.int .i64 0), (.int .i64 0), (.string (mk [])), (.int .i64 0), (.int .i64 0), (.int .i64 0), (.int .i64 0)]) h13) fun t8 h14 =>
quietK (stN 7 h14 t8 t26) fun _ h15 =>
bareK (xbin P .neq T.api_Errno (.tmp 28) (.const (.int .i64 0)) t27 (.int .i64 0)) h15 fun t29 h16 =>
mc t29 (fun k6 => bareK (bldS #[(.int .i64 0), (.int .i64 0), (.string (mk [])), (.int .i64 0), (.int .i64 0), (.int .i64 0), (.int .i64 0)] [(0, 1), (1, 1), (2, 1), (3, 1), (4, 1), (5, 1), (6, 1)] []) h16 fun t30 h17 =>
quietK (stN 7 h17 (get tT 6) t30) fun _ h18 =>
k6 .ret [(6, (get tT 6)), (7, t27)] h18) (fun k6 =>
k6 .normal [(1, (get tT 1)), (6, (get tT 6)), (8, t8)] h16) (seqK (fun tT_1 h19 =>
bareK (fad 3 (get tT_1 8)) h19 fun t32 h20 =>
bareK (ld1 h20 t32) h20 fun t33 h21 =>
bareK (xbin P .neq T.api_JobState (.tmp 33) (.const (.int .i64 2)) t33 (.int .i64 2)) h21 fun t34 h22 =>
mg t34 false (fun o7 => bareK (fad 5 (get tT_1 8)) h22 o7) h22 fun t36 h23 =>
mg t34 false (fun o8 => bareK (ld1 h23 t36) h23 o8) h23 fun t37 h24 =>
mg t34 false (fun o9 => o9 (get tT_1 1) h24) h24 fun t38 h25 =>
mg t34 false (fun o10 => bareK (xbin P .neq T.int (.tmp 37) (.tmp 38) t37 t38) h25 o10) h25 fun t39 h26 =>
pickK t34 (.bool true) t39 fun t40 =>
mc t40 (fun k11 => bareK (bldS #[(.int .i64 0), (.int .i64 0), (.string (mk [])), (.int .i64 0), (.int .i64 0), (.int .i64 0), (.int .i64 0)] [(0, 1), (1, 1), (2, 1), (3, 1), (4, 1), (5, 1), (6, 1)] []) h26 fun t41 h27 =>
quietK (stN 7 h27 (get tT_1 6) t41) fun _ h28 =>
k11 .ret [(6, (get tT_1 6)), (7, (.int .i64 8))] h28) (fun k11 =>
k11 .normal [(6, (get tT_1 6)), (8, (get tT_1 8))] h26) (seqK (fun tT_2 h29 =>
bareK (ldN 7 h29 (get tT_2 8)) h29 fun t42 h30 =>
quietK (stN 7 h30 (get tT_2 6) t42) fun _ h31 =>
K0 .ret [(6, (get tT_2 6)), (7, (.int .i64 0))] h31) K0)) K0)) K0)

theorem s_jobs_Queue_taken_eq (M : CombL) (C : CallF) (LP : LoopH) (a0 : Value) (a1 : Value) (a2 : Value) (H : AHeap) : dBodyL M Tryd.prog hints C LP F.jobs_Queue_taken [a0, a1, a2] H = s_jobs_Queue_taken M.b.g M.c M.s Tryd.prog C a0 a1 a2 H (endK Tryd.prog [.cell 6 T.api_Job, .tmp 7]) := by kernel_rfl

/-! (*ticketline.jobs.Queue).back -/

noncomputable def s_jobs_Queue_back (mg : GT) (mc : CT) (ms : ST) (P : Program) (C : CallF) (a0 : Value) (a1 : Value) (H : AHeap) (K0 : K) : Res :=
bothK (newv T.api_Job a1 H) fun t3 h1 =>
bareK (fad 3 t3) h1 fun t5 h2 =>
quietK (st1 h2 t5 (.int .i64 1)) fun _ h3 =>
bareK (fad 5 t3) h3 fun t6 h4 =>
quietK (st1 h4 t6 (.int .i64 0)) fun _ h5 =>
bareK (fad 6 t3) h5 fun t7 h6 =>
quietK (st1 h6 t7 (.int .i64 0)) fun _ h7 =>
bareK (fad 4 t3) h7 fun t8 h8 =>
bareK (ld1 h8 t8) h8 fun t9 h9 =>
bareK (xnilCheck a0) h9 fun t11 h10 =>
bareK (fad 2 t11) h10 fun t12 h11 =>
bareK (ld1 h11 t12) h11 fun t13 h12 =>
bareK (xbin P .geq T.int (.tmp 9) (.tmp 13) t9 t13) h12 fun t14 h13 =>
checkK true <|
mc t14 (fun k1 => bareK (fad 3 t3) h13 fun t15 h14 =>
quietK (st1 h14 t15 (.int .i64 3)) fun _ h15 =>
k1 .normal [(0, a0), (3, t3)] h15) (fun k1 =>
k1 .normal [(0, a0), (3, t3)] h13) (seqK (fun tT h16 =>
bareK (ldN 7 h16 (get tT 3)) h16 fun t17 h17 =>
enterK C F.jobs_Queue_set [(get tT 0), t17] h17 fun t18 h18 =>
K0 .ret [(4, t18)] h18) K0)

theorem s_jobs_Queue_back_eq (M : CombL) (C : CallF) (LP : LoopH) (a0 : Value) (a1 : Value) (H : AHeap) : dBodyL M Tryd.prog hints C LP F.jobs_Queue_back [a0, a1] H = s_jobs_Queue_back M.b.g M.c M.s Tryd.prog C a0 a1 H (endK Tryd.prog [.tmp 4]) := by kernel_rfl

/-! (*ticketline.jobs.Queue).Get -/

noncomputable def s_jobs_Queue_Get (mg : GT) (mc : CT) (ms : ST) (P : Program) (C : CallF) (a0 : Value) (a1 : Value) (H : AHeap) (K0 : K) : Res :=
bothK (newv T.api_Job (.agg #[(.int .i64 0), (.int .i64 0), (.string (mk [])), (.int .i64 0), (.int .i64 0), (.int .i64 0), (.int .i64 0)]) H) fun t4 h1 =>
enterK C F.jobs_Queue_none [a0] h1 fun t12 h2 =>
mc t12 (fun k1 => bareK (bldS #[(.int .i64 0), (.int .i64 0), (.string (mk [])), (.int .i64 0), (.int .i64 0), (.int .i64 0), (.int .i64 0)] [(0, 1), (1, 1), (2, 1), (3, 1), (4, 1), (5, 1), (6, 1)] []) h2 fun t13 h3 =>
quietK (stN 7 h3 t4 t13) fun _ h4 =>
k1 .ret [(4, t4), (5, (.int .i64 1))] h4) (fun k1 =>
k1 .normal [(0, a0), (1, a1), (4, t4)] h2) (seqK (fun tT h5 =>
bareK (xnilCheck (get tT 0)) h5 fun t16 h6 =>
bareK (fad 1 t16) h6 fun t17 h7 =>
bareK (ld1 h7 t17) h7 fun t18 h8 =>
bareK (xlookup P T.map_int_string t18 (get tT 1) true h8) h8 fun t20 h9 =>
bareK (xextract t20 0) h9 fun t21 h10 =>
bareK (xextract t20 1) h10 fun t22 h11 =>
bareK (xun P .not t22) h11 fun t24 h12 =>
mc t24 (fun k2 => bareK (bldS #[(.int .i64 0), (.int .i64 0), (.string (mk [])), (.int .i64 0), (.int .i64 0), (.int .i64 0), (.int .i64 0)] [(0, 1), (1, 1), (2, 1), (3, 1), (4, 1), (5, 1), (6, 1)] []) h12 fun t25 h13 =>
quietK (stN 7 h13 (get tT 4) t25) fun _ h14 =>
k2 .ret [(4, (get tT 4)), (5, (.int .i64 9))] h14) (fun k2 =>
k2 .normal [(0, (get tT 0)), (4, (get tT 4)), (6, t21)] h12) (seqK (fun tT_1 h15 =>
bareK (xnilCheck (get tT_1 0)) h15 fun t28 h16 =>
bareK (fad 0 t28) h16 fun t29 h17 =>
bareK (ld1 h17 t29) h17 fun t30 h18 =>
enterK C F.model_Model_Get [t30, (get tT_1 6)] h18 fun t32 h19 =>
bareK (xextract t32 0) h19 fun t33 h20 =>
bareK (xextract t32 1) h20 fun t34 h21 =>
bareK (xbin P .neq T.api_Errno (.tmp 35) (.const (.int .i64 0)) t34 (.int .i64 0)) h21 fun t36 h22 =>
mc t36 (fun k3 => bareK (bldS #[(.int .i64 0), (.int .i64 0), (.string (mk [])), (.int .i64 0), (.int .i64 0), (.int .i64 0), (.int .i64 0)] [(0, 1), (1, 1), (2, 1), (3, 1), (4, 1), (5, 1), (6, 1)] []) h22 fun t37 h23 =>
quietK (stN 7 h23 (get tT_1 4) t37) fun _ h24 =>
k3 .ret [(4, (get tT_1 4)), (5, t34)] h24) (fun k3 =>
k3 .normal [(4, (get tT_1 4)), (6, (get tT_1 6)), (8, t33)] h22) (seqK (fun tT_2 h25 =>
enterK C F.jobs_table [] h25 fun t40 h26 =>
enterK C F.rows_Read [t40, (get tT_2 6), (get tT_2 8)] h26 fun t43 h27 =>
bareK (xextract t43 0) h27 fun t44 h28 =>
bareK (xextract t43 1) h28 fun t45 h29 =>
bareK (xbin P .neq T.api_Errno (.tmp 46) (.const (.int .i64 0)) t45 (.int .i64 0)) h29 fun t47 h30 =>
mc t47 (fun k4 => bareK (bldS #[(.int .i64 0), (.int .i64 0), (.string (mk [])), (.int .i64 0), (.int .i64 0), (.int .i64 0), (.int .i64 0)] [(0, 1), (1, 1), (2, 1), (3, 1), (4, 1), (5, 1), (6, 1)] []) h30 fun t48 h31 =>
quietK (stN 7 h31 (get tT_2 4) t48) fun _ h32 =>
k4 .ret [(4, (get tT_2 4)), (5, t45)] h32) (fun k4 =>
k4 .normal [(4, (get tT_2 4)), (10, t44)] h30) (seqK (fun tT_3 h33 =>
enterK C F.jobs_job [(get tT_3 10)] h33 fun t51 h34 =>
quietK (stN 7 h34 (get tT_3 4) t51) fun _ h35 =>
K0 .ret [(4, (get tT_3 4)), (5, (.int .i64 0))] h35) K0)) K0)) K0)) K0)

theorem s_jobs_Queue_Get_eq (M : CombL) (C : CallF) (LP : LoopH) (a0 : Value) (a1 : Value) (H : AHeap) : dBodyL M Tryd.prog hints C LP F.jobs_Queue_Get [a0, a1] H = s_jobs_Queue_Get M.b.g M.c M.s Tryd.prog C a0 a1 H (endK Tryd.prog [.cell 4 T.api_Job, .tmp 5]) := by kernel_rfl

/-! (*ticketline.jobs.Queue).none -/

noncomputable def s_jobs_Queue_none (mg : GT) (mc : CT) (ms : ST) (P : Program) (C : CallF) (a0 : Value) (H : AHeap) (K0 : K) : Res :=
bareK (xbin P .eql T.p_jobs_Queue (.tmp 3) (.const (.pointer none)) a0 (.pointer none)) H fun t4 h1 =>
mg t4 false (fun o1 => o1 a0 h1) h1 fun t6 h2 =>
mg t4 false (fun o2 => bareK (xnilCheck t6) h2 o2) h2 fun t7 h3 =>
mg t4 false (fun o3 => bareK (fad 0 t7) h3 o3) h3 fun t8 h4 =>
mg t4 false (fun o4 => bareK (ld1 h4 t8) h4 o4) h4 fun t9 h5 =>
mg t4 false (fun o5 => bareK (xbin P .eql T.p_model_Model (.tmp 9) (.const (.pointer none)) t9 (.pointer none)) h5 o5) h5 fun t10 h6 =>
pickK t4 (.bool true) t10 fun t11 =>
K0 .ret [(2, t11)] h6

theorem s_jobs_Queue_none_eq (M : CombL) (C : CallF) (LP : LoopH) (a0 : Value) (H : AHeap) : dBodyL M Tryd.prog hints C LP F.jobs_Queue_none [a0] H = s_jobs_Queue_none M.b.g M.c M.s Tryd.prog C a0 H (endK Tryd.prog [.tmp 2]) := by kernel_rfl

/-! (*ticketline.jobs.Queue).in -/

noncomputable def s_jobs_Queue_in (mg : GT) (mc : CT) (ms : ST) (P : Program) (C : CallF) (L0 : Value → Value → Value → Value → Value → Value → AHeap → K → Res) (a0 : Value) (a1 : Value) (H : AHeap) (K0 : K) : Res :=
enterK C F.jobs_table [] H fun t14 h1 =>
enterK C F.rows_Span [t14, a1] h1 fun t16 h2 =>
bareK (xextract t16 0) h2 fun t17 h3 =>
bareK (xextract t16 1) h3 fun t18 h4 =>
bareK (xextract t16 2) h4 fun t19 h5 =>
bareK (xnilCheck a0) h5 fun t21 h6 =>
bareK (fad 0 t21) h6 fun t22 h7 =>
bareK (ld1 h7 t22) h7 fun t23 h8 =>
enterK C F.model_Model_Pairs [t23] h8 fun t24 h9 =>
bareK (lenS t24) h9 fun t25 h10 =>
ms (fun k1 =>
L0 t17 t18 (.slice none 0 0) t24 t25 (.int .i64 0) h10 (blkK [8] 0 k1)) (seqK (fun tT h11 =>
K0 .ret [(4, (get tT 8))] h11) K0)

noncomputable def s_jobs_Queue_in_b0 (mg : GT) (mc : CT) (ms : ST) (P : Program) (C : CallF) (L0 : Value → Value → Value → Value → Value → Value → AHeap → K → Res) (v5 : Value) (v6 : Value) (v8 : Value) (v24 : Value) (v25 : Value) (v26 : Value) (H : AHeap) (k : K) : Res :=
bareK (xbin P .lss T.int (.tmp 26) (.tmp 25) v26 v25) H fun t27 h11 =>
mc t27 (fun k2 => k2 .normal [(5, v5), (6, v6), (8, v8), (24, v24), (25, v25), (26, v26)] h11) (fun k2 =>
k2 (.exit 0) [(27, t27), (5, v5), (6, v6), (8, v8), (24, v24), (25, v25), (26, v26)] h11) (seqK (fun tT h12 =>
ms (fun k3 =>
bareK (ixS 2 (get tT 24) (get tT 26)) h12 fun t28 h13 =>
bareK (ldN 2 h13 t28) h13 fun t29 h14 =>
bothK (newv T.api_Pair (.agg #[(.string (mk [])), (.string (mk []))]) h14) fun t10 h15 =>
quietK (stN 2 h15 t10 t29) fun _ h16 =>
bareK (fad 0 t10) h16 fun t30 h17 =>
bareK (ld1 h17 t30) h17 fun t31 h18 =>
bareK (xbin P .lss T.string (.tmp 31) (.tmp 32) t31 (get tT 5)) h18 fun t33 h19 =>
mg t33 false (fun o4 => o4 (get tT 6) h19) h19 fun t35 h20 =>
mg t33 false (fun o5 => bareK (xbin P .neq T.string (.tmp 35) (.const (.string (mk []))) t35 (.string (mk []))) h20 o5) h20 fun t36 h21 =>
mg t33 false (fun o6 => o6 t36 h21) h21 fun t37 h22 =>
mg t37 true (fun o7 => bareK (fad 0 t10) h22 o7) h22 fun t38 h23 =>
mg t37 true (fun o8 => bareK (ld1 h23 t38) h23 o8) h23 fun t39 h24 =>
mg t37 true (fun o9 => o9 (get tT 6) h24) h24 fun t40 h25 =>
mg t37 true (fun o10 => bareK (xbin P .geq T.string (.tmp 39) (.tmp 40) t39 t40) h25 o10) h25 fun t41 h26 =>
mg t33 false (fun o11 => pickK t37 t41 (.bool false) fun v => o11 v h26) h26 fun t42 h27 =>
pickK t33 (.bool true) t42 fun t43 =>
mc t43 (fun k12 => k12 (.exit 1) ((43, t43) :: (42, t42) :: (41, t41) :: (40, t40) :: (39, t39) :: (38, t38) :: (37, t37) :: (36, t36) :: (35, t35) :: (34, t33) :: (33, t33) :: (32, (get tT 5)) :: (31, t31) :: (30, t30) :: (10, t10) :: (29, t29) :: (28, t28) :: tT) h27) (fun k12 =>
k12 .normal [(5, (get tT 5)), (6, (get tT 6)), (8, (get tT 8)), (10, t10), (24, (get tT 24)), (25, (get tT 25)), (26, (get tT 26))] h27) (seqK (fun tT_1 h28 =>
enterK C F.jobs_table [] h28 fun t45 h29 =>
bareK (fad 0 (get tT_1 10)) h29 fun t46 h30 =>
bareK (ld1 h30 t46) h30 fun t47 h31 =>
bareK (fad 1 (get tT_1 10)) h31 fun t48 h32 =>
bareK (ld1 h32 t48) h32 fun t49 h33 =>
enterK C F.rows_Read [t45, t47, t49] h33 fun t50 h34 =>
bareK (xextract t50 0) h34 fun t51 h35 =>
bareK (xextract t50 1) h35 fun t52 h36 =>
checkK (okV (some true) none h28 h29 h29 h30 && (okV (some true) (blockOf t46) h28 h29 h30 h31 && (okV (some true) none h28 h29 h31 h32 && (okV (some true) (blockOf t48) h28 h29 h32 h33 && true)))) <|
bareK (xbin P .eql T.api_Errno (.tmp 53) (.const (.int .i64 0)) t52 (.int .i64 0)) h36 fun t54 h37 =>
mc t54 (fun k13 => enterK C F.jobs_job [t51] h37 fun t57 h38 =>
bothK (bldL T.api_Job [(.int .i64 0), (.int .i64 0), (.string (mk [])), (.int .i64 0), (.int .i64 0), (.int .i64 0), (.int .i64 0)] 1 [(0, t57)] h38) fun t58 h39 =>
bothK (app T.api_Job 7 64 (get tT_1 8) (srcS 7 t58 h39) h39) fun t59 h40 =>
k13 .normal [(5, (get tT_1 5)), (6, (get tT_1 6)), (8, t59), (24, (get tT_1 24)), (25, (get tT_1 25)), (26, (get tT_1 26))] h40) (fun k13 =>
k13 .normal [(5, (get tT_1 5)), (6, (get tT_1 6)), (8, (get tT_1 8)), (24, (get tT_1 24)), (25, (get tT_1 25)), (26, (get tT_1 26))] h37) (blkK [5, 6, 8, 24, 25, 26] 1 k3)) (blkK [5, 6, 8, 24, 25, 26] 1 k3))) (seqK (fun tT_2 h41 =>
bareK (xbin P .add T.int (.tmp 26) (.const (.int .i64 1)) (get tT_2 26) (.int .i64 1)) h41 fun t60 h42 =>
k .normal [(5, (get tT_2 5)), (6, (get tT_2 6)), (8, (get tT_2 8)), (24, (get tT_2 24)), (25, (get tT_2 25)), (26, t60)] h42) (afterK [5, 6, 8, 24, 25, 26] k))) (afterK [5, 6, 8, 24, 25, 26] k))

theorem s_jobs_Queue_in_eq (M : CombL) (C : CallF) (LP : LoopH) (a0 : Value) (a1 : Value) (H : AHeap) : dBodyL M Tryd.prog hints C LP F.jobs_Queue_in [a0, a1] H = s_jobs_Queue_in M.b.g M.c M.s Tryd.prog C (fun v5 v6 v8 v24 v25 v26 H k => loopL M Tryd.prog hints C LP F.jobs_Queue_in 0 [(5, v5), (6, v6), (8, v8), (24, v24), (25, v25), (26, v26)] H k) a0 a1 H (endK Tryd.prog [.tmp 4]) := by kernel_rfl

theorem s_jobs_Queue_in_b0_eq (M : CombL) (C : CallF) (LP : LoopH) (v5 : Value) (v6 : Value) (v8 : Value) (v24 : Value) (v25 : Value) (v26 : Value) (H : AHeap) (k : K) : bodyL M Tryd.prog hints C LP F.jobs_Queue_in 0 [(5, v5), (6, v6), (8, v8), (24, v24), (25, v25), (26, v26)] H (afterK [5, 6, 8, 24, 25, 26] k) = s_jobs_Queue_in_b0 M.b.g M.c M.s Tryd.prog C (fun v5 v6 v8 v24 v25 v26 H k => loopL M Tryd.prog hints C LP F.jobs_Queue_in 0 [(5, v5), (6, v6), (8, v8), (24, v24), (25, v25), (26, v26)] H k) v5 v6 v8 v24 v25 v26 H k := by kernel_rfl

/-! (*ticketline.jobs.Queue).set -/

noncomputable def s_jobs_Queue_set (mg : GT) (mc : CT) (ms : ST) (P : Program) (C : CallF) (a0 : Value) (a1 : Value) (H : AHeap) (K0 : K) : Res :=
bothK (newv T.api_Job a1 H) fun t3 h1 =>
enterK C F.jobs_table [] h1 fun t12 h2 =>
bareK (ldN 7 h2 t3) h2 fun t13 h3 =>
enterK C F.jobs_row [t13] h3 fun t14 h4 =>
enterK C F.rows_Row [t12, t14] h4 fun t15 h5 =>
bareK (xextract t15 0) h5 fun t16 h6 =>
bareK (xextract t15 1) h6 fun t17 h7 =>
bareK (xextract t15 2) h7 fun t18 h8 =>
checkK (okV (some true) (blockOf t3) h1 h2 h2 h3 && true) <|
bareK (xbin P .neq T.api_Errno (.tmp 19) (.const (.int .i64 0)) t18 (.int .i64 0)) h8 fun t20 h9 =>
mc t20 (fun k1 => k1 .ret [(4, t18)] h9) (fun k1 =>
k1 .normal [(0, a0), (3, t3), (5, t16), (6, t17)] h9) (seqK (fun tT h10 =>
bareK (xnilCheck (get tT 0)) h10 fun t24 h11 =>
bareK (fad 1 t24) h11 fun t25 h12 =>
bareK (ld1 h12 t25) h12 fun t26 h13 =>
bareK (fad 0 (get tT 3)) h13 fun t27 h14 =>
bareK (ld1 h14 t27) h14 fun t28 h15 =>
bareK (xlookup P T.map_int_string t26 t28 true h15) h15 fun t29 h16 =>
bareK (xextract t29 0) h16 fun t30 h17 =>
bareK (xextract t29 1) h17 fun t31 h18 =>
checkK true <|
mc t31 (fun k2 => bareK (xnilCheck (get tT 0)) h18 fun t34 h19 =>
bareK (fad 0 t34) h19 fun t35 h20 =>
bareK (ld1 h20 t35) h20 fun t36 h21 =>
enterK C F.model_Model_Delete [t36, t30] h21 fun t38 h22 =>
k2 .normal [(0, (get tT 0)), (3, (get tT 3)), (5, (get tT 5)), (6, (get tT 6))] h22) (fun k2 =>
k2 .normal [(0, (get tT 0)), (3, (get tT 3)), (5, (get tT 5)), (6, (get tT 6))] h18) (seqK (fun tT_1 h23 =>
bareK (xnilCheck (get tT_1 0)) h23 fun t40 h24 =>
bareK (fad 0 t40) h24 fun t41 h25 =>
bareK (ld1 h25 t41) h25 fun t42 h26 =>
enterK C F.model_Model_Put [t42, (get tT_1 5), (get tT_1 6)] h26 fun t45 h27 =>
bareK (xbin P .neq T.api_Errno (.tmp 46) (.const (.int .i64 0)) t45 (.int .i64 0)) h27 fun t47 h28 =>
mc t47 (fun k3 => k3 .ret [(4, t45)] h28) (fun k3 =>
k3 .normal [(0, (get tT_1 0)), (3, (get tT_1 3)), (5, (get tT_1 5))] h28) (seqK (fun tT_2 h29 =>
bareK (xnilCheck (get tT_2 0)) h29 fun t50 h30 =>
bareK (fad 1 t50) h30 fun t51 h31 =>
bareK (ld1 h31 t51) h31 fun t52 h32 =>
bareK (fad 0 (get tT_2 3)) h32 fun t53 h33 =>
bareK (ld1 h33 t53) h33 fun t54 h34 =>
quietK (xmapUpdate P T.map_int_string t52 t54 (get tT_2 5) h34) fun _ h35 =>
checkK true <|
K0 .ret [(4, (.int .i64 0))] h35) K0)) K0)) K0)

theorem s_jobs_Queue_set_eq (M : CombL) (C : CallF) (LP : LoopH) (a0 : Value) (a1 : Value) (H : AHeap) : dBodyL M Tryd.prog hints C LP F.jobs_Queue_set [a0, a1] H = s_jobs_Queue_set M.b.g M.c M.s Tryd.prog C a0 a1 H (endK Tryd.prog [.tmp 4]) := by kernel_rfl

/-! ticketline.jobs.number -/

noncomputable def s_jobs_number (mg : GT) (mc : CT) (ms : ST) (P : Program) (C : CallF) (a0 : Value) (H : AHeap) (K0 : K) : Res :=
bothK (newv T.api_Cell (.agg #[(.int .i64 0), (.int .u64 0), (.int .i64 0), (.string (mk [])), (.bool false)]) H) fun t2 h1 =>
bothK (xconv P T.int T.uint64 a0 h1) fun t4 h2 =>
bareK (bldS #[(.int .i64 0), (.int .u64 0), (.int .i64 0), (.string (mk [])), (.bool false)] [(0, 1), (1, 1), (2, 1), (3, 1), (4, 1)] [(0, (.int .i64 1)), (1, t4)]) h2 fun t5 h3 =>
quietK (stN 5 h3 t2 t5) fun _ h4 =>
K0 .ret [(2, t2)] h4

theorem s_jobs_number_eq (M : CombL) (C : CallF) (LP : LoopH) (a0 : Value) (H : AHeap) : dBodyL M Tryd.prog hints C LP F.jobs_number [a0] H = s_jobs_number M.b.g M.c M.s Tryd.prog C a0 H (endK Tryd.prog [.cell 2 T.api_Cell]) := by kernel_rfl

/-! (*ticketline.model.Model).Delete -/

noncomputable def s_model_Model_Delete (mg : GT) (mc : CT) (ms : ST) (P : Program) (C : CallF) (a0 : Value) (a1 : Value) (H : AHeap) (K0 : K) : Res :=
enterK C F.model_Model_Get [a0, a1] H fun t13 h1 =>
bareK (xextract t13 0) h1 fun t14 h2 =>
bareK (xextract t13 1) h2 fun t15 h3 =>
bareK (xbin P .neq T.api_Errno (.tmp 16) (.const (.int .i64 0)) t15 (.int .i64 0)) h3 fun t17 h4 =>
mc t17 (fun k1 => k1 .ret [(4, (.string (mk []))), (5, t15)] h4) (fun k1 =>
k1 .normal [(0, a0), (1, a1), (6, t14)] h4) (seqK (fun tT h5 =>
enterK C F.model_Model_place [(get tT 0), (get tT 1)] h5 fun t22 h6 =>
bareK (xextract t22 0) h6 fun t23 h7 =>
bareK (xextract t22 1) h7 fun t24 h8 =>
bareK (xnilCheck (get tT 0)) h8 fun t27 h9 =>
bareK (fad 0 t27) h9 fun t28 h10 =>
bareK (ld1 h10 t28) h10 fun t29 h11 =>
bareK (xbin P .add T.int (.tmp 31) (.const (.int .i64 1)) t23 (.int .i64 1)) h11 fun t32 h12 =>
enterK C F.slices_Delete_Pair [t29, t23, t32] h12 fun t33 h13 =>
bareK (xnilCheck (get tT 0)) h13 fun t34 h14 =>
bareK (fad 0 t34) h14 fun t35 h15 =>
quietK (st1 h15 t35 t33) fun _ h16 =>
K0 .ret [(4, (get tT 6)), (5, (.int .i64 0))] h16) K0)

theorem s_model_Model_Delete_eq (M : CombL) (C : CallF) (LP : LoopH) (a0 : Value) (a1 : Value) (H : AHeap) : dBodyL M Tryd.prog hints C LP F.model_Model_Delete [a0, a1] H = s_model_Model_Delete M.b.g M.c M.s Tryd.prog C a0 a1 H (endK Tryd.prog [.tmp 4, .tmp 5]) := by kernel_rfl

/-! (*ticketline.model.Model).Copy -/

/-! (*ticketline.model.Model).Get -/

noncomputable def s_model_Model_Get (mg : GT) (mc : CT) (ms : ST) (P : Program) (C : CallF) (a0 : Value) (a1 : Value) (H : AHeap) (K0 : K) : Res :=
enterK C F.model_Model_at [a0, a1, (.slice none 0 0)] H fun t12 h1 =>
bareK (xextract t12 0) h1 fun t13 h2 =>
bareK (xextract t12 1) h2 fun t14 h3 =>
bareK (xextract t12 2) h3 fun t15 h4 =>
ms (fun k1 =>
bareK (xbin P .neq T.api_Errno (.tmp 17) (.const (.int .i64 0)) t15 (.int .i64 0)) h4 fun t18 h5 =>
mc t18 (fun k2 => k2 .ret [(4, (.string (mk []))), (5, t15)] h5) (fun k2 =>
bareK (xun P .not t14) h5 fun t22 h6 =>
mc t22 (fun k3 => k3 .ret [(4, (.string (mk []))), (5, (.int .i64 9))] h6) (fun k3 =>
k3 .normal [(0, a0), (6, t13)] h6) (afterK [0, 6] k2)) (blkK [0, 6] 0 k1)) (seqK (fun tT h7 =>
bareK (xnilCheck (get tT 0)) h7 fun t24 h8 =>
bareK (fad 0 t24) h8 fun t25 h9 =>
bareK (ld1 h9 t25) h9 fun t26 h10 =>
bareK (ixS 2 t26 (get tT 6)) h10 fun t28 h11 =>
bareK (fad 1 t28) h11 fun t29 h12 =>
bareK (ld1 h12 t29) h12 fun t30 h13 =>
K0 .ret [(4, t30), (5, (.int .i64 0))] h13) K0)

theorem s_model_Model_Get_eq (M : CombL) (C : CallF) (LP : LoopH) (a0 : Value) (a1 : Value) (H : AHeap) : dBodyL M Tryd.prog hints C LP F.model_Model_Get [a0, a1] H = s_model_Model_Get M.b.g M.c M.s Tryd.prog C a0 a1 H (endK Tryd.prog [.tmp 4, .tmp 5]) := by kernel_rfl

/-! ticketline.rows.Read -/

noncomputable def s_rows_Read (mg : GT) (mc : CT) (ms : ST) (P : Program) (C : CallF) (L0 : Value → Value → Value → Value → Value → Value → Value → AHeap → K → Res) (L1 : Value → Value → Value → Value → Value → Value → Value → Value → Value → Value → Value → AHeap → K → Res) (a0 : Value) (a1 : Value) (a2 : Value) (H : AHeap) (K0 : K) : Res :=
bothK (newv T.api_Table a0 H) fun t3 h1 =>
bareK (ldN 3 h1 t3) h1 fun t19 h2 =>
enterK C F.rows_Valid [t19] h2 fun t20 h3 =>
bareK (xun P .not t20) h3 fun t21 h4 =>
mc t21 (fun k1 => k1 .ret [(6, (.slice none 0 0)), (7, (.int .i64 2))] h4) (fun k1 =>
k1 .normal [(1, a1), (2, a2), (3, t3)] h4) (seqK (fun tT h5 =>
bareK (xbin P .eql T.string (.tmp 22) (.const (.string (mk []))) (get tT 1) (.string (mk []))) h5 fun t23 h6 =>
mc t23 (fun k2 => k2 .ret [(6, (.slice none 0 0)), (7, (.int .i64 12))] h6) (fun k2 =>
k2 .normal [(1, (get tT 1)), (2, (get tT 2)), (3, (get tT 3))] h6) (seqK (fun tT_1 h7 =>
bareK (slT (get tT_1 1) (some (.int .i64 1)) none) h7 fun t25 h8 =>
bothK (bldL T.string [(.string (mk []))] 2 [(0, t25), (1, (get tT_1 2))] h8) fun t27 h9 =>
bareK (lenS t27) h9 fun t28 h10 =>
ms (fun k3 =>
L0 (get tT_1 1) (get tT_1 2) (get tT_1 3) (.slice none 0 0) t27 t28 (.int .i64 0) h10 (blkK [1, 2, 3, 8] 0 k3)) (seqK (fun tT_2 h11 =>
bareK (ldN 3 h11 (get tT_2 3)) h11 fun t64 h12 =>
enterK C F.rows_Row [t64, (get tT_2 8)] h12 fun t66 h13 =>
bareK (xextract t66 0) h13 fun t67 h14 =>
bareK (xextract t66 1) h14 fun t68 h15 =>
bareK (xextract t66 2) h15 fun t69 h16 =>
bareK (xbin P .neq T.api_Errno (.tmp 70) (.const (.int .i64 0)) t69 (.int .i64 0)) h16 fun t71 h17 =>
mg t71 false (fun o4 => o4 t67 h17) h17 fun t73 h18 =>
mg t71 false (fun o5 => o5 (get tT_2 1) h18) h18 fun t74 h19 =>
mg t71 false (fun o6 => bareK (xbin P .neq T.string (.tmp 73) (.tmp 74) t73 t74) h19 o6) h19 fun t75 h20 =>
pickK t71 (.bool true) t75 fun t76 =>
mg t76 false (fun o7 => o7 t68 h20) h20 fun t78 h21 =>
mg t76 false (fun o8 => o8 (get tT_2 2) h21) h21 fun t79 h22 =>
mg t76 false (fun o9 => bareK (xbin P .neq T.string (.tmp 78) (.tmp 79) t78 t79) h22 o9) h22 fun t80 h23 =>
pickK t76 (.bool true) t80 fun t81 =>
mc t81 (fun k10 => k10 .ret [(6, (.slice none 0 0)), (7, (.int .i64 12))] h23) (fun k10 =>
k10 .normal [(8, (get tT_2 8))] h23) (seqK (fun tT_3 h24 =>
K0 .ret [(6, (get tT_3 8)), (7, (.int .i64 0))] h24) K0)) K0)) K0)) K0)

noncomputable def s_rows_Read_b0 (mg : GT) (mc : CT) (ms : ST) (P : Program) (C : CallF) (L0 : Value → Value → Value → Value → Value → Value → Value → AHeap → K → Res) (L1 : Value → Value → Value → Value → Value → Value → Value → Value → Value → Value → Value → AHeap → K → Res) (v1 : Value) (v2 : Value) (v3 : Value) (v8 : Value) (v27 : Value) (v28 : Value) (v29 : Value) (H : AHeap) (k : K) : Res :=
bareK (xbin P .lss T.int (.tmp 29) (.tmp 28) v29 v28) H fun t30 h11 =>
mc t30 (fun k4 => k4 .normal [(1, v1), (2, v2), (3, v3), (8, v8), (27, v27), (28, v28), (29, v29)] h11) (fun k4 =>
k4 (.exit 0) [(30, t30), (1, v1), (2, v2), (3, v3), (8, v8), (27, v27), (28, v28), (29, v29)] h11) (seqK (fun tT h12 =>
ms (fun k5 =>
bareK (ixS 1 (get tT 27) (get tT 29)) h12 fun t32 h13 =>
bareK (ld1 h13 t32) h13 fun t33 h14 =>
bareK (fad 1 (get tT 3)) h14 fun t34 h15 =>
bareK (ld1 h15 t34) h15 fun t35 h16 =>
bareK (fad 2 (get tT 3)) h16 fun t36 h17 =>
bareK (ld1 h17 t36) h17 fun t37 h18 =>
bothK (bldL T.sl_api_CellKind [(.slice none 0 0)] 2 [(0, t35), (1, t37)] h18) fun t38 h19 =>
bareK (ixS 1 t38 (get tT 29)) h19 fun t40 h20 =>
bareK (ld1 h20 t40) h20 fun t41 h21 =>
bareK (lenS t41) h21 fun t42 h22 =>
ms (fun k6 =>
L1 (get tT 1) (get tT 2) (get tT 3) (get tT 8) t33 (get tT 27) (get tT 28) (get tT 29) t41 t42 (.int .i64 0) h22 (blkK [1, 2, 3, 8, 27, 28, 29] 2 k6)) (blkK [1, 2, 3, 8, 27, 28, 29] 1 k5)) (seqK (fun tT_1 h23 =>
bareK (xbin P .add T.int (.tmp 29) (.const (.int .i64 1)) (get tT_1 29) (.int .i64 1)) h23 fun t62 h24 =>
k .normal [(1, (get tT_1 1)), (2, (get tT_1 2)), (3, (get tT_1 3)), (8, (get tT_1 8)), (27, (get tT_1 27)), (28, (get tT_1 28)), (29, t62)] h24) (afterK [1, 2, 3, 8, 27, 28, 29] k))) (afterK [1, 2, 3, 8, 27, 28, 29] k))

noncomputable def s_rows_Read_b1 (mg : GT) (mc : CT) (ms : ST) (P : Program) (C : CallF) (L0 : Value → Value → Value → Value → Value → Value → Value → AHeap → K → Res) (L1 : Value → Value → Value → Value → Value → Value → Value → Value → Value → Value → Value → AHeap → K → Res) (v1 : Value) (v2 : Value) (v3 : Value) (v8 : Value) (v10 : Value) (v27 : Value) (v28 : Value) (v29 : Value) (v41 : Value) (v42 : Value) (v43 : Value) (H : AHeap) (k : K) : Res :=
bareK (xbin P .lss T.int (.tmp 43) (.tmp 42) v43 v42) H fun t44 h23 =>
mc t44 (fun k7 => k7 .normal [(1, v1), (2, v2), (3, v3), (8, v8), (10, v10), (27, v27), (28, v28), (29, v29), (41, v41), (42, v42), (43, v43)] h23) (fun k7 =>
k7 (.exit 2) [(44, t44), (1, v1), (2, v2), (3, v3), (8, v8), (10, v10), (27, v27), (28, v28), (29, v29), (41, v41), (42, v42), (43, v43)] h23) (seqK (fun tT h24 =>
ms (fun k8 =>
bareK (ixS 1 (get tT 41) (get tT 43)) h24 fun t45 h25 =>
bareK (ld1 h25 t45) h25 fun t46 h26 =>
enterK C F.rows_take [(get tT 10), t46] h26 fun t50 h27 =>
bareK (xextract t50 0) h27 fun t51 h28 =>
bareK (xextract t50 1) h28 fun t52 h29 =>
bareK (xextract t50 2) h29 fun t53 h30 =>
bothK (newv T.api_Cell (.agg #[(.int .i64 0), (.int .u64 0), (.int .i64 0), (.string (mk [])), (.bool false)]) h30) fun t13 h31 =>
quietK (stN 5 h31 t13 t51) fun _ h32 =>
bareK (xun P .not t53) h32 fun t55 h33 =>
mc t55 (fun k9 => k9 .ret [(6, (.slice none 0 0)), (7, (.int .i64 12))] h33) (fun k9 =>
k9 .normal [(1, (get tT 1)), (2, (get tT 2)), (3, (get tT 3)), (8, (get tT 8)), (13, t13), (14, t52), (27, (get tT 27)), (28, (get tT 28)), (29, (get tT 29)), (41, (get tT 41)), (42, (get tT 42)), (43, (get tT 43))] h33) (seqK (fun tT_1 h34 =>
bareK (ldN 5 h34 (get tT_1 13)) h34 fun t57 h35 =>
bothK (bldL T.api_Cell [(.int .i64 0), (.int .u64 0), (.int .i64 0), (.string (mk [])), (.bool false)] 1 [(0, t57)] h35) fun t58 h36 =>
bothK (app T.api_Cell 5 48 (get tT_1 8) (srcS 5 t58 h36) h36) fun t59 h37 =>
k8 .normal [(1, (get tT_1 1)), (2, (get tT_1 2)), (3, (get tT_1 3)), (8, t59), (10, (get tT_1 14)), (27, (get tT_1 27)), (28, (get tT_1 28)), (29, (get tT_1 29)), (41, (get tT_1 41)), (42, (get tT_1 42)), (43, (get tT_1 43))] h37) (blkK [1, 2, 3, 8, 10, 27, 28, 29, 41, 42, 43] 3 k8))) (seqK (fun tT_2 h38 =>
bareK (xbin P .add T.int (.tmp 43) (.const (.int .i64 1)) (get tT_2 43) (.int .i64 1)) h38 fun t61 h39 =>
k .normal [(1, (get tT_2 1)), (2, (get tT_2 2)), (3, (get tT_2 3)), (8, (get tT_2 8)), (10, (get tT_2 10)), (27, (get tT_2 27)), (28, (get tT_2 28)), (29, (get tT_2 29)), (41, (get tT_2 41)), (42, (get tT_2 42)), (43, t61)] h39) (afterK [1, 2, 3, 8, 10, 27, 28, 29, 41, 42, 43] k))) (afterK [1, 2, 3, 8, 10, 27, 28, 29, 41, 42, 43] k))

theorem s_rows_Read_eq (M : CombL) (C : CallF) (LP : LoopH) (a0 : Value) (a1 : Value) (a2 : Value) (H : AHeap) : dBodyL M Tryd.prog hints C LP F.rows_Read [a0, a1, a2] H = s_rows_Read M.b.g M.c M.s Tryd.prog C (fun v1 v2 v3 v8 v27 v28 v29 H k => loopL M Tryd.prog hints C LP F.rows_Read 0 [(1, v1), (2, v2), (3, v3), (8, v8), (27, v27), (28, v28), (29, v29)] H k) (fun v1 v2 v3 v8 v10 v27 v28 v29 v41 v42 v43 H k => loopL M Tryd.prog hints C LP F.rows_Read 1 [(1, v1), (2, v2), (3, v3), (8, v8), (10, v10), (27, v27), (28, v28), (29, v29), (41, v41), (42, v42), (43, v43)] H k) a0 a1 a2 H (endK Tryd.prog [.tmp 6, .tmp 7]) := by kernel_rfl

theorem s_rows_Read_b0_eq (M : CombL) (C : CallF) (LP : LoopH) (v1 : Value) (v2 : Value) (v3 : Value) (v8 : Value) (v27 : Value) (v28 : Value) (v29 : Value) (H : AHeap) (k : K) : bodyL M Tryd.prog hints C LP F.rows_Read 0 [(1, v1), (2, v2), (3, v3), (8, v8), (27, v27), (28, v28), (29, v29)] H (afterK [1, 2, 3, 8, 27, 28, 29] k) = s_rows_Read_b0 M.b.g M.c M.s Tryd.prog C (fun v1 v2 v3 v8 v27 v28 v29 H k => loopL M Tryd.prog hints C LP F.rows_Read 0 [(1, v1), (2, v2), (3, v3), (8, v8), (27, v27), (28, v28), (29, v29)] H k) (fun v1 v2 v3 v8 v10 v27 v28 v29 v41 v42 v43 H k => loopL M Tryd.prog hints C LP F.rows_Read 1 [(1, v1), (2, v2), (3, v3), (8, v8), (10, v10), (27, v27), (28, v28), (29, v29), (41, v41), (42, v42), (43, v43)] H k) v1 v2 v3 v8 v27 v28 v29 H k := by kernel_rfl

theorem s_rows_Read_b1_eq (M : CombL) (C : CallF) (LP : LoopH) (v1 : Value) (v2 : Value) (v3 : Value) (v8 : Value) (v10 : Value) (v27 : Value) (v28 : Value) (v29 : Value) (v41 : Value) (v42 : Value) (v43 : Value) (H : AHeap) (k : K) : bodyL M Tryd.prog hints C LP F.rows_Read 1 [(1, v1), (2, v2), (3, v3), (8, v8), (10, v10), (27, v27), (28, v28), (29, v29), (41, v41), (42, v42), (43, v43)] H (afterK [1, 2, 3, 8, 10, 27, 28, 29, 41, 42, 43] k) = s_rows_Read_b1 M.b.g M.c M.s Tryd.prog C (fun v1 v2 v3 v8 v27 v28 v29 H k => loopL M Tryd.prog hints C LP F.rows_Read 0 [(1, v1), (2, v2), (3, v3), (8, v8), (27, v27), (28, v28), (29, v29)] H k) (fun v1 v2 v3 v8 v10 v27 v28 v29 v41 v42 v43 H k => loopL M Tryd.prog hints C LP F.rows_Read 1 [(1, v1), (2, v2), (3, v3), (8, v8), (10, v10), (27, v27), (28, v28), (29, v29), (41, v41), (42, v42), (43, v43)] H k) v1 v2 v3 v8 v10 v27 v28 v29 v41 v42 v43 H k := by kernel_rfl

/-! ticketline.jobs.table -/

noncomputable def s_jobs_table (mg : GT) (mc : CT) (ms : ST) (P : Program) (C : CallF) (H : AHeap) (K0 : K) : Res :=
bothK (newv T.api_Table (.agg #[(.int .i64 0), (.slice none 0 0), (.slice none 0 0)]) H) fun t0 h1 =>
bothK (bldL T.api_CellKind [(.int .i64 0)] 3 [(0, (.int .i64 1)), (1, (.int .i64 1)), (2, (.int .i64 1))] h1) fun t5 h2 =>
bothK (bldL T.api_CellKind [(.int .i64 0)] 4 [(0, (.int .i64 1)), (1, (.int .i64 3)), (2, (.int .i64 1)), (3, (.int .i64 1))] h2) fun t9 h3 =>
bareK (bldS #[(.int .i64 0), (.slice none 0 0), (.slice none 0 0)] [(0, 1), (1, 1), (2, 1)] [(0, (.int .i64 1)), (1, t5), (2, t9)]) h3 fun t10 h4 =>
quietK (stN 3 h4 t0 t10) fun _ h5 =>
K0 .ret [(0, t0)] h5

theorem s_jobs_table_eq (M : CombL) (C : CallF) (LP : LoopH) (H : AHeap) : dBodyL M Tryd.prog hints C LP F.jobs_table [] H = s_jobs_table M.b.g M.c M.s Tryd.prog C H (endK Tryd.prog [.cell 0 T.api_Table]) := by kernel_rfl

/-! ticketline.jobs.job -/

noncomputable def s_jobs_job (mg : GT) (mc : CT) (ms : ST) (P : Program) (C : CallF) (a0 : Value) (H : AHeap) (K0 : K) : Res :=
bothK (newv T.api_Job (.agg #[(.int .i64 0), (.int .i64 0), (.string (mk [])), (.int .i64 0), (.int .i64 0), (.int .i64 0), (.int .i64 0)]) H) fun t2 h1 =>
bareK (ixS 5 a0 (.int .i64 2)) h1 fun t5 h2 =>
bareK (fad 1 t5) h2 fun t6 h3 =>
bareK (ld1 h3 t6) h3 fun t7 h4 =>
bothK (xconv P T.uint64 T.int t7 h4) fun t8 h5 =>
bareK (ixS 5 a0 (.int .i64 3)) h5 fun t10 h6 =>
bareK (fad 1 t10) h6 fun t11 h7 =>
bareK (ld1 h7 t11) h7 fun t12 h8 =>
bothK (xconv P T.uint64 T.int t12 h8) fun t13 h9 =>
bareK (ixS 5 a0 (.int .i64 4)) h9 fun t15 h10 =>
bareK (fad 3 t15) h10 fun t16 h11 =>
bareK (ld1 h11 t16) h11 fun t17 h12 =>
bareK (ixS 5 a0 (.int .i64 0)) h12 fun t19 h13 =>
bareK (fad 1 t19) h13 fun t20 h14 =>
bareK (ld1 h14 t20) h14 fun t21 h15 =>
bothK (xconv P T.uint64 T.api_JobState t21 h15) fun t22 h16 =>
bareK (ixS 5 a0 (.int .i64 5)) h16 fun t24 h17 =>
bareK (fad 1 t24) h17 fun t25 h18 =>
bareK (ld1 h18 t25) h18 fun t26 h19 =>
bothK (xconv P T.uint64 T.int t26 h19) fun t27 h20 =>
bareK (ixS 5 a0 (.int .i64 6)) h20 fun t29 h21 =>
bareK (fad 1 t29) h21 fun t30 h22 =>
bareK (ld1 h22 t30) h22 fun t31 h23 =>
bothK (xconv P T.uint64 T.int t31 h23) fun t32 h24 =>
bareK (bldS #[(.int .i64 0), (.int .i64 0), (.string (mk [])), (.int .i64 0), (.int .i64 0), (.int .i64 0), (.int .i64 0)] [(0, 1), (1, 1), (2, 1), (3, 1), (4, 1), (5, 1), (6, 1)] [(0, t8), (1, t13), (2, t17), (3, t22), (4, t27), (5, t32)]) h24 fun t33 h25 =>
bothK (newv T.api_Job (.agg #[(.int .i64 0), (.int .i64 0), (.string (mk [])), (.int .i64 0), (.int .i64 0), (.int .i64 0), (.int .i64 0)]) h25) fun t3 h26 =>
quietK (stN 7 h26 t3 t33) fun _ h27 =>
checkK true <|
bareK (fad 3 t3) h27 fun t34 h28 =>
bareK (ld1 h28 t34) h28 fun t35 h29 =>
bareK (xbin P .eql T.api_JobState (.tmp 35) (.const (.int .i64 2)) t35 (.int .i64 2)) h29 fun t36 h30 =>
mc t36 (fun k1 => bareK (ixS 5 a0 (.int .i64 1)) h30 fun t38 h31 =>
bareK (fad 1 t38) h31 fun t39 h32 =>
bareK (ld1 h32 t39) h32 fun t40 h33 =>
bothK (xconv P T.uint64 T.int t40 h33) fun t41 h34 =>
bareK (fad 6 t3) h34 fun t42 h35 =>
quietK (st1 h35 t42 t41) fun _ h36 =>
k1 .normal [(2, t2), (3, t3)] h36) (fun k1 =>
k1 .normal [(2, t2), (3, t3)] h30) (seqK (fun tT h37 =>
bareK (ldN 7 h37 (get tT 3)) h37 fun t43 h38 =>
quietK (stN 7 h38 (get tT 2) t43) fun _ h39 =>
K0 .ret [(2, (get tT 2))] h39) K0)

theorem s_jobs_job_eq (M : CombL) (C : CallF) (LP : LoopH) (a0 : Value) (H : AHeap) : dBodyL M Tryd.prog hints C LP F.jobs_job [a0] H = s_jobs_job M.b.g M.c M.s Tryd.prog C a0 H (endK Tryd.prog [.cell 2 T.api_Job]) := by kernel_rfl

/-! ticketline.rows.Span -/

noncomputable def s_rows_Span (mg : GT) (mc : CT) (ms : ST) (P : Program) (C : CallF) (L0 : Value → Value → AHeap → K → Res) (a0 : Value) (a1 : Value) (H : AHeap) (K0 : K) : Res :=
bothK (newv T.api_Table a0 H) fun t2 h1 =>
bareK (ldN 3 h1 t2) h1 fun t8 h2 =>
enterK C F.rows_Valid [t8] h2 fun t9 h3 =>
bareK (xun P .not t9) h3 fun t10 h4 =>
mg t10 false (fun o1 => o1 a1 h4) h4 fun t12 h5 =>
mg t10 false (fun o2 => bareK (lenS t12) h5 o2) h5 fun t13 h6 =>
mg t10 false (fun o3 => bareK (fad 1 t2) h6 o3) h6 fun t14 h7 =>
mg t10 false (fun o4 => bareK (ld1 h7 t14) h7 o4) h7 fun t15 h8 =>
mg t10 false (fun o5 => bareK (lenS t15) h8 o5) h8 fun t16 h9 =>
mg t10 false (fun o6 => bareK (xbin P .gtr T.int (.tmp 13) (.tmp 16) t13 t16) h9 o6) h9 fun t17 h10 =>
pickK t10 (.bool true) t17 fun t18 =>
mg t18 false (fun o7 => o7 a1 h10) h10 fun t20 h11 =>
mg t18 false (fun o8 => bareK (fad 1 t2) h11 o8) h11 fun t21 h12 =>
mg t18 false (fun o9 => bareK (ld1 h12 t21) h12 o9) h12 fun t22 h13 =>
mg t18 false (fun o10 => o10 a1 h13) h13 fun t23 h14 =>
mg t18 false (fun o11 => bareK (lenS t23) h14 o11) h14 fun t24 h15 =>
mg t18 false (fun o12 => bareK (slS T.api_CellKind 1 t22 none (some t24) none h15) h15 o12) h15 fun t25 h16 =>
mg t18 false (fun o13 => enterK C F.rows_are [t20, t25] h16 o13) h16 fun t26 h17 =>
mg t18 false (fun o14 => bareK (xun P .not t26) h17 o14) h17 fun t27 h18 =>
pickK t18 (.bool true) t27 fun t28 =>
mc t28 (fun k15 => k15 .ret [(4, (.string (mk []))), (5, (.string (mk []))), (6, (.int .i64 2))] h18) (fun k15 =>
k15 .normal [(1, a1), (2, t2)] h18) (seqK (fun tT h19 =>
bareK (fad 0 (get tT 2)) h19 fun t29 h20 =>
bareK (ld1 h20 t29) h20 fun t30 h21 =>
bothK (xconv P T.int T.uint8 t30 h21) fun t31 h22 =>
bothK (bldL T.uint8 [(.int .u8 0)] 1 [(0, t31)] h22) fun t32 h23 =>
enterK C F.rows_puts [t32, (get tT 1)] h23 fun t34 h24 =>
bareK (lenT t34) h24 fun t36 h25 =>
bareK (xbin P .gtr T.int (.tmp 36) (.const (.int .i64 24)) t36 (.int .i64 24)) h25 fun t37 h26 =>
mc t37 (fun k16 => k16 .ret [(4, (.string (mk []))), (5, (.string (mk []))), (6, (.int .i64 5))] h26) (fun k16 =>
k16 .normal [(4, t34)] h26) (seqK (fun tT_1 h27 =>
bothK (xconv P T.string T.sl_uint8 (get tT_1 4) h27) fun t39 h28 =>
ms (fun k17 =>
L0 (get tT_1 4) t39 h28 (blkK [4, 7] 0 k17)) (seqK (fun tT_2 h29 =>
bareK (lenS (get tT_2 7)) h29 fun t58 h30 =>
bareK (xbin P .gtr T.int (.tmp 58) (.const (.int .i64 0)) t58 (.int .i64 0)) h30 fun t59 h31 =>
mc t59 (fun k18 => bareK (lenS (get tT_2 7)) h31 fun t62 h32 =>
bareK (xbin P .sub T.int (.tmp 62) (.const (.int .i64 1)) t62 (.int .i64 1)) h32 fun t63 h33 =>
bareK (ixS 1 (get tT_2 7) t63) h33 fun t64 h34 =>
bareK (ld1 h34 t64) h34 fun t65 h35 =>
bareK (xbin P .add T.uint8 (.tmp 65) (.const (.int .u8 1)) t65 (.int .u8 1)) h35 fun t66 h36 =>
bareK (ixS 1 (get tT_2 7) t63) h36 fun t67 h37 =>
quietK (st1 h37 t67 t66) fun _ h38 =>
k18 .normal [(4, (get tT_2 4)), (7, (get tT_2 7))] h38) (fun k18 =>
k18 .normal [(4, (get tT_2 4)), (7, (get tT_2 7))] h31) (seqK (fun tT_3 h39 =>
bothK (xconv P T.sl_uint8 T.string (get tT_3 7) h39) fun t70 h40 =>
checkK true <|
K0 .ret [(4, (get tT_3 4)), (5, t70), (6, (.int .i64 0))] h40) K0)) K0)) K0)) K0)

noncomputable def s_rows_Span_b0 (mg : GT) (mc : CT) (ms : ST) (P : Program) (C : CallF) (L0 : Value → Value → AHeap → K → Res) (v4 : Value) (v7 : Value) (H : AHeap) (k : K) : Res :=
bareK (lenS v7) H fun t41 h29 =>
bareK (xbin P .gtr T.int (.tmp 41) (.const (.int .i64 0)) t41 (.int .i64 0)) h29 fun t42 h30 =>
mg t42 true (fun o18 => o18 v7 h30) h30 fun t44 h31 =>
mg t42 true (fun o19 => o19 v7 h31) h31 fun t45 h32 =>
mg t42 true (fun o20 => bareK (lenS t45) h32 o20) h32 fun t46 h33 =>
mg t42 true (fun o21 => bareK (xbin P .sub T.int (.tmp 46) (.const (.int .i64 1)) t46 (.int .i64 1)) h33 o21) h33 fun t47 h34 =>
mg t42 true (fun o22 => bareK (ixS 1 t44 t47) h34 o22) h34 fun t48 h35 =>
mg t42 true (fun o23 => bareK (ld1 h35 t48) h35 o23) h35 fun t49 h36 =>
mg t42 true (fun o24 => bareK (xbin P .eql T.uint8 (.tmp 49) (.const (.int .u8 255)) t49 (.int .u8 255)) h36 o24) h36 fun t50 h37 =>
pickK t42 t50 (.bool false) fun t51 =>
mc t51 (fun k25 => k25 .normal [(4, v4), (7, v7)] h37) (fun k25 =>
k25 (.exit 0) [(51, t51), (50, t50), (49, t49), (48, t48), (47, t47), (46, t46), (45, t45), (44, t44), (43, t42), (42, t42), (41, t41), (40, v7), (4, v4), (7, v7)] h37) (seqK (fun tT h38 =>
ms (fun k26 =>
bareK (lenS (get tT 7)) h38 fun t54 h39 =>
bareK (xbin P .sub T.int (.tmp 54) (.const (.int .i64 1)) t54 (.int .i64 1)) h39 fun t55 h40 =>
bareK (slS T.uint8 1 (get tT 7) none (some t55) none h40) h40 fun t56 h41 =>
k26 .normal [(4, (get tT 4)), (7, t56)] h41) (afterK [4, 7] k)) (afterK [4, 7] k))

theorem s_rows_Span_eq (M : CombL) (C : CallF) (LP : LoopH) (a0 : Value) (a1 : Value) (H : AHeap) : dBodyL M Tryd.prog hints C LP F.rows_Span [a0, a1] H = s_rows_Span M.b.g M.c M.s Tryd.prog C (fun v4 v7 H k => loopL M Tryd.prog hints C LP F.rows_Span 0 [(4, v4), (7, v7)] H k) a0 a1 H (endK Tryd.prog [.tmp 4, .tmp 5, .tmp 6]) := by kernel_rfl

theorem s_rows_Span_b0_eq (M : CombL) (C : CallF) (LP : LoopH) (v4 : Value) (v7 : Value) (H : AHeap) (k : K) : bodyL M Tryd.prog hints C LP F.rows_Span 0 [(4, v4), (7, v7)] H (afterK [4, 7] k) = s_rows_Span_b0 M.b.g M.c M.s Tryd.prog C (fun v4 v7 H k => loopL M Tryd.prog hints C LP F.rows_Span 0 [(4, v4), (7, v7)] H k) v4 v7 H k := by kernel_rfl

/-! (*ticketline.model.Model).Pairs -/

noncomputable def s_model_Model_Pairs (mg : GT) (mc : CT) (ms : ST) (P : Program) (C : CallF) (a0 : Value) (H : AHeap) (K0 : K) : Res :=
bareK (xbin P .eql T.p_model_Model (.tmp 3) (.const (.pointer none)) a0 (.pointer none)) H fun t4 h1 =>
mc t4 (fun k1 => k1 .ret [(2, (.slice none 0 0))] h1) (fun k1 =>
k1 .normal [(0, a0)] h1) (seqK (fun tT h2 =>
bareK (xnilCheck (get tT 0)) h2 fun t6 h3 =>
bareK (fad 0 t6) h3 fun t7 h4 =>
bareK (ld1 h4 t7) h4 fun t8 h5 =>
enterK C F.slices_Clone_Pair [t8] h5 fun t9 h6 =>
K0 .ret [(2, t9)] h6) K0)

theorem s_model_Model_Pairs_eq (M : CombL) (C : CallF) (LP : LoopH) (a0 : Value) (H : AHeap) : dBodyL M Tryd.prog hints C LP F.model_Model_Pairs [a0] H = s_model_Model_Pairs M.b.g M.c M.s Tryd.prog C a0 H (endK Tryd.prog [.tmp 2]) := by kernel_rfl

/-! ticketline.rows.Row -/

noncomputable def s_rows_Row (mg : GT) (mc : CT) (ms : ST) (P : Program) (C : CallF) (a0 : Value) (a1 : Value) (H : AHeap) (K0 : K) : Res :=
bothK (newv T.api_Table a0 H) fun t2 h1 =>
bareK (ldN 3 h1 t2) h1 fun t7 h2 =>
enterK C F.rows_Valid [t7] h2 fun t8 h3 =>
bareK (xun P .not t8) h3 fun t9 h4 =>
mg t9 false (fun o1 => o1 a1 h4) h4 fun t11 h5 =>
mg t9 false (fun o2 => bareK (fad 1 t2) h5 o2) h5 fun t12 h6 =>
mg t9 false (fun o3 => bareK (ld1 h6 t12) h6 o3) h6 fun t13 h7 =>
mg t9 false (fun o4 => bareK (fad 2 t2) h7 o4) h7 fun t14 h8 =>
mg t9 false (fun o5 => bareK (ld1 h8 t14) h8 o5) h8 fun t15 h9 =>
mg t9 false (fun o6 => bothK (bldL T.sl_api_CellKind [(.slice none 0 0)] 2 [(0, t13), (1, t15)] h9) o6) h9 fun t16 h10 =>
mg t9 false (fun o7 => enterK C F.slices_Concat_CellKind [t16] h10 o7) h10 fun t17 h11 =>
mg t9 false (fun o8 => enterK C F.rows_are [t11, t17] h11 o8) h11 fun t18 h12 =>
mg t9 false (fun o9 => bareK (xun P .not t18) h12 o9) h12 fun t19 h13 =>
pickK t9 (.bool true) t19 fun t20 =>
mc t20 (fun k10 => k10 .ret [(4, (.string (mk []))), (5, (.string (mk []))), (6, (.int .i64 2))] h13) (fun k10 =>
k10 .normal [(1, a1), (2, t2)] h13) (seqK (fun tT h14 =>
bareK (fad 0 (get tT 2)) h14 fun t21 h15 =>
bareK (ld1 h15 t21) h15 fun t22 h16 =>
bothK (xconv P T.int T.uint8 t22 h16) fun t23 h17 =>
bothK (bldL T.uint8 [(.int .u8 0)] 1 [(0, t23)] h17) fun t24 h18 =>
bareK (fad 1 (get tT 2)) h18 fun t26 h19 =>
bareK (ld1 h19 t26) h19 fun t27 h20 =>
bareK (lenS t27) h20 fun t28 h21 =>
bareK (slS T.api_Cell 5 (get tT 1) none (some t28) none h21) h21 fun t29 h22 =>
enterK C F.rows_puts [t24, t29] h22 fun t30 h23 =>
bareK (fad 1 (get tT 2)) h23 fun t32 h24 =>
bareK (ld1 h24 t32) h24 fun t33 h25 =>
bareK (lenS t33) h25 fun t34 h26 =>
bareK (slS T.api_Cell 5 (get tT 1) (some t34) none none h26) h26 fun t35 h27 =>
enterK C F.rows_puts [(.slice none 0 0), t35] h27 fun t36 h28 =>
checkK (okV (some true) none h22 h23 h23 h23 && (okV (some true) none h22 h23 h23 h24 && (okV (some true) (blockOf t32) h22 h23 h24 h25 && (okV (some true) none h22 h23 h25 h26 && (okV (some true) (blockOf (get tT 1)) h22 h23 h26 h27 && true))))) <|
bareK (lenT t30) h28 fun t38 h29 =>
bareK (xbin P .gtr T.int (.tmp 38) (.const (.int .i64 24)) t38 (.int .i64 24)) h29 fun t39 h30 =>
mg t39 false (fun o11 => o11 t36 h30) h30 fun t41 h31 =>
mg t39 false (fun o12 => bareK (lenT t41) h31 o12) h31 fun t42 h32 =>
mg t39 false (fun o13 => bareK (xbin P .gtr T.int (.tmp 42) (.const (.int .i64 40)) t42 (.int .i64 40)) h32 o13) h32 fun t43 h33 =>
pickK t39 (.bool true) t43 fun t44 =>
mc t44 (fun k14 => k14 .ret [(4, (.string (mk []))), (5, (.string (mk []))), (6, (.int .i64 5))] h33) (fun k14 =>
k14 .normal [(4, t30), (5, t36)] h33) (seqK (fun tT_1 h34 =>
K0 .ret [(4, (get tT_1 4)), (5, (get tT_1 5)), (6, (.int .i64 0))] h34) K0)) K0)

theorem s_rows_Row_eq (M : CombL) (C : CallF) (LP : LoopH) (a0 : Value) (a1 : Value) (H : AHeap) : dBodyL M Tryd.prog hints C LP F.rows_Row [a0, a1] H = s_rows_Row M.b.g M.c M.s Tryd.prog C a0 a1 H (endK Tryd.prog [.tmp 4, .tmp 5, .tmp 6]) := by kernel_rfl

/-! ticketline.jobs.row -/

noncomputable def s_jobs_row (mg : GT) (mc : CT) (ms : ST) (P : Program) (C : CallF) (a0 : Value) (H : AHeap) (K0 : K) : Res :=
bothK (newv T.api_Job a0 H) fun t1 h1 =>
bareK (fad 3 t1) h1 fun t4 h2 =>
bareK (ld1 h2 t4) h2 fun t5 h3 =>
ms (fun k1 =>
bareK (xbin P .eql T.api_JobState (.tmp 5) (.const (.int .i64 1)) t5 (.int .i64 1)) h3 fun t7 h4 =>
mc t7 (fun k2 => bareK (fad 1 t1) h4 fun t8 h5 =>
bareK (ld1 h5 t8) h5 fun t9 h6 =>
bareK (xbin P .sub T.int (.const (.int .i64 9)) (.tmp 9) (.int .i64 9) t9) h6 fun t10 h7 =>
k2 .normal [(1, t1), (3, t10)] h7) (fun k2 =>
bareK (xbin P .eql T.api_JobState (.tmp 5) (.const (.int .i64 2)) t5 (.int .i64 2)) h4 fun t12 h8 =>
mc t12 (fun k3 => bareK (fad 6 t1) h8 fun t13 h9 =>
bareK (ld1 h9 t13) h9 fun t14 h10 =>
k3 .normal [(1, t1), (3, t14)] h10) (fun k3 =>
k3 .normal [(1, t1), (3, (.int .i64 0))] h8) (afterK [1, 3] k2)) (blkK [1, 3] 0 k1)) (seqK (fun tT h11 =>
bareK (fad 3 (get tT 1)) h11 fun t15 h12 =>
bareK (ld1 h12 t15) h12 fun t16 h13 =>
enterK C F.jobs_number [t16] h13 fun t17 h14 =>
enterK C F.jobs_number [(get tT 3)] h14 fun t19 h15 =>
bareK (fad 0 (get tT 1)) h15 fun t20 h16 =>
bareK (ld1 h16 t20) h16 fun t21 h17 =>
enterK C F.jobs_number [t21] h17 fun t22 h18 =>
bareK (fad 1 (get tT 1)) h18 fun t23 h19 =>
bareK (ld1 h19 t23) h19 fun t24 h20 =>
enterK C F.jobs_number [t24] h20 fun t25 h21 =>
bareK (fad 2 (get tT 1)) h21 fun t26 h22 =>
bareK (ld1 h22 t26) h22 fun t27 h23 =>
bareK (bldS #[(.int .i64 0), (.int .u64 0), (.int .i64 0), (.string (mk [])), (.bool false)] [(0, 1), (1, 1), (2, 1), (3, 1), (4, 1)] [(0, (.int .i64 3)), (3, t27)]) h23 fun t28 h24 =>
bareK (fad 4 (get tT 1)) h24 fun t29 h25 =>
bareK (ld1 h25 t29) h25 fun t30 h26 =>
enterK C F.jobs_number [t30] h26 fun t31 h27 =>
bareK (fad 5 (get tT 1)) h27 fun t32 h28 =>
bareK (ld1 h28 t32) h28 fun t33 h29 =>
enterK C F.jobs_number [t33] h29 fun t34 h30 =>
bothK (bldL T.api_Cell [(.int .i64 0), (.int .u64 0), (.int .i64 0), (.string (mk [])), (.bool false)] 7 [(0, t17), (1, t19), (2, t22), (3, t25), (4, t28), (5, t31), (6, t34)] h30) fun t35 h31 =>
checkK (okV (some true) none h13 h14 h14 h14 && (okV (some true) none h13 h14 h15 h16 && (okV (some true) (blockOf t20) h13 h14 h16 h17 && (okV (some true) none h13 h14 h18 h19 && (okV (some true) (blockOf t23) h13 h14 h19 h20 && (okV (some true) none h13 h14 h21 h22 && (okV (some true) (blockOf t26) h13 h14 h22 h23 && (okV (some true) none h13 h14 h23 h24 && (okV (some true) none h13 h14 h24 h25 && (okV (some true) (blockOf t29) h13 h14 h25 h26 && (okV (some true) none h13 h14 h27 h28 && (okV (some true) (blockOf t32) h13 h14 h28 h29 && (okV (some true) none h14 h15 h15 h16 && (okV (some true) (blockOf t20) h14 h15 h16 h17 && (okV (some true) none h14 h15 h18 h19 && (okV (some true) (blockOf t23) h14 h15 h19 h20 && (okV (some true) none h14 h15 h21 h22 && (okV (some true) (blockOf t26) h14 h15 h22 h23 && (okV (some true) none h14 h15 h23 h24 && (okV (some true) none h14 h15 h24 h25 && (okV (some true) (blockOf t29) h14 h15 h25 h26 && (okV (some true) none h14 h15 h27 h28 && (okV (some true) (blockOf t32) h14 h15 h28 h29 && (okV (some true) none h17 h18 h18 h19 && (okV (some true) (blockOf t23) h17 h18 h19 h20 && (okV (some true) none h17 h18 h21 h22 && (okV (some true) (blockOf t26) h17 h18 h22 h23 && (okV (some true) none h17 h18 h23 h24 && (okV (some true) none h17 h18 h24 h25 && (okV (some true) (blockOf t29) h17 h18 h25 h26 && (okV (some true) none h17 h18 h27 h28 && (okV (some true) (blockOf t32) h17 h18 h28 h29 && (okV (some true) none h20 h21 h21 h22 && (okV (some true) (blockOf t26) h20 h21 h22 h23 && (okV (some true) none h20 h21 h23 h24 && (okV (some true) none h20 h21 h24 h25 && (okV (some true) (blockOf t29) h20 h21 h25 h26 && (okV (some true) none h20 h21 h27 h28 && (okV (some true) (blockOf t32) h20 h21 h28 h29 && (okV (some true) none h26 h27 h21 h22 && (okV (some true) (blockOf t26) h26 h27 h22 h23 && (okV (some true) none h26 h27 h23 h24 && (okV (some true) none h26 h27 h27 h28 && (okV (some true) (blockOf t32) h26 h27 h28 h29 && (okV (some true) none h29 h30 h21 h22 && (okV (some true) (blockOf t26) h29 h30 h22 h23 && (okV (some true) none h29 h30 h23 h24 && true))))))))))))))))))))))))))))))))))))))))))))))) <|
K0 .ret [(2, t35)] h31) K0)

theorem s_jobs_row_eq (M : CombL) (C : CallF) (LP : LoopH) (a0 : Value) (H : AHeap) : dBodyL M Tryd.prog hints C LP F.jobs_row [a0] H = s_jobs_row M.b.g M.c M.s Tryd.prog C a0 H (endK Tryd.prog [.tmp 2]) := by kernel_rfl

/-! (*ticketline.model.Model).Put -/

noncomputable def s_model_Model_Put (mg : GT) (mc : CT) (ms : ST) (P : Program) (C : CallF) (a0 : Value) (a1 : Value) (a2 : Value) (H : AHeap) (K0 : K) : Res :=
bothK (bldL T.string [(.string (mk []))] 1 [(0, a2)] H) fun t14 h1 =>
enterK C F.model_Model_at [a0, a1, t14] h1 fun t15 h2 =>
bareK (xextract t15 0) h2 fun t16 h3 =>
bareK (xextract t15 1) h3 fun t17 h4 =>
bareK (xextract t15 2) h4 fun t18 h5 =>
bareK (xbin P .neq T.api_Errno (.tmp 19) (.const (.int .i64 0)) t18 (.int .i64 0)) h5 fun t20 h6 =>
mc t20 (fun k1 => k1 .ret [(6, t18)] h6) (fun k1 =>
k1 .normal [(0, a0), (1, a1), (2, a2), (7, t16), (8, t17)] h6) (seqK (fun tT h7 =>
bareK (bldS #[(.string (mk [])), (.string (mk []))] [(0, 1), (1, 1)] [(0, (get tT 1)), (1, (get tT 2))]) h7 fun t27 h8 =>
enterK C F.model_Model_set [(get tT 0), (get tT 7), (get tT 8), t27] h8 fun t28 h9 =>
K0 .ret [(6, t28)] h9) K0)

theorem s_model_Model_Put_eq (M : CombL) (C : CallF) (LP : LoopH) (a0 : Value) (a1 : Value) (a2 : Value) (H : AHeap) : dBodyL M Tryd.prog hints C LP F.model_Model_Put [a0, a1, a2] H = s_model_Model_Put M.b.g M.c M.s Tryd.prog C a0 a1 a2 H (endK Tryd.prog [.tmp 6]) := by kernel_rfl

/-! (*ticketline.model.Model).place -/

noncomputable def s_model_Model_place (mg : GT) (mc : CT) (ms : ST) (P : Program) (C : CallF) (a0 : Value) (a1 : Value) (H : AHeap) (K0 : K) : Res :=
bareK (xnilCheck a0) H fun t7 h1 =>
bareK (fad 0 t7) h1 fun t8 h2 =>
bareK (ld1 h2 t8) h2 fun t9 h3 =>
enterK C F.slices_BinarySearchFunc_string [t9, a1, (.func (.func F.model_Model_place_1) #[] #[])] h3 fun t11 h4 =>
bareK (xextract t11 0) h4 fun t12 h5 =>
bareK (xextract t11 1) h5 fun t13 h6 =>
K0 .ret [(4, t12), (5, t13)] h6

theorem s_model_Model_place_eq (M : CombL) (C : CallF) (LP : LoopH) (a0 : Value) (a1 : Value) (H : AHeap) : dBodyL M Tryd.prog hints C LP F.model_Model_place [a0, a1] H = s_model_Model_place M.b.g M.c M.s Tryd.prog C a0 a1 H (endK Tryd.prog [.tmp 4, .tmp 5]) := by kernel_rfl

/-! slices.Delete[[]ticketline.api.Pair,ticketline.api.Pair] -/

noncomputable def s_slices_Delete_Pair (mg : GT) (mc : CT) (ms : ST) (P : Program) (C : CallF) (a0 : Value) (a1 : Value) (a2 : Value) (H : AHeap) (K0 : K) : Res :=
bareK (lenS a0) H fun t12 h1 =>
bareK (slS T.api_Pair 2 a0 (some a1) (some a2) (some t12) h1) h1 fun t13 h2 =>
bareK (xbin P .eql T.int (.tmp 14) (.tmp 15) a1 a2) h2 fun t16 h3 =>
mc t16 (fun k1 => k1 .ret [(6, a0)] h3) (fun k1 =>
k1 .normal [(0, a0), (1, a1), (2, a2)] h3) (seqK (fun tT h4 =>
bareK (lenS (get tT 0)) h4 fun t19 h5 =>
bareK (slS T.api_Pair 2 (get tT 0) none (some (get tT 1)) none h5) h5 fun t22 h6 =>
bareK (slS T.api_Pair 2 (get tT 0) (some (get tT 2)) none none h6) h6 fun t25 h7 =>
bothK (app T.api_Pair 2 32 t22 (srcS 2 t25 h7) h7) fun t26 h8 =>
checkK true <|
bareK (lenS t26) h8 fun t29 h9 =>
bareK (slS T.api_Pair 2 t26 (some t29) (some t19) none h9) h9 fun t31 h10 =>
bothK (xclear P [T.sl_api_Pair] t31 h10) fun _ h11 =>
K0 .ret [(6, t26)] h11) K0)

theorem s_slices_Delete_Pair_eq (M : CombL) (C : CallF) (LP : LoopH) (a0 : Value) (a1 : Value) (a2 : Value) (H : AHeap) : dBodyL M Tryd.prog hints C LP F.slices_Delete_Pair [a0, a1, a2] H = s_slices_Delete_Pair M.b.g M.c M.s Tryd.prog C a0 a1 a2 H (endK Tryd.prog [.tmp 6]) := by kernel_rfl

/-! slices.Clone[[]ticketline.api.Pair,ticketline.api.Pair] -/

noncomputable def s_slices_Clone_Pair (mg : GT) (mc : CT) (ms : ST) (P : Program) (C : CallF) (a0 : Value) (H : AHeap) (K0 : K) : Res :=
bareK (xbin P .eql T.sl_api_Pair (.tmp 3) (.const (.slice none 0 0)) a0 (.slice none 0 0)) H fun t4 h1 =>
mc t4 (fun k1 => k1 .ret [(2, (.slice none 0 0))] h1) (fun k1 =>
k1 .normal [(0, a0)] h1) (seqK (fun tT h2 =>
bothK (bldL T.api_Pair [(.string (mk [])), (.string (mk []))] 0 [] h2) fun t5 h3 =>
bothK (app T.api_Pair 2 32 t5 (srcS 2 (get tT 0) h3) h3) fun t7 h4 =>
K0 .ret [(2, t7)] h4) K0)

theorem s_slices_Clone_Pair_eq (M : CombL) (C : CallF) (LP : LoopH) (a0 : Value) (H : AHeap) : dBodyL M Tryd.prog hints C LP F.slices_Clone_Pair [a0] H = s_slices_Clone_Pair M.b.g M.c M.s Tryd.prog C a0 H (endK Tryd.prog [.tmp 2]) := by kernel_rfl

/-! (*ticketline.model.Model).at -/

noncomputable def s_model_Model_at (mg : GT) (mc : CT) (ms : ST) (P : Program) (C : CallF) (a0 : Value) (a1 : Value) (a2 : Value) (H : AHeap) (K0 : K) : Res :=
bareK (xbin P .eql T.p_model_Model (.tmp 13) (.const (.pointer none)) a0 (.pointer none)) H fun t14 h1 =>
mc t14 (fun k1 => k1 .ret [(6, (.int .i64 0)), (7, (.bool false)), (8, (.int .i64 1))] h1) (fun k1 =>
k1 .normal [(0, a0), (1, a1), (2, a2)] h1) (seqK (fun tT h2 =>
enterK C F.model_check [(get tT 1), (get tT 2)] h2 fun t17 h3 =>
bareK (xbin P .neq T.api_Errno (.tmp 18) (.const (.int .i64 0)) t17 (.int .i64 0)) h3 fun t19 h4 =>
mc t19 (fun k2 => k2 .ret [(6, (.int .i64 0)), (7, (.bool false)), (8, t17)] h4) (fun k2 =>
k2 .normal [(0, (get tT 0)), (1, (get tT 1))] h4) (seqK (fun tT_1 h5 =>
callK P C (.func (.func F.model_Model_place) #[(get tT_1 0)] #[]) [(get tT_1 1)] h5 fun t26 h6 =>
bareK (xextract t26 0) h6 fun t27 h7 =>
bareK (xextract t26 1) h7 fun t28 h8 =>
K0 .ret [(6, t27), (7, t28), (8, (.int .i64 0))] h8) K0)) K0)

theorem s_model_Model_at_eq (M : CombL) (C : CallF) (LP : LoopH) (a0 : Value) (a1 : Value) (a2 : Value) (H : AHeap) : dBodyL M Tryd.prog hints C LP F.model_Model_at [a0, a1, a2] H = s_model_Model_at M.b.g M.c M.s Tryd.prog C a0 a1 a2 H (endK Tryd.prog [.tmp 6, .tmp 7, .tmp 8]) := by kernel_rfl

/-! ticketline.rows.Valid -/

noncomputable def s_rows_Valid (mg : GT) (mc : CT) (ms : ST) (P : Program) (C : CallF) (a0 : Value) (H : AHeap) (K0 : K) : Res :=
bothK (newv T.api_Table a0 H) fun t1 h1 =>
bareK (fad 0 t1) h1 fun t3 h2 =>
bareK (ld1 h2 t3) h2 fun t4 h3 =>
bareK (xbin P .geq T.int (.tmp 4) (.const (.int .i64 1)) t4 (.int .i64 1)) h3 fun t5 h4 =>
mg t5 true (fun o1 => bareK (fad 0 t1) h4 o1) h4 fun t7 h5 =>
mg t5 true (fun o2 => bareK (ld1 h5 t7) h5 o2) h5 fun t8 h6 =>
mg t5 true (fun o3 => bareK (xbin P .leq T.int (.tmp 8) (.const (.int .i64 255)) t8 (.int .i64 255)) h6 o3) h6 fun t9 h7 =>
pickK t5 t9 (.bool false) fun t10 =>
mg t10 true (fun o4 => bareK (fad 1 t1) h7 o4) h7 fun t12 h8 =>
mg t10 true (fun o5 => bareK (ld1 h8 t12) h8 o5) h8 fun t13 h9 =>
mg t10 true (fun o6 => bareK (lenS t13) h9 o6) h9 fun t14 h10 =>
mg t10 true (fun o7 => bareK (xbin P .geq T.int (.tmp 14) (.const (.int .i64 1)) t14 (.int .i64 1)) h10 o7) h10 fun t15 h11 =>
pickK t10 t15 (.bool false) fun t16 =>
mg t16 true (fun o8 => bareK (fad 1 t1) h11 o8) h11 fun t18 h12 =>
mg t16 true (fun o9 => bareK (ld1 h12 t18) h12 o9) h12 fun t19 h13 =>
mg t16 true (fun o10 => bareK (lenS t19) h13 o10) h13 fun t20 h14 =>
mg t16 true (fun o11 => bareK (xbin P .leq T.int (.tmp 20) (.const (.int .i64 8)) t20 (.int .i64 8)) h14 o11) h14 fun t21 h15 =>
pickK t16 t21 (.bool false) fun t22 =>
mg t22 true (fun o12 => bareK (fad 2 t1) h15 o12) h15 fun t24 h16 =>
mg t22 true (fun o13 => bareK (ld1 h16 t24) h16 o13) h16 fun t25 h17 =>
mg t22 true (fun o14 => bareK (lenS t25) h17 o14) h17 fun t26 h18 =>
mg t22 true (fun o15 => bareK (xbin P .leq T.int (.tmp 26) (.const (.int .i64 8)) t26 (.int .i64 8)) h18 o15) h18 fun t27 h19 =>
pickK t22 t27 (.bool false) fun t28 =>
mg t28 true (fun o16 => bareK (fad 1 t1) h19 o16) h19 fun t30 h20 =>
mg t28 true (fun o17 => bareK (ld1 h20 t30) h20 o17) h20 fun t31 h21 =>
mg t28 true (fun o18 => bareK (fad 2 t1) h21 o18) h21 fun t32 h22 =>
mg t28 true (fun o19 => bareK (ld1 h22 t32) h22 o19) h22 fun t33 h23 =>
mg t28 true (fun o20 => bothK (bldL T.sl_api_CellKind [(.slice none 0 0)] 2 [(0, t31), (1, t33)] h23) o20) h23 fun t34 h24 =>
mg t28 true (fun o21 => enterK C F.slices_Concat_CellKind [t34] h24 o21) h24 fun t35 h25 =>
mg t28 true (fun o22 => enterK C F.slices_ContainsFunc_CellKind [t35, (.func (.func F.rows_Valid_1) #[] #[])] h25 o22) h25 fun t36 h26 =>
mg t28 true (fun o23 => bareK (xun P .not t36) h26 o23) h26 fun t37 h27 =>
pickK t28 t37 (.bool false) fun t38 =>
K0 .ret [(2, t38)] h27

theorem s_rows_Valid_eq (M : CombL) (C : CallF) (LP : LoopH) (a0 : Value) (H : AHeap) : dBodyL M Tryd.prog hints C LP F.rows_Valid [a0] H = s_rows_Valid M.b.g M.c M.s Tryd.prog C a0 H (endK Tryd.prog [.tmp 2]) := by kernel_rfl

/-! ticketline.rows.take -/

noncomputable def s_rows_take (mg : GT) (mc : CT) (ms : ST) (P : Program) (C : CallF) (a0 : Value) (a1 : Value) (H : AHeap) (K0 : K) : Res :=
bothK (newv T.api_Cell (.agg #[(.int .i64 0), (.int .u64 0), (.int .i64 0), (.string (mk [])), (.bool false)]) H) fun t4 h1 =>
bareK (bldS #[(.int .i64 0), (.int .u64 0), (.int .i64 0), (.string (mk [])), (.bool false)] [(0, 1), (1, 1), (2, 1), (3, 1), (4, 1)] [(0, a1)]) h1 fun t14 h2 =>
bothK (newv T.api_Cell (.agg #[(.int .i64 0), (.int .u64 0), (.int .i64 0), (.string (mk [])), (.bool false)]) h2) fun t7 h3 =>
quietK (stN 5 h3 t7 t14) fun _ h4 =>
bareK (xbin P .eql T.string (.tmp 15) (.const (.string (mk []))) a0 (.string (mk []))) h4 fun t16 h5 =>
mc t16 (fun k1 => bareK (ldN 5 h5 t7) h5 fun t17 h6 =>
quietK (stN 5 h6 t4 t17) fun _ h7 =>
k1 .ret [(4, t4), (5, (.string (mk []))), (6, (.bool false))] h7) (fun k1 =>
k1 .normal [(0, a0), (1, a1), (4, t4), (7, t7)] h5) (seqK (fun tT h8 =>
bareK (xindex P T.string (get tT 0) (.int .i64 0)) h8 fun t19 h9 =>
bothK (xconv P T.uint8 T.int t19 h9) fun t20 h10 =>
ms (fun k2 =>
bareK (xbin P .eql T.api_CellKind (.tmp 21) (.const (.int .i64 1)) (get tT 1) (.int .i64 1)) h10 fun t23 h11 =>
mc t23 (fun k3 => bareK (slT (get tT 0) (some (.int .i64 1)) none) h11 fun t26 h12 =>
enterK C F.rows_number [t26, t20, (.bool false)] h12 fun t28 h13 =>
bareK (xextract t28 0) h13 fun t29 h14 =>
bareK (xextract t28 1) h14 fun t30 h15 =>
bareK (xextract t28 2) h15 fun t31 h16 =>
bareK (fad 1 (get tT 7)) h16 fun t32 h17 =>
quietK (st1 h17 t32 t29) fun _ h18 =>
bareK (ldN 5 h18 (get tT 7)) h18 fun t33 h19 =>
quietK (stN 5 h19 (get tT 4) t33) fun _ h20 =>
k3 .ret [(4, (get tT 4)), (5, t30), (6, t31)] h20) (fun k3 =>
bareK (xbin P .eql T.api_CellKind (.tmp 21) (.const (.int .i64 2)) (get tT 1) (.int .i64 2)) h11 fun t37 h21 =>
mc t37 (fun k4 => bareK (xbin P .geq T.int (.tmp 38) (.const (.int .i64 128)) t20 (.int .i64 128)) h21 fun t39 h22 =>
mc t39 (fun k5 => bareK (slT (get tT 0) (some (.int .i64 1)) none) h22 fun t42 h23 =>
bareK (xbin P .sub T.int (.tmp 43) (.const (.int .i64 128)) t20 (.int .i64 128)) h23 fun t44 h24 =>
enterK C F.rows_number [t42, t44, (.bool false)] h24 fun t45 h25 =>
bareK (xextract t45 0) h25 fun t46 h26 =>
bareK (xextract t45 1) h26 fun t47 h27 =>
bareK (xextract t45 2) h27 fun t48 h28 =>
bothK (xconv P T.uint64 T.int t46 h28) fun t50 h29 =>
bareK (fad 2 (get tT 7)) h29 fun t51 h30 =>
quietK (st1 h30 t51 t50) fun _ h31 =>
k5 .normal [(4, (get tT 4)), (7, (get tT 7)), (9, t48), (11, t47)] h31) (fun k5 =>
bareK (slT (get tT 0) (some (.int .i64 1)) none) h22 fun t54 h32 =>
bareK (xbin P .sub T.int (.const (.int .i64 127)) (.tmp 55) (.int .i64 127) t20) h32 fun t56 h33 =>
enterK C F.rows_number [t54, t56, (.bool true)] h33 fun t57 h34 =>
bareK (xextract t57 0) h34 fun t58 h35 =>
bareK (xextract t57 1) h35 fun t59 h36 =>
bareK (xextract t57 2) h36 fun t60 h37 =>
bothK (xconv P T.uint64 T.int t58 h37) fun t62 h38 =>
bareK (xun P .neg t62) h38 fun t63 h39 =>
bareK (xbin P .sub T.int (.tmp 63) (.const (.int .i64 1)) t63 (.int .i64 1)) h39 fun t64 h40 =>
bareK (fad 2 (get tT 7)) h40 fun t65 h41 =>
quietK (st1 h41 t65 t64) fun _ h42 =>
k5 .normal [(4, (get tT 4)), (7, (get tT 7)), (9, t60), (11, t59)] h42) (seqK (fun tT_1 h43 =>
bareK (ldN 5 h43 (get tT_1 7)) h43 fun t66 h44 =>
quietK (stN 5 h44 (get tT_1 4) t66) fun _ h45 =>
k4 .ret [(4, (get tT_1 4)), (5, (get tT_1 11)), (6, (get tT_1 9))] h45) (afterK [0, 4, 7, 8] k4))) (fun k4 =>
bareK (xbin P .eql T.api_CellKind (.tmp 21) (.const (.int .i64 3)) (get tT 1) (.int .i64 3)) h21 fun t70 h46 =>
mc t70 (fun k6 => enterK C F.strings_Index [(get tT 0), (.string (mk [0, 1]))] h46 fun t72 h47 =>
bareK (xbin P .lss T.int (.tmp 73) (.const (.int .i64 0)) t72 (.int .i64 0)) h47 fun t74 h48 =>
mc t74 (fun k7 => bareK (ldN 5 h48 (get tT 7)) h48 fun t75 h49 =>
quietK (stN 5 h49 (get tT 4) t75) fun _ h50 =>
k7 .ret [(4, (get tT 4)), (5, (.string (mk []))), (6, (.bool false))] h50) (fun k7 =>
k7 .normal [(0, (get tT 0)), (4, (get tT 4)), (7, (get tT 7)), (12, t72)] h48) (seqK (fun tT_2 h51 =>
bareK (slT (get tT_2 0) none (some (get tT_2 12))) h51 fun t78 h52 =>
enterK C F.strings_ReplaceAll [t78, (.string (mk [0, 255])), (.string (mk [0]))] h52 fun t79 h53 =>
bareK (fad 3 (get tT_2 7)) h53 fun t80 h54 =>
quietK (st1 h54 t80 t79) fun _ h55 =>
bareK (ldN 5 h55 (get tT_2 7)) h55 fun t81 h56 =>
bareK (xbin P .add T.int (.tmp 83) (.const (.int .i64 2)) (get tT_2 12) (.int .i64 2)) h56 fun t84 h57 =>
bareK (slT (get tT_2 0) (some t84) none) h57 fun t85 h58 =>
quietK (stN 5 h58 (get tT_2 4) t81) fun _ h59 =>
checkK (okV (some true) none h58 h59 h56 h56 && (okV (some true) none h58 h59 h56 h56 && (okV (some true) none h58 h59 h56 h57 && (okV (some true) (blockOf (get tT_2 0)) h58 h59 h57 h58 && true)))) <|
k6 .ret [(4, (get tT_2 4)), (5, t85), (6, (.bool true))] h59) (afterK [0, 4, 7, 8] k6))) (fun k6 =>
k6 .normal [(0, (get tT 0)), (4, (get tT 4)), (7, (get tT 7)), (8, t20)] h46) (afterK [0, 4, 7, 8] k4)) (afterK [0, 4, 7, 8] k3)) (blkK [0, 4, 7, 8] 0 k2)) (seqK (fun tT_3 h60 =>
bareK (xbin P .eql T.int (.tmp 86) (.const (.int .i64 1)) (get tT_3 8) (.int .i64 1)) h60 fun t87 h61 =>
bareK (fad 4 (get tT_3 7)) h61 fun t88 h62 =>
quietK (st1 h62 t88 t87) fun _ h63 =>
bareK (ldN 5 h63 (get tT_3 7)) h63 fun t89 h64 =>
bareK (slT (get tT_3 0) (some (.int .i64 1)) none) h64 fun t91 h65 =>
quietK (stN 5 h65 (get tT_3 4) t89) fun _ h66 =>
checkK (okV (some true) none h65 h66 h64 h64 && (okV (some true) (blockOf (get tT_3 0)) h65 h66 h64 h65 && true)) <|
K0 .ret [(4, (get tT_3 4)), (5, t91), (6, (.bool true))] h66) K0)) K0)

theorem s_rows_take_eq (M : CombL) (C : CallF) (LP : LoopH) (a0 : Value) (a1 : Value) (H : AHeap) : dBodyL M Tryd.prog hints C LP F.rows_take [a0, a1] H = s_rows_take M.b.g M.c M.s Tryd.prog C a0 a1 H (endK Tryd.prog [.cell 4 T.api_Cell, .tmp 5, .tmp 6]) := by kernel_rfl

/-! ticketline.rows.are -/

noncomputable def s_rows_are (mg : GT) (mc : CT) (ms : ST) (P : Program) (C : CallF) (L0 : Value → Value → Value → Value → AHeap → K → Res) (a0 : Value) (a1 : Value) (H : AHeap) (K0 : K) : Res :=
bareK (lenS a0) H fun t8 h1 =>
bareK (lenS a1) h1 fun t10 h2 =>
bareK (xbin P .neq T.int (.tmp 8) (.tmp 10) t8 t10) h2 fun t11 h3 =>
mc t11 (fun k1 => k1 .ret [(4, (.bool false))] h3) (fun k1 =>
k1 .normal [(0, a0), (1, a1)] h3) (seqK (fun tT h4 =>
bareK (lenS (get tT 0)) h4 fun t13 h5 =>
ms (fun k2 =>
L0 (get tT 1) (get tT 0) t13 (.int .i64 0) h5 (blkK [] 0 k2)) (seqK (fun tT_1 h6 =>
K0 .ret [(4, (.bool true))] h6) K0)) K0)

noncomputable def s_rows_are_b0 (mg : GT) (mc : CT) (ms : ST) (P : Program) (C : CallF) (L0 : Value → Value → Value → Value → AHeap → K → Res) (v1 : Value) (v12 : Value) (v13 : Value) (v14 : Value) (H : AHeap) (k : K) : Res :=
bareK (xbin P .lss T.int (.tmp 14) (.tmp 13) v14 v13) H fun t15 h6 =>
mc t15 (fun k3 => k3 .normal [(1, v1), (12, v12), (13, v13), (14, v14)] h6) (fun k3 =>
k3 (.exit 0) [(15, t15), (1, v1), (12, v12), (13, v13), (14, v14)] h6) (seqK (fun tT h7 =>
ms (fun k4 =>
bareK (ixS 5 (get tT 12) (get tT 14)) h7 fun t17 h8 =>
bareK (ldN 5 h8 t17) h8 fun t18 h9 =>
bothK (newv T.api_Cell (.agg #[(.int .i64 0), (.int .u64 0), (.int .i64 0), (.string (mk [])), (.bool false)]) h9) fun t6 h10 =>
quietK (stN 5 h10 t6 t18) fun _ h11 =>
bareK (ldN 5 h11 t6) h11 fun t19 h12 =>
bareK (ixS 1 (get tT 1) (get tT 14)) h12 fun t22 h13 =>
bareK (ld1 h13 t22) h13 fun t23 h14 =>
enterK C F.rows_proper [t19, t23] h14 fun t24 h15 =>
bareK (xun P .not t24) h15 fun t25 h16 =>
checkK true <|
mc t25 (fun k5 => k5 .ret [(4, (.bool false))] h16) (fun k5 =>
k5 .normal [(1, (get tT 1)), (12, (get tT 12)), (13, (get tT 13)), (14, (get tT 14))] h16) (blkK [1, 12, 13, 14] 1 k4)) (seqK (fun tT_1 h17 =>
bareK (xbin P .add T.int (.tmp 14) (.const (.int .i64 1)) (get tT_1 14) (.int .i64 1)) h17 fun t26 h18 =>
k .normal [(1, (get tT_1 1)), (12, (get tT_1 12)), (13, (get tT_1 13)), (14, t26)] h18) (afterK [1, 12, 13, 14] k))) (afterK [1, 12, 13, 14] k))

theorem s_rows_are_eq (M : CombL) (C : CallF) (LP : LoopH) (a0 : Value) (a1 : Value) (H : AHeap) : dBodyL M Tryd.prog hints C LP F.rows_are [a0, a1] H = s_rows_are M.b.g M.c M.s Tryd.prog C (fun v1 v12 v13 v14 H k => loopL M Tryd.prog hints C LP F.rows_are 0 [(1, v1), (12, v12), (13, v13), (14, v14)] H k) a0 a1 H (endK Tryd.prog [.tmp 4]) := by kernel_rfl

theorem s_rows_are_b0_eq (M : CombL) (C : CallF) (LP : LoopH) (v1 : Value) (v12 : Value) (v13 : Value) (v14 : Value) (H : AHeap) (k : K) : bodyL M Tryd.prog hints C LP F.rows_are 0 [(1, v1), (12, v12), (13, v13), (14, v14)] H (afterK [1, 12, 13, 14] k) = s_rows_are_b0 M.b.g M.c M.s Tryd.prog C (fun v1 v12 v13 v14 H k => loopL M Tryd.prog hints C LP F.rows_are 0 [(1, v1), (12, v12), (13, v13), (14, v14)] H k) v1 v12 v13 v14 H k := by kernel_rfl

/-! ticketline.rows.puts -/

noncomputable def s_rows_puts (mg : GT) (mc : CT) (ms : ST) (P : Program) (C : CallF) (L0 : Value → Value → Value → Value → AHeap → K → Res) (a0 : Value) (a1 : Value) (H : AHeap) (K0 : K) : Res :=
bareK (lenS a1) H fun t8 h1 =>
ms (fun k1 =>
L0 a0 a1 t8 (.int .i64 0) h1 (blkK [0] 0 k1)) (seqK (fun tT h2 =>
bothK (xconv P T.sl_uint8 T.string (get tT 0) h2) fun t18 h3 =>
K0 .ret [(4, t18)] h3) K0)

noncomputable def s_rows_puts_b0 (mg : GT) (mc : CT) (ms : ST) (P : Program) (C : CallF) (L0 : Value → Value → Value → Value → AHeap → K → Res) (v0 : Value) (v7 : Value) (v8 : Value) (v9 : Value) (H : AHeap) (k : K) : Res :=
bareK (xbin P .lss T.int (.tmp 9) (.tmp 8) v9 v8) H fun t10 h2 =>
mc t10 (fun k2 => k2 .normal [(0, v0), (7, v7), (8, v8), (9, v9)] h2) (fun k2 =>
k2 (.exit 0) [(10, t10), (0, v0), (7, v7), (8, v8), (9, v9)] h2) (seqK (fun tT h3 =>
ms (fun k3 =>
bareK (ixS 5 (get tT 7) (get tT 9)) h3 fun t11 h4 =>
bareK (ldN 5 h4 t11) h4 fun t12 h5 =>
bothK (newv T.api_Cell (.agg #[(.int .i64 0), (.int .u64 0), (.int .i64 0), (.string (mk [])), (.bool false)]) h5) fun t6 h6 =>
quietK (stN 5 h6 t6 t12) fun _ h7 =>
bareK (ldN 5 h7 t6) h7 fun t14 h8 =>
enterK C F.rows_put [(get tT 0), t14] h8 fun t15 h9 =>
k3 .normal [(0, t15), (7, (get tT 7)), (8, (get tT 8)), (9, (get tT 9))] h9) (seqK (fun tT_1 h10 =>
bareK (xbin P .add T.int (.tmp 9) (.const (.int .i64 1)) (get tT_1 9) (.int .i64 1)) h10 fun t16 h11 =>
k .normal [(0, (get tT_1 0)), (7, (get tT_1 7)), (8, (get tT_1 8)), (9, t16)] h11) (afterK [0, 7, 8, 9] k))) (afterK [0, 7, 8, 9] k))

theorem s_rows_puts_eq (M : CombL) (C : CallF) (LP : LoopH) (a0 : Value) (a1 : Value) (H : AHeap) : dBodyL M Tryd.prog hints C LP F.rows_puts [a0, a1] H = s_rows_puts M.b.g M.c M.s Tryd.prog C (fun v0 v7 v8 v9 H k => loopL M Tryd.prog hints C LP F.rows_puts 0 [(0, v0), (7, v7), (8, v8), (9, v9)] H k) a0 a1 H (endK Tryd.prog [.tmp 4]) := by kernel_rfl

theorem s_rows_puts_b0_eq (M : CombL) (C : CallF) (LP : LoopH) (v0 : Value) (v7 : Value) (v8 : Value) (v9 : Value) (H : AHeap) (k : K) : bodyL M Tryd.prog hints C LP F.rows_puts 0 [(0, v0), (7, v7), (8, v8), (9, v9)] H (afterK [0, 7, 8, 9] k) = s_rows_puts_b0 M.b.g M.c M.s Tryd.prog C (fun v0 v7 v8 v9 H k => loopL M Tryd.prog hints C LP F.rows_puts 0 [(0, v0), (7, v7), (8, v8), (9, v9)] H k) v0 v7 v8 v9 H k := by kernel_rfl

/-! slices.Concat[[]ticketline.api.CellKind,ticketline.api.CellKind] -/

noncomputable def s_slices_Concat_CellKind (mg : GT) (mc : CT) (ms : ST) (P : Program) (C : CallF) (L0 : Value → Value → Value → Value → Value → AHeap → K → Res) (L1 : Value → Value → Value → Value → AHeap → K → Res) (a0 : Value) (H : AHeap) (K0 : K) : Res :=
bareK (lenS a0) H fun t10 h1 =>
ms (fun k1 =>
L0 a0 (.int .i64 0) a0 t10 (.int .i64 0) h1 (blkK [0, 3] 0 k1)) (seqK (fun tT h2 =>
enterK C F.slices_Grow_CellKind [(.slice none 0 0), (get tT 3)] h2 fun t24 h3 =>
bareK (lenS (get tT 0)) h3 fun t26 h4 =>
ms (fun k2 =>
L1 t24 (get tT 0) t26 (.int .i64 0) h4 (blkK [6] 2 k2)) (seqK (fun tT_1 h5 =>
K0 .ret [(2, (get tT_1 6))] h5) K0)) K0)

noncomputable def s_slices_Concat_CellKind_b0 (mg : GT) (mc : CT) (ms : ST) (P : Program) (C : CallF) (L0 : Value → Value → Value → Value → Value → AHeap → K → Res) (L1 : Value → Value → Value → Value → AHeap → K → Res) (v0 : Value) (v3 : Value) (v9 : Value) (v10 : Value) (v11 : Value) (H : AHeap) (k : K) : Res :=
bareK (xbin P .lss T.int (.tmp 11) (.tmp 10) v11 v10) H fun t12 h2 =>
mc t12 (fun k2 => k2 .normal [(0, v0), (3, v3), (9, v9), (10, v10), (11, v11)] h2) (fun k2 =>
k2 (.exit 0) [(12, t12), (0, v0), (3, v3), (9, v9), (10, v10), (11, v11)] h2) (seqK (fun tT h3 =>
ms (fun k3 =>
bareK (ixS 1 (get tT 9) (get tT 11)) h3 fun t13 h4 =>
bareK (ld1 h4 t13) h4 fun t14 h5 =>
bareK (lenS t14) h5 fun t17 h6 =>
bareK (xbin P .add T.int (.tmp 15) (.tmp 17) (get tT 3) t17) h6 fun t18 h7 =>
bareK (xbin P .lss T.int (.tmp 19) (.const (.int .i64 0)) t18 (.int .i64 0)) h7 fun t20 h8 =>
mc t20 (fun k4 => none) (fun k4 =>
k4 .normal [(0, (get tT 0)), (3, t18), (9, (get tT 9)), (10, (get tT 10)), (11, (get tT 11))] h8) (blkK [0, 3, 9, 10, 11] 1 k3)) (seqK (fun tT_1 h9 =>
bareK (xbin P .add T.int (.tmp 11) (.const (.int .i64 1)) (get tT_1 11) (.int .i64 1)) h9 fun t22 h10 =>
k .normal [(0, (get tT_1 0)), (3, (get tT_1 3)), (9, (get tT_1 9)), (10, (get tT_1 10)), (11, t22)] h10) (afterK [0, 3, 9, 10, 11] k))) (afterK [0, 3, 9, 10, 11] k))

noncomputable def s_slices_Concat_CellKind_b1 (mg : GT) (mc : CT) (ms : ST) (P : Program) (C : CallF) (L0 : Value → Value → Value → Value → Value → AHeap → K → Res) (L1 : Value → Value → Value → Value → AHeap → K → Res) (v6 : Value) (v25 : Value) (v26 : Value) (v27 : Value) (H : AHeap) (k : K) : Res :=
bareK (xbin P .lss T.int (.tmp 27) (.tmp 26) v27 v26) H fun t28 h5 =>
mc t28 (fun k3 => k3 .normal [(6, v6), (25, v25), (26, v26), (27, v27)] h5) (fun k3 =>
k3 (.exit 2) [(28, t28), (6, v6), (25, v25), (26, v26), (27, v27)] h5) (seqK (fun tT h6 =>
ms (fun k4 =>
bareK (ixS 1 (get tT 25) (get tT 27)) h6 fun t29 h7 =>
bareK (ld1 h7 t29) h7 fun t30 h8 =>
bothK (app T.api_CellKind 1 8 (get tT 6) (srcS 1 t30 h8) h8) fun t33 h9 =>
k4 .normal [(6, t33), (25, (get tT 25)), (26, (get tT 26)), (27, (get tT 27))] h9) (seqK (fun tT_1 h10 =>
bareK (xbin P .add T.int (.tmp 27) (.const (.int .i64 1)) (get tT_1 27) (.int .i64 1)) h10 fun t34 h11 =>
k .normal [(6, (get tT_1 6)), (25, (get tT_1 25)), (26, (get tT_1 26)), (27, t34)] h11) (afterK [6, 25, 26, 27] k))) (afterK [6, 25, 26, 27] k))

theorem s_slices_Concat_CellKind_eq (M : CombL) (C : CallF) (LP : LoopH) (a0 : Value) (H : AHeap) : dBodyL M Tryd.prog hints C LP F.slices_Concat_CellKind [a0] H = s_slices_Concat_CellKind M.b.g M.c M.s Tryd.prog C (fun v0 v3 v9 v10 v11 H k => loopL M Tryd.prog hints C LP F.slices_Concat_CellKind 0 [(0, v0), (3, v3), (9, v9), (10, v10), (11, v11)] H k) (fun v6 v25 v26 v27 H k => loopL M Tryd.prog hints C LP F.slices_Concat_CellKind 1 [(6, v6), (25, v25), (26, v26), (27, v27)] H k) a0 H (endK Tryd.prog [.tmp 2]) := by kernel_rfl

theorem s_slices_Concat_CellKind_b0_eq (M : CombL) (C : CallF) (LP : LoopH) (v0 : Value) (v3 : Value) (v9 : Value) (v10 : Value) (v11 : Value) (H : AHeap) (k : K) : bodyL M Tryd.prog hints C LP F.slices_Concat_CellKind 0 [(0, v0), (3, v3), (9, v9), (10, v10), (11, v11)] H (afterK [0, 3, 9, 10, 11] k) = s_slices_Concat_CellKind_b0 M.b.g M.c M.s Tryd.prog C (fun v0 v3 v9 v10 v11 H k => loopL M Tryd.prog hints C LP F.slices_Concat_CellKind 0 [(0, v0), (3, v3), (9, v9), (10, v10), (11, v11)] H k) (fun v6 v25 v26 v27 H k => loopL M Tryd.prog hints C LP F.slices_Concat_CellKind 1 [(6, v6), (25, v25), (26, v26), (27, v27)] H k) v0 v3 v9 v10 v11 H k := by kernel_rfl

theorem s_slices_Concat_CellKind_b1_eq (M : CombL) (C : CallF) (LP : LoopH) (v6 : Value) (v25 : Value) (v26 : Value) (v27 : Value) (H : AHeap) (k : K) : bodyL M Tryd.prog hints C LP F.slices_Concat_CellKind 1 [(6, v6), (25, v25), (26, v26), (27, v27)] H (afterK [6, 25, 26, 27] k) = s_slices_Concat_CellKind_b1 M.b.g M.c M.s Tryd.prog C (fun v0 v3 v9 v10 v11 H k => loopL M Tryd.prog hints C LP F.slices_Concat_CellKind 0 [(0, v0), (3, v3), (9, v9), (10, v10), (11, v11)] H k) (fun v6 v25 v26 v27 H k => loopL M Tryd.prog hints C LP F.slices_Concat_CellKind 1 [(6, v6), (25, v25), (26, v26), (27, v27)] H k) v6 v25 v26 v27 H k := by kernel_rfl

/-! (*ticketline.model.Model).set -/

noncomputable def s_model_Model_set (mg : GT) (mc : CT) (ms : ST) (P : Program) (C : CallF) (a0 : Value) (a1 : Value) (a2 : Value) (a3 : Value) (H : AHeap) (K0 : K) : Res :=
bothK (newv T.api_Pair a3 H) fun t7 h1 =>
ms (fun k1 =>
mc a2 (fun k2 => bareK (xnilCheck a0) h1 fun t23 h2 =>
bareK (fad 0 t23) h2 fun t24 h3 =>
bareK (ld1 h3 t24) h3 fun t25 h4 =>
bareK (ldN 2 h4 t7) h4 fun t27 h5 =>
bareK (ixS 2 t25 a1) h5 fun t28 h6 =>
quietK (stN 2 h6 t28 t27) fun _ h7 =>
checkK true <|
k2 .normal [] h7) (fun k2 =>
bareK (xnilCheck a0) h1 fun t31 h8 =>
bareK (fad 0 t31) h8 fun t32 h9 =>
bareK (ld1 h9 t32) h9 fun t33 h10 =>
bareK (lenS t33) h10 fun t34 h11 =>
bareK (xbin P .eql T.int (.tmp 34) (.const (.int .i64 20000)) t34 (.int .i64 20000)) h11 fun t35 h12 =>
mc t35 (fun k3 => k3 .ret [(8, (.int .i64 7))] h12) (fun k3 =>
bareK (xnilCheck a0) h12 fun t11 h13 =>
bareK (fad 0 t11) h13 fun t12 h14 =>
bareK (ld1 h14 t12) h14 fun t13 h15 =>
bareK (ldN 2 h15 t7) h15 fun t15 h16 =>
bothK (bldL T.api_Pair [(.string (mk [])), (.string (mk []))] 1 [(0, t15)] h16) fun t16 h17 =>
enterK C F.slices_Insert_Pair [t13, a1, t16] h17 fun t17 h18 =>
bareK (xnilCheck a0) h18 fun t18 h19 =>
bareK (fad 0 t18) h19 fun t19 h20 =>
quietK (st1 h20 t19 t17) fun _ h21 =>
checkK (okV (some true) none h17 h18 h12 h12 && true) <|
k3 .normal [] h21) (afterK [] k2)) (blkK [] 0 k1)) (seqK (fun tT h22 =>
K0 .ret [(8, (.int .i64 0))] h22) K0)

theorem s_model_Model_set_eq (M : CombL) (C : CallF) (LP : LoopH) (a0 : Value) (a1 : Value) (a2 : Value) (a3 : Value) (H : AHeap) : dBodyL M Tryd.prog hints C LP F.model_Model_set [a0, a1, a2, a3] H = s_model_Model_set M.b.g M.c M.s Tryd.prog C a0 a1 a2 a3 H (endK Tryd.prog [.tmp 8]) := by kernel_rfl

/-! slices.BinarySearchFunc[[]ticketline.api.Pair,ticketline.api.Pair,string] -/

noncomputable def s_slices_BinarySearchFunc_string (mg : GT) (mc : CT) (ms : ST) (P : Program) (C : CallF) (L0 : Value → Value → Value → Value → Value → Value → AHeap → K → Res) (a0 : Value) (a1 : Value) (a2 : Value) (H : AHeap) (K0 : K) : Res :=
bareK (lenS a0) H fun t13 h1 =>
ms (fun k1 =>
L0 a0 a1 a2 t13 (.int .i64 0) t13 h1 (blkK [0, 1, 2, 8, 9] 0 k1)) (seqK (fun tT h2 =>
bareK (xbin P .lss T.int (.tmp 36) (.tmp 37) (get tT 9) (get tT 8)) h2 fun t38 h3 =>
mg t38 true (fun o2 => o2 (get tT 2) h3) h3 fun t40 h4 =>
mg t38 true (fun o3 => o3 (get tT 0) h4) h4 fun t41 h5 =>
mg t38 true (fun o4 => o4 (get tT 9) h5) h5 fun t42 h6 =>
mg t38 true (fun o5 => bareK (ixS 2 t41 t42) h6 o5) h6 fun t43 h7 =>
mg t38 true (fun o6 => bareK (ldN 2 h7 t43) h7 o6) h7 fun t44 h8 =>
mg t38 true (fun o7 => o7 (get tT 1) h8) h8 fun t45 h9 =>
mg t38 true (fun o8 => callK P C t40 [t44, t45] h9 o8) h9 fun t46 h10 =>
mg t38 true (fun o9 => bareK (xbin P .eql T.int (.tmp 46) (.const (.int .i64 0)) t46 (.int .i64 0)) h10 o9) h10 fun t47 h11 =>
pickK t38 t47 (.bool false) fun t48 =>
K0 .ret [(6, (get tT 9)), (7, t48)] h11) K0)

noncomputable def s_slices_BinarySearchFunc_string_b0 (mg : GT) (mc : CT) (ms : ST) (P : Program) (C : CallF) (L0 : Value → Value → Value → Value → Value → Value → AHeap → K → Res) (v0 : Value) (v1 : Value) (v2 : Value) (v8 : Value) (v9 : Value) (v10 : Value) (H : AHeap) (k : K) : Res :=
bareK (xbin P .lss T.int (.tmp 15) (.tmp 16) v9 v10) H fun t17 h2 =>
mc t17 (fun k2 => k2 .normal [(0, v0), (1, v1), (2, v2), (8, v8), (9, v9), (10, v10)] h2) (fun k2 =>
k2 (.exit 0) [(17, t17), (16, v10), (15, v9), (0, v0), (1, v1), (2, v2), (8, v8), (9, v9), (10, v10)] h2) (seqK (fun tT h3 =>
ms (fun k3 =>
bareK (xbin P .add T.int (.tmp 18) (.tmp 19) (get tT 9) (get tT 10)) h3 fun t20 h4 =>
bothK (xconv P T.int T.uint t20 h4) fun t21 h5 =>
bareK (xbin P .shr T.uint (.tmp 21) (.const (.int .u64 1)) t21 (.int .u64 1)) h5 fun t22 h6 =>
bothK (xconv P T.uint T.int t22 h6) fun t23 h7 =>
bareK (ixS 2 (get tT 0) t23) h7 fun t27 h8 =>
bareK (ldN 2 h8 t27) h8 fun t28 h9 =>
callK P C (get tT 2) [t28, (get tT 1)] h9 fun t30 h10 =>
bareK (xbin P .lss T.int (.tmp 30) (.const (.int .i64 0)) t30 (.int .i64 0)) h10 fun t31 h11 =>
mc t31 (fun k4 => bareK (xbin P .add T.int (.tmp 32) (.const (.int .i64 1)) t23 (.int .i64 1)) h11 fun t33 h12 =>
k4 .normal [(0, (get tT 0)), (1, (get tT 1)), (2, (get tT 2)), (8, (get tT 8)), (9, t33), (10, (get tT 10))] h12) (fun k4 =>
k4 .normal [(0, (get tT 0)), (1, (get tT 1)), (2, (get tT 2)), (8, (get tT 8)), (9, (get tT 9)), (10, t23)] h11) (blkK [0, 1, 2, 8, 9, 10] 1 k3)) (afterK [0, 1, 2, 8, 9, 10] k)) (afterK [0, 1, 2, 8, 9, 10] k))

theorem s_slices_BinarySearchFunc_string_eq (M : CombL) (C : CallF) (LP : LoopH) (a0 : Value) (a1 : Value) (a2 : Value) (H : AHeap) : dBodyL M Tryd.prog hints C LP F.slices_BinarySearchFunc_string [a0, a1, a2] H = s_slices_BinarySearchFunc_string M.b.g M.c M.s Tryd.prog C (fun v0 v1 v2 v8 v9 v10 H k => loopL M Tryd.prog hints C LP F.slices_BinarySearchFunc_string 0 [(0, v0), (1, v1), (2, v2), (8, v8), (9, v9), (10, v10)] H k) a0 a1 a2 H (endK Tryd.prog [.tmp 6, .tmp 7]) := by kernel_rfl

theorem s_slices_BinarySearchFunc_string_b0_eq (M : CombL) (C : CallF) (LP : LoopH) (v0 : Value) (v1 : Value) (v2 : Value) (v8 : Value) (v9 : Value) (v10 : Value) (H : AHeap) (k : K) : bodyL M Tryd.prog hints C LP F.slices_BinarySearchFunc_string 0 [(0, v0), (1, v1), (2, v2), (8, v8), (9, v9), (10, v10)] H (afterK [0, 1, 2, 8, 9, 10] k) = s_slices_BinarySearchFunc_string_b0 M.b.g M.c M.s Tryd.prog C (fun v0 v1 v2 v8 v9 v10 H k => loopL M Tryd.prog hints C LP F.slices_BinarySearchFunc_string 0 [(0, v0), (1, v1), (2, v2), (8, v8), (9, v9), (10, v10)] H k) v0 v1 v2 v8 v9 v10 H k := by kernel_rfl

/-! (*ticketline.model.Model).place$1 -/

noncomputable def s_model_Model_place_1 (mg : GT) (mc : CT) (ms : ST) (P : Program) (C : CallF) (a0 : Value) (a1 : Value) (H : AHeap) (K0 : K) : Res :=
bothK (newv T.api_Pair a0 H) fun t2 h1 =>
bareK (fad 0 t2) h1 fun t5 h2 =>
bareK (ld1 h2 t5) h2 fun t6 h3 =>
enterK C F.keys_Compare [t6, a1] h3 fun t8 h4 =>
K0 .ret [(4, t8)] h4

theorem s_model_Model_place_1_eq (M : CombL) (C : CallF) (LP : LoopH) (a0 : Value) (a1 : Value) (H : AHeap) : dBodyL M Tryd.prog hints C LP F.model_Model_place_1 [a0, a1] H = s_model_Model_place_1 M.b.g M.c M.s Tryd.prog C a0 a1 H (endK Tryd.prog [.tmp 4]) := by kernel_rfl

/-! ticketline.keys.Compare -/

noncomputable def s_keys_Compare (mg : GT) (mc : CT) (ms : ST) (P : Program) (C : CallF) (a0 : Value) (a1 : Value) (H : AHeap) (K0 : K) : Res :=
enterK C F.strings_Compare [a0, a1] H fun t7 h1 =>
K0 .ret [(4, t7)] h1

theorem s_keys_Compare_eq (M : CombL) (C : CallF) (LP : LoopH) (a0 : Value) (a1 : Value) (H : AHeap) : dBodyL M Tryd.prog hints C LP F.keys_Compare [a0, a1] H = s_keys_Compare M.b.g M.c M.s Tryd.prog C a0 a1 H (endK Tryd.prog [.tmp 4]) := by kernel_rfl

/-! ticketline.model.check -/

noncomputable def s_model_check (mg : GT) (mc : CT) (ms : ST) (P : Program) (C : CallF) (a0 : Value) (a1 : Value) (H : AHeap) (K0 : K) : Res :=
ms (fun k1 =>
bareK (xbin P .eql T.string (.tmp 6) (.const (.string (mk []))) a0 (.string (mk []))) H fun t7 h1 =>
mc t7 (fun k2 => k2 .ret [(4, (.int .i64 2))] h1) (fun k2 =>
bareK (lenT a0) h1 fun t10 h2 =>
bareK (xbin P .gtr T.int (.tmp 10) (.const (.int .i64 24)) t10 (.int .i64 24)) h2 fun t11 h3 =>
mg t11 false (fun o3 => o3 a1 h3) h3 fun t13 h4 =>
mg t11 false (fun o4 => enterK C F.slices_ContainsFunc_string [t13, (.func (.func F.model_check_1) #[] #[])] h4 o4) h4 fun t14 h5 =>
pickK t11 (.bool true) t14 fun t15 =>
mc t15 (fun k5 => k5 .ret [(4, (.int .i64 5))] h5) (fun k5 =>
k5 .normal [] h5) (afterK [] k2)) (blkK [] 0 k1)) (seqK (fun tT h6 =>
K0 .ret [(4, (.int .i64 0))] h6) K0)

theorem s_model_check_eq (M : CombL) (C : CallF) (LP : LoopH) (a0 : Value) (a1 : Value) (H : AHeap) : dBodyL M Tryd.prog hints C LP F.model_check [a0, a1] H = s_model_check M.b.g M.c M.s Tryd.prog C a0 a1 H (endK Tryd.prog [.tmp 4]) := by kernel_rfl

/-! slices.ContainsFunc[[]ticketline.api.CellKind,ticketline.api.CellKind] -/

noncomputable def s_slices_ContainsFunc_CellKind (mg : GT) (mc : CT) (ms : ST) (P : Program) (C : CallF) (a0 : Value) (a1 : Value) (H : AHeap) (K0 : K) : Res :=
enterK C F.slices_IndexFunc_CellKind [a0, a1] H fun t7 h1 =>
bareK (xbin P .geq T.int (.tmp 7) (.const (.int .i64 0)) t7 (.int .i64 0)) h1 fun t8 h2 =>
K0 .ret [(4, t8)] h2

theorem s_slices_ContainsFunc_CellKind_eq (M : CombL) (C : CallF) (LP : LoopH) (a0 : Value) (a1 : Value) (H : AHeap) : dBodyL M Tryd.prog hints C LP F.slices_ContainsFunc_CellKind [a0, a1] H = s_slices_ContainsFunc_CellKind M.b.g M.c M.s Tryd.prog C a0 a1 H (endK Tryd.prog [.tmp 4]) := by kernel_rfl

/-! ticketline.rows.Valid$1 -/

noncomputable def s_rows_Valid_1 (mg : GT) (mc : CT) (ms : ST) (P : Program) (C : CallF) (a0 : Value) (H : AHeap) (K0 : K) : Res :=
enterK C F.rows_kind [a0] H fun t4 h1 =>
bareK (xun P .not t4) h1 fun t5 h2 =>
K0 .ret [(2, t5)] h2

theorem s_rows_Valid_1_eq (M : CombL) (C : CallF) (LP : LoopH) (a0 : Value) (H : AHeap) : dBodyL M Tryd.prog hints C LP F.rows_Valid_1 [a0] H = s_rows_Valid_1 M.b.g M.c M.s Tryd.prog C a0 H (endK Tryd.prog [.tmp 2]) := by kernel_rfl

/-! ticketline.rows.kind -/

noncomputable def s_rows_kind (mg : GT) (mc : CT) (ms : ST) (P : Program) (C : CallF) (a0 : Value) (H : AHeap) (K0 : K) : Res :=
bareK (xbin P .geq T.api_CellKind (.tmp 3) (.const (.int .i64 1)) a0 (.int .i64 1)) H fun t4 h1 =>
mg t4 true (fun o1 => o1 a0 h1) h1 fun t6 h2 =>
mg t4 true (fun o2 => bareK (xbin P .leq T.api_CellKind (.tmp 6) (.const (.int .i64 4)) t6 (.int .i64 4)) h2 o2) h2 fun t7 h3 =>
pickK t4 t7 (.bool false) fun t8 =>
K0 .ret [(2, t8)] h3

theorem s_rows_kind_eq (M : CombL) (C : CallF) (LP : LoopH) (a0 : Value) (H : AHeap) : dBodyL M Tryd.prog hints C LP F.rows_kind [a0] H = s_rows_kind M.b.g M.c M.s Tryd.prog C a0 H (endK Tryd.prog [.tmp 2]) := by kernel_rfl

/-! ticketline.rows.number -/

noncomputable def s_rows_number (mg : GT) (mc : CT) (ms : ST) (P : Program) (C : CallF) (L0 : Value → Value → Value → Value → Value → Value → Value → AHeap → K → Res) (a0 : Value) (a1 : Value) (a2 : Value) (H : AHeap) (K0 : K) : Res :=
bareK (xbin P .gtr T.int (.tmp 12) (.const (.int .i64 8)) a1 (.int .i64 8)) H fun t13 h1 =>
mg t13 false (fun o1 => o1 a1 h1) h1 fun t15 h2 =>
mg t13 false (fun o2 => o2 a0 h2) h2 fun t16 h3 =>
mg t13 false (fun o3 => bareK (lenT t16) h3 o3) h3 fun t17 h4 =>
mg t13 false (fun o4 => bareK (xbin P .gtr T.int (.tmp 15) (.tmp 17) t15 t17) h4 o4) h4 fun t18 h5 =>
pickK t13 (.bool true) t18 fun t19 =>
mc t19 (fun k5 => k5 .ret [(6, (.int .u64 0)), (7, (.string (mk []))), (8, (.bool false))] h5) (fun k5 =>
k5 .normal [(0, a0), (1, a1), (2, a2)] h5) (seqK (fun tT h6 =>
bareK (slT (get tT 0) none (some (get tT 1))) h6 fun t22 h7 =>
bothK (xconv P T.string T.sl_uint8 t22 h7) fun t23 h8 =>
bareK (lenS t23) h8 fun t24 h9 =>
ms (fun k6 =>
L0 (get tT 0) (get tT 1) (get tT 2) (.int .u64 0) t23 t24 (.int .i64 0) h9 (blkK [0, 1, 9] 0 k6)) (seqK (fun tT_1 h10 =>
bareK (slT (get tT_1 0) (some (get tT_1 1)) none) h10 fun t41 h11 =>
checkK true <|
K0 .ret [(6, (get tT_1 9)), (7, t41), (8, (.bool true))] h11) K0)) K0)

noncomputable def s_rows_number_b0 (mg : GT) (mc : CT) (ms : ST) (P : Program) (C : CallF) (L0 : Value → Value → Value → Value → Value → Value → Value → AHeap → K → Res) (v0 : Value) (v1 : Value) (v2 : Value) (v9 : Value) (v23 : Value) (v24 : Value) (v25 : Value) (H : AHeap) (k : K) : Res :=
bareK (xbin P .lss T.int (.tmp 25) (.tmp 24) v25 v24) H fun t26 h10 =>
mc t26 (fun k7 => k7 .normal [(0, v0), (1, v1), (2, v2), (9, v9), (23, v23), (24, v24), (25, v25)] h10) (fun k7 =>
k7 (.exit 0) [(26, t26), (0, v0), (1, v1), (2, v2), (9, v9), (23, v23), (24, v24), (25, v25)] h10) (seqK (fun tT h11 =>
ms (fun k8 =>
bareK (ixS 1 (get tT 23) (get tT 25)) h11 fun t27 h12 =>
bareK (ld1 h12 t27) h12 fun t28 h13 =>
mc (get tT 2) (fun k9 => bareK (xbin P .sub T.uint8 (.const (.int .u8 255)) (.tmp 30) (.int .u8 255) t28) h13 fun t31 h14 =>
k9 .normal [(0, (get tT 0)), (1, (get tT 1)), (2, (get tT 2)), (9, (get tT 9)), (11, t31), (23, (get tT 23)), (24, (get tT 24)), (25, (get tT 25))] h14) (fun k9 =>
k9 .normal [(0, (get tT 0)), (1, (get tT 1)), (2, (get tT 2)), (9, (get tT 9)), (11, t28), (23, (get tT 23)), (24, (get tT 24)), (25, (get tT 25))] h13) (seqK (fun tT_1 h15 =>
bareK (xbin P .shl T.uint64 (.tmp 32) (.const (.int .u64 8)) (get tT_1 9) (.int .u64 8)) h15 fun t33 h16 =>
bothK (xconv P T.uint8 T.uint64 (get tT_1 11) h16) fun t35 h17 =>
bareK (xbin P .or T.uint64 (.tmp 33) (.tmp 35) t33 t35) h17 fun t36 h18 =>
k8 .normal [(0, (get tT_1 0)), (1, (get tT_1 1)), (2, (get tT_1 2)), (9, t36), (23, (get tT_1 23)), (24, (get tT_1 24)), (25, (get tT_1 25))] h18) (blkK [0, 1, 2, 9, 23, 24, 25] 1 k8))) (seqK (fun tT_2 h19 =>
bareK (xbin P .add T.int (.tmp 25) (.const (.int .i64 1)) (get tT_2 25) (.int .i64 1)) h19 fun t37 h20 =>
k .normal [(0, (get tT_2 0)), (1, (get tT_2 1)), (2, (get tT_2 2)), (9, (get tT_2 9)), (23, (get tT_2 23)), (24, (get tT_2 24)), (25, t37)] h20) (afterK [0, 1, 2, 9, 23, 24, 25] k))) (afterK [0, 1, 2, 9, 23, 24, 25] k))

theorem s_rows_number_eq (M : CombL) (C : CallF) (LP : LoopH) (a0 : Value) (a1 : Value) (a2 : Value) (H : AHeap) : dBodyL M Tryd.prog hints C LP F.rows_number [a0, a1, a2] H = s_rows_number M.b.g M.c M.s Tryd.prog C (fun v0 v1 v2 v9 v23 v24 v25 H k => loopL M Tryd.prog hints C LP F.rows_number 0 [(0, v0), (1, v1), (2, v2), (9, v9), (23, v23), (24, v24), (25, v25)] H k) a0 a1 a2 H (endK Tryd.prog [.tmp 6, .tmp 7, .tmp 8]) := by kernel_rfl

theorem s_rows_number_b0_eq (M : CombL) (C : CallF) (LP : LoopH) (v0 : Value) (v1 : Value) (v2 : Value) (v9 : Value) (v23 : Value) (v24 : Value) (v25 : Value) (H : AHeap) (k : K) : bodyL M Tryd.prog hints C LP F.rows_number 0 [(0, v0), (1, v1), (2, v2), (9, v9), (23, v23), (24, v24), (25, v25)] H (afterK [0, 1, 2, 9, 23, 24, 25] k) = s_rows_number_b0 M.b.g M.c M.s Tryd.prog C (fun v0 v1 v2 v9 v23 v24 v25 H k => loopL M Tryd.prog hints C LP F.rows_number 0 [(0, v0), (1, v1), (2, v2), (9, v9), (23, v23), (24, v24), (25, v25)] H k) v0 v1 v2 v9 v23 v24 v25 H k := by kernel_rfl

/-! ticketline.rows.proper -/

noncomputable def s_rows_proper (mg : GT) (mc : CT) (ms : ST) (P : Program) (C : CallF) (a0 : Value) (a1 : Value) (H : AHeap) (K0 : K) : Res :=
bothK (newv T.api_Cell a0 H) fun t2 h1 =>
bareK (bldS #[(.int .i64 0), (.int .u64 0), (.int .i64 0), (.string (mk [])), (.bool false)] [(0, 1), (1, 1), (2, 1), (3, 1), (4, 1)] [(0, a1)]) h1 fun t7 h2 =>
bothK (newv T.api_Cell (.agg #[(.int .i64 0), (.int .u64 0), (.int .i64 0), (.string (mk [])), (.bool false)]) h2) fun t5 h3 =>
quietK (stN 5 h3 t5 t7) fun _ h4 =>
ms (fun k1 =>
bareK (xbin P .eql T.api_CellKind (.tmp 8) (.const (.int .i64 1)) a1 (.int .i64 1)) h4 fun t10 h5 =>
mc t10 (fun k2 => bareK (fad 1 t2) h5 fun t11 h6 =>
bareK (ld1 h6 t11) h6 fun t12 h7 =>
bareK (fad 1 t5) h7 fun t13 h8 =>
quietK (st1 h8 t13 t12) fun _ h9 =>
k2 .normal [(2, t2), (5, t5)] h9) (fun k2 =>
bareK (xbin P .eql T.api_CellKind (.tmp 8) (.const (.int .i64 2)) a1 (.int .i64 2)) h5 fun t15 h10 =>
mc t15 (fun k3 => bareK (fad 2 t2) h10 fun t16 h11 =>
bareK (ld1 h11 t16) h11 fun t17 h12 =>
bareK (fad 2 t5) h12 fun t18 h13 =>
quietK (st1 h13 t18 t17) fun _ h14 =>
k3 .normal [(2, t2), (5, t5)] h14) (fun k3 =>
bareK (xbin P .eql T.api_CellKind (.tmp 8) (.const (.int .i64 3)) a1 (.int .i64 3)) h10 fun t20 h15 =>
mc t20 (fun k4 => bareK (fad 3 t2) h15 fun t21 h16 =>
bareK (ld1 h16 t21) h16 fun t22 h17 =>
bareK (fad 3 t5) h17 fun t23 h18 =>
quietK (st1 h18 t23 t22) fun _ h19 =>
k4 .normal [(2, t2), (5, t5)] h19) (fun k4 =>
bareK (xbin P .eql T.api_CellKind (.tmp 8) (.const (.int .i64 4)) a1 (.int .i64 4)) h15 fun t25 h20 =>
mc t25 (fun k5 => bareK (fad 4 t2) h20 fun t26 h21 =>
bareK (ld1 h21 t26) h21 fun t27 h22 =>
bareK (fad 4 t5) h22 fun t28 h23 =>
quietK (st1 h23 t28 t27) fun _ h24 =>
k5 .normal [(2, t2), (5, t5)] h24) (fun k5 =>
k5 .normal [(2, t2), (5, t5)] h20) (afterK [2, 5] k4)) (afterK [2, 5] k3)) (afterK [2, 5] k2)) (blkK [2, 5] 0 k1)) (seqK (fun tT h25 =>
bareK (ldN 5 h25 (get tT 5)) h25 fun t29 h26 =>
bareK (ldN 5 h26 (get tT 2)) h26 fun t30 h27 =>
bareK (xbin P .eql T.api_Cell (.tmp 29) (.tmp 30) t29 t30) h27 fun t31 h28 =>
K0 .ret [(4, t31)] h28) K0)

theorem s_rows_proper_eq (M : CombL) (C : CallF) (LP : LoopH) (a0 : Value) (a1 : Value) (H : AHeap) : dBodyL M Tryd.prog hints C LP F.rows_proper [a0, a1] H = s_rows_proper M.b.g M.c M.s Tryd.prog C a0 a1 H (endK Tryd.prog [.tmp 4]) := by kernel_rfl

/-! ticketline.rows.put -/

noncomputable def s_rows_put (mg : GT) (mc : CT) (ms : ST) (P : Program) (C : CallF) (L0 : Value → Value → Value → Value → AHeap → K → Res) (a0 : Value) (a1 : Value) (H : AHeap) (K0 : K) : Res :=
bothK (newv T.api_Cell a1 H) fun t3 h1 =>
bareK (fad 0 t3) h1 fun t9 h2 =>
bareK (ld1 h2 t9) h2 fun t10 h3 =>
ms (fun k1 =>
bareK (xbin P .eql T.api_CellKind (.tmp 10) (.const (.int .i64 1)) t10 (.int .i64 1)) h3 fun t12 h4 =>
mc t12 (fun k2 => bareK (fad 1 t3) h4 fun t13 h5 =>
bareK (ld1 h5 t13) h5 fun t14 h6 =>
enterK C F.rows_digits [t14] h6 fun t15 h7 =>
bareK (lenS t15) h7 fun t18 h8 =>
bothK (xconv P T.int T.uint8 t18 h8) fun t19 h9 =>
bothK (bldL T.uint8 [(.int .u8 0)] 1 [(0, t19)] h9) fun t20 h10 =>
bothK (app T.uint8 1 1 a0 (srcS 1 t20 h10) h10) fun t21 h11 =>
bothK (app T.uint8 1 1 t21 (srcS 1 t15 h11) h11) fun t23 h12 =>
k2 .ret [(4, t23)] h12) (fun k2 =>
bareK (xbin P .eql T.api_CellKind (.tmp 10) (.const (.int .i64 2)) t10 (.int .i64 2)) h4 fun t25 h13 =>
mc t25 (fun k3 => bareK (fad 2 t3) h13 fun t26 h14 =>
bareK (ld1 h14 t26) h14 fun t27 h15 =>
bareK (xbin P .geq T.int (.tmp 27) (.const (.int .i64 0)) t27 (.int .i64 0)) h15 fun t28 h16 =>
mc t28 (fun k4 => bareK (fad 2 t3) h16 fun t29 h17 =>
bareK (ld1 h17 t29) h17 fun t30 h18 =>
bothK (xconv P T.int T.uint64 t30 h18) fun t31 h19 =>
enterK C F.rows_digits [t31] h19 fun t32 h20 =>
bareK (lenS t32) h20 fun t35 h21 =>
bareK (xbin P .add T.int (.const (.int .i64 128)) (.tmp 35) (.int .i64 128) t35) h21 fun t36 h22 =>
bothK (xconv P T.int T.uint8 t36 h22) fun t37 h23 =>
bothK (bldL T.uint8 [(.int .u8 0)] 1 [(0, t37)] h23) fun t38 h24 =>
bothK (app T.uint8 1 1 a0 (srcS 1 t38 h24) h24) fun t39 h25 =>
bothK (app T.uint8 1 1 t39 (srcS 1 t32 h25) h25) fun t41 h26 =>
k4 .ret [(4, t41)] h26) (fun k4 =>
k4 .normal [(0, a0), (3, t3)] h16) (seqK (fun tT h27 =>
bareK (fad 2 (get tT 3)) h27 fun t42 h28 =>
bareK (ld1 h28 t42) h28 fun t43 h29 =>
bareK (xbin P .add T.int (.tmp 43) (.const (.int .i64 1)) t43 (.int .i64 1)) h29 fun t44 h30 =>
bareK (xun P .neg t44) h30 fun t45 h31 =>
bothK (xconv P T.int T.uint64 t45 h31) fun t46 h32 =>
enterK C F.rows_digits [t46] h32 fun t47 h33 =>
bareK (lenS t47) h33 fun t49 h34 =>
ms (fun k5 =>
L0 (get tT 0) t47 t49 (.int .i64 0) h34 (blkK [0, 7] 1 k5)) (seqK (fun tT_1 h35 =>
bareK (lenS (get tT_1 7)) h35 fun t64 h36 =>
bareK (xbin P .sub T.int (.const (.int .i64 127)) (.tmp 64) (.int .i64 127) t64) h36 fun t65 h37 =>
bothK (xconv P T.int T.uint8 t65 h37) fun t66 h38 =>
bothK (bldL T.uint8 [(.int .u8 0)] 1 [(0, t66)] h38) fun t67 h39 =>
bothK (app T.uint8 1 1 (get tT_1 0) (srcS 1 t67 h39) h39) fun t68 h40 =>
bothK (app T.uint8 1 1 t68 (srcS 1 (get tT_1 7) h40) h40) fun t70 h41 =>
k3 .ret [(4, t70)] h41) (afterK [0, 3] k3))) (afterK [0, 3] k3))) (fun k3 =>
bareK (xbin P .eql T.api_CellKind (.tmp 10) (.const (.int .i64 3)) t10 (.int .i64 3)) h13 fun t72 h42 =>
mc t72 (fun k6 => bareK (fad 3 t3) h42 fun t74 h43 =>
bareK (ld1 h43 t74) h43 fun t75 h44 =>
enterK C F.strings_ReplaceAll [t75, (.string (mk [0])), (.string (mk [0, 255]))] h44 fun t76 h45 =>
bothK (app T.uint8 1 1 a0 (srcT t76) h45) fun t77 h46 =>
bothK (bldL T.uint8 [(.int .u8 0)] 2 [(0, (.int .u8 0)), (1, (.int .u8 1))] h46) fun t78 h47 =>
bothK (app T.uint8 1 1 t77 (srcS 1 t78 h47) h47) fun t79 h48 =>
k6 .ret [(4, t79)] h48) (fun k6 =>
k6 .normal [(0, a0), (3, t3)] h42) (afterK [0, 3] k3)) (afterK [0, 3] k2)) (blkK [0, 3] 0 k1)) (seqK (fun tT_2 h49 =>
bareK (fad 4 (get tT_2 3)) h49 fun t80 h50 =>
bareK (ld1 h50 t80) h50 fun t81 h51 =>
mc t81 (fun k7 => bothK (bldL T.uint8 [(.int .u8 0)] 1 [(0, (.int .u8 1))] h51) fun t83 h52 =>
bothK (app T.uint8 1 1 (get tT_2 0) (srcS 1 t83 h52) h52) fun t84 h53 =>
k7 .ret [(4, t84)] h53) (fun k7 =>
k7 .normal [(0, (get tT_2 0))] h51) (seqK (fun tT_3 h54 =>
bothK (bldL T.uint8 [(.int .u8 0)] 1 [(0, (.int .u8 0))] h54) fun t86 h55 =>
bothK (app T.uint8 1 1 (get tT_3 0) (srcS 1 t86 h55) h55) fun t87 h56 =>
K0 .ret [(4, t87)] h56) K0)) K0)

noncomputable def s_rows_put_b0 (mg : GT) (mc : CT) (ms : ST) (P : Program) (C : CallF) (L0 : Value → Value → Value → Value → AHeap → K → Res) (v0 : Value) (v7 : Value) (v49 : Value) (v50 : Value) (H : AHeap) (k : K) : Res :=
bareK (xbin P .lss T.int (.tmp 50) (.tmp 49) v50 v49) H fun t51 h35 =>
mc t51 (fun k6 => k6 .normal [(0, v0), (7, v7), (49, v49), (50, v50)] h35) (fun k6 =>
k6 (.exit 1) [(51, t51), (0, v0), (7, v7), (49, v49), (50, v50)] h35) (seqK (fun tT h36 =>
ms (fun k7 =>
bareK (ixS 1 (get tT 7) (get tT 50)) h36 fun t57 h37 =>
bareK (ld1 h37 t57) h37 fun t58 h38 =>
bareK (xbin P .sub T.uint8 (.const (.int .u8 255)) (.tmp 58) (.int .u8 255) t58) h38 fun t59 h39 =>
bareK (ixS 1 (get tT 7) (get tT 50)) h39 fun t60 h40 =>
quietK (st1 h40 t60 t59) fun _ h41 =>
k7 .normal [(0, (get tT 0)), (7, (get tT 7)), (49, (get tT 49)), (50, (get tT 50))] h41) (seqK (fun tT_1 h42 =>
bareK (xbin P .add T.int (.tmp 50) (.const (.int .i64 1)) (get tT_1 50) (.int .i64 1)) h42 fun t61 h43 =>
k .normal [(0, (get tT_1 0)), (7, (get tT_1 7)), (49, (get tT_1 49)), (50, t61)] h43) (afterK [0, 7, 49, 50] k))) (afterK [0, 7, 49, 50] k))

theorem s_rows_put_eq (M : CombL) (C : CallF) (LP : LoopH) (a0 : Value) (a1 : Value) (H : AHeap) : dBodyL M Tryd.prog hints C LP F.rows_put [a0, a1] H = s_rows_put M.b.g M.c M.s Tryd.prog C (fun v0 v7 v49 v50 H k => loopL M Tryd.prog hints C LP F.rows_put 0 [(0, v0), (7, v7), (49, v49), (50, v50)] H k) a0 a1 H (endK Tryd.prog [.tmp 4]) := by kernel_rfl

theorem s_rows_put_b0_eq (M : CombL) (C : CallF) (LP : LoopH) (v0 : Value) (v7 : Value) (v49 : Value) (v50 : Value) (H : AHeap) (k : K) : bodyL M Tryd.prog hints C LP F.rows_put 0 [(0, v0), (7, v7), (49, v49), (50, v50)] H (afterK [0, 7, 49, 50] k) = s_rows_put_b0 M.b.g M.c M.s Tryd.prog C (fun v0 v7 v49 v50 H k => loopL M Tryd.prog hints C LP F.rows_put 0 [(0, v0), (7, v7), (49, v49), (50, v50)] H k) v0 v7 v49 v50 H k := by kernel_rfl

/-! slices.Grow[[]ticketline.api.CellKind,ticketline.api.CellKind] -/

noncomputable def s_slices_Grow_CellKind (mg : GT) (mc : CT) (ms : ST) (P : Program) (C : CallF) (a0 : Value) (a1 : Value) (H : AHeap) (K0 : K) : Res :=
bareK (xbin P .lss T.int (.tmp 5) (.const (.int .i64 0)) a1 (.int .i64 0)) H fun t6 h1 =>
mc t6 (fun k1 => none) (fun k1 =>
k1 .normal [(0, a0), (1, a1)] h1) (seqK (fun tT h2 =>
nextK C h2 (xbuiltin P .cap [T.sl_api_CellKind] [(get tT 0)] h2) fun t10 h3 =>
bareK (lenS (get tT 0)) h3 fun t12 h4 =>
bareK (xbin P .sub T.int (.tmp 10) (.tmp 12) t10 t12) h4 fun t13 h5 =>
bareK (xbin P .sub T.int (.tmp 8) (.tmp 13) (get tT 1) t13) h5 fun t14 h6 =>
bareK (xbin P .gtr T.int (.tmp 15) (.const (.int .i64 0)) t14 (.int .i64 0)) h6 fun t16 h7 =>
mc t16 (fun k2 => nextK C h7 (xbuiltin P .cap [T.sl_api_CellKind] [(get tT 0)] h7) fun t19 h8 =>
bareK (slS T.api_CellKind 1 (get tT 0) none (some t19) none h8) h8 fun t20 h9 =>
bothK (app T.api_CellKind 1 8 t20 (srcZ [(.int .i64 0)] 8 t14) h9) fun t22 h10 =>
bareK (lenS (get tT 0)) h10 fun t24 h11 =>
bareK (slS T.api_CellKind 1 t22 none (some t24) none h11) h11 fun t25 h12 =>
k2 .normal [(0, t25)] h12) (fun k2 =>
k2 .normal [(0, (get tT 0))] h7) (seqK (fun tT_1 h13 =>
K0 .ret [(4, (get tT_1 0))] h13) K0)) K0)

theorem s_slices_Grow_CellKind_eq (M : CombL) (C : CallF) (LP : LoopH) (a0 : Value) (a1 : Value) (H : AHeap) : dBodyL M Tryd.prog hints C LP F.slices_Grow_CellKind [a0, a1] H = s_slices_Grow_CellKind M.b.g M.c M.s Tryd.prog C a0 a1 H (endK Tryd.prog [.tmp 4]) := by kernel_rfl

/-! slices.Insert[[]ticketline.api.Pair,ticketline.api.Pair] -/

noncomputable def s_slices_Insert_Pair (mg : GT) (mc : CT) (ms : ST) (P : Program) (C : CallF) (a0 : Value) (a1 : Value) (a2 : Value) (H : AHeap) (K0 : K) : Res :=
bareK (slS T.api_Pair 2 a0 (some a1) none none H) H fun t12 h1 =>
bareK (lenS a2) h1 fun t14 h2 =>
bareK (xbin P .eql T.int (.tmp 15) (.const (.int .i64 0)) t14 (.int .i64 0)) h2 fun t16 h3 =>
mc t16 (fun k1 => k1 .ret [(6, a0)] h3) (fun k1 =>
k1 .normal [(0, a0), (1, a1), (2, a2), (7, t14)] h3) (seqK (fun tT h4 =>
bareK (lenS (get tT 0)) h4 fun t19 h5 =>
bareK (xbin P .eql T.int (.tmp 20) (.tmp 21) (get tT 1) t19) h5 fun t22 h6 =>
mc t22 (fun k2 => bothK (app T.api_Pair 2 32 (get tT 0) (srcS 2 (get tT 2) h6) h6) fun t25 h7 =>
k2 .ret [(6, t25)] h7) (fun k2 =>
k2 .normal [(0, (get tT 0)), (1, (get tT 1)), (2, (get tT 2)), (7, (get tT 7)), (8, t19)] h6) (seqK (fun tT_1 h8 =>
bareK (xbin P .add T.int (.tmp 26) (.tmp 27) (get tT_1 8) (get tT_1 7)) h8 fun t28 h9 =>
nextK C h9 (xbuiltin P .cap [T.sl_api_Pair] [(get tT_1 0)] h9) fun t30 h10 =>
bareK (xbin P .gtr T.int (.tmp 28) (.tmp 30) t28 t30) h10 fun t31 h11 =>
mc t31 (fun k3 => bareK (slS T.api_Pair 2 (get tT_1 0) none (some (get tT_1 1)) none h11) h11 fun t34 h12 =>
bareK (xbin P .add T.int (.tmp 35) (.tmp 36) (get tT_1 8) (get tT_1 7)) h12 fun t37 h13 =>
bareK (xbin P .sub T.int (.tmp 37) (.tmp 38) t37 (get tT_1 1)) h13 fun t39 h14 =>
bothK (app T.api_Pair 2 32 t34 (srcZ [(.string (mk [])), (.string (mk []))] 32 t39) h14) fun t40 h15 =>
bareK (slS T.api_Pair 2 t40 (some (get tT_1 1)) none none h15) h15 fun t43 h16 =>
bothK (cpy 2 t43 (get tT_1 2) h16) fun t45 h17 =>
bareK (xbin P .add T.int (.tmp 47) (.tmp 48) (get tT_1 1) (get tT_1 7)) h17 fun t49 h18 =>
bareK (slS T.api_Pair 2 t40 (some t49) none none h18) h18 fun t50 h19 =>
bareK (slS T.api_Pair 2 (get tT_1 0) (some (get tT_1 1)) none none h19) h19 fun t53 h20 =>
bothK (cpy 2 t50 t53 h20) fun t54 h21 =>
checkK true <|
k3 .ret [(6, t40)] h21) (fun k3 =>
k3 .normal [(0, (get tT_1 0)), (1, (get tT_1 1)), (2, (get tT_1 2)), (7, (get tT_1 7)), (8, (get tT_1 8))] h11) (seqK (fun tT_2 h22 =>
bareK (xbin P .add T.int (.tmp 57) (.tmp 58) (get tT_2 8) (get tT_2 7)) h22 fun t59 h23 =>
bareK (slS T.api_Pair 2 (get tT_2 0) none (some t59) none h23) h23 fun t60 h24 =>
bareK (xbin P .add T.int (.tmp 63) (.tmp 64) (get tT_2 1) (get tT_2 7)) h24 fun t65 h25 =>
bareK (slS T.api_Pair 2 t60 (some t65) none none h25) h25 fun t66 h26 =>
bareK (xext P Tryd.f74 [(get tT_2 2), t66] h26) h26 fun t67 h27 =>
bareK (xun P .not t67) h27 fun t68 h28 =>
mc t68 (fun k4 => bareK (xbin P .add T.int (.tmp 70) (.tmp 71) (get tT_2 1) (get tT_2 7)) h28 fun t72 h29 =>
bareK (slS T.api_Pair 2 t60 (some t72) none none h29) h29 fun t73 h30 =>
bareK (slS T.api_Pair 2 t60 (some (get tT_2 1)) none none h30) h30 fun t76 h31 =>
bothK (cpy 2 t73 t76 h31) fun t77 h32 =>
checkK true <|
bareK (slS T.api_Pair 2 t60 (some (get tT_2 1)) none none h32) h32 fun t80 h33 =>
bothK (cpy 2 t80 (get tT_2 2) h33) fun t82 h34 =>
k4 .ret [(6, t60)] h34) (fun k4 =>
k4 .normal [(0, t60), (1, (get tT_2 1)), (2, (get tT_2 2)), (7, (get tT_2 7)), (8, (get tT_2 8))] h28) (seqK (fun tT_3 h35 =>
bareK (slS T.api_Pair 2 (get tT_3 0) (some (get tT_3 8)) none none h35) h35 fun t86 h36 =>
bothK (cpy 2 t86 (get tT_3 2) h36) fun t88 h37 =>
bareK (slS T.api_Pair 2 (get tT_3 0) (some (get tT_3 1)) none none h37) h37 fun t91 h38 =>
enterK C F.slices_rotateRight_Pair [t91, (get tT_3 7)] h38 fun t93 h39 =>
K0 .ret [(6, (get tT_3 0))] h39) K0)) K0)) K0)) K0)

theorem s_slices_Insert_Pair_eq (M : CombL) (C : CallF) (LP : LoopH) (a0 : Value) (a1 : Value) (a2 : Value) (H : AHeap) : dBodyL M Tryd.prog hints C LP F.slices_Insert_Pair [a0, a1, a2] H = s_slices_Insert_Pair M.b.g M.c M.s Tryd.prog C a0 a1 a2 H (endK Tryd.prog [.tmp 6]) := by kernel_rfl

/-! strings.Compare -/

noncomputable def s_strings_Compare (mg : GT) (mc : CT) (ms : ST) (P : Program) (C : CallF) (a0 : Value) (a1 : Value) (H : AHeap) (K0 : K) : Res :=
enterK C F.internal_bytealg_CompareString [a0, a1] H fun t7 h1 =>
K0 .ret [(4, t7)] h1

theorem s_strings_Compare_eq (M : CombL) (C : CallF) (LP : LoopH) (a0 : Value) (a1 : Value) (H : AHeap) : dBodyL M Tryd.prog hints C LP F.strings_Compare [a0, a1] H = s_strings_Compare M.b.g M.c M.s Tryd.prog C a0 a1 H (endK Tryd.prog [.tmp 4]) := by kernel_rfl

/-! slices.ContainsFunc[[]string,string] -/

noncomputable def s_slices_ContainsFunc_string (mg : GT) (mc : CT) (ms : ST) (P : Program) (C : CallF) (a0 : Value) (a1 : Value) (H : AHeap) (K0 : K) : Res :=
enterK C F.slices_IndexFunc_string [a0, a1] H fun t7 h1 =>
bareK (xbin P .geq T.int (.tmp 7) (.const (.int .i64 0)) t7 (.int .i64 0)) h1 fun t8 h2 =>
K0 .ret [(4, t8)] h2

theorem s_slices_ContainsFunc_string_eq (M : CombL) (C : CallF) (LP : LoopH) (a0 : Value) (a1 : Value) (H : AHeap) : dBodyL M Tryd.prog hints C LP F.slices_ContainsFunc_string [a0, a1] H = s_slices_ContainsFunc_string M.b.g M.c M.s Tryd.prog C a0 a1 H (endK Tryd.prog [.tmp 4]) := by kernel_rfl

/-! ticketline.model.check$1 -/

noncomputable def s_model_check_1 (mg : GT) (mc : CT) (ms : ST) (P : Program) (C : CallF) (a0 : Value) (H : AHeap) (K0 : K) : Res :=
bareK (lenT a0) H fun t4 h1 =>
bareK (xbin P .gtr T.int (.tmp 4) (.const (.int .i64 40)) t4 (.int .i64 40)) h1 fun t5 h2 =>
K0 .ret [(2, t5)] h2

theorem s_model_check_1_eq (M : CombL) (C : CallF) (LP : LoopH) (a0 : Value) (H : AHeap) : dBodyL M Tryd.prog hints C LP F.model_check_1 [a0] H = s_model_check_1 M.b.g M.c M.s Tryd.prog C a0 H (endK Tryd.prog [.tmp 2]) := by kernel_rfl

/-! slices.IndexFunc[[]ticketline.api.CellKind,ticketline.api.CellKind] -/

noncomputable def s_slices_IndexFunc_CellKind (mg : GT) (mc : CT) (ms : ST) (P : Program) (C : CallF) (L0 : Value → Value → Value → Value → AHeap → K → Res) (a0 : Value) (a1 : Value) (H : AHeap) (K0 : K) : Res :=
bareK (lenS a0) H fun t7 h1 =>
ms (fun k1 =>
L0 a0 a1 t7 (.int .i64 0) h1 (blkK [] 0 k1)) (seqK (fun tT h2 =>
K0 .ret [(4, (.int .i64 (-1)))] h2) K0)

noncomputable def s_slices_IndexFunc_CellKind_b0 (mg : GT) (mc : CT) (ms : ST) (P : Program) (C : CallF) (L0 : Value → Value → Value → Value → AHeap → K → Res) (v0 : Value) (v1 : Value) (v7 : Value) (v8 : Value) (H : AHeap) (k : K) : Res :=
bareK (xbin P .lss T.int (.tmp 8) (.tmp 7) v8 v7) H fun t9 h2 =>
mc t9 (fun k2 => k2 .normal [(0, v0), (1, v1), (7, v7), (8, v8)] h2) (fun k2 =>
k2 (.exit 0) [(9, t9), (0, v0), (1, v1), (7, v7), (8, v8)] h2) (seqK (fun tT h3 =>
ms (fun k3 =>
bareK (ixS 1 (get tT 0) (get tT 8)) h3 fun t14 h4 =>
bareK (ld1 h4 t14) h4 fun t15 h5 =>
callK P C (get tT 1) [t15] h5 fun t16 h6 =>
mc t16 (fun k4 => k4 .ret [(4, (get tT 8))] h6) (fun k4 =>
k4 .normal [(0, (get tT 0)), (1, (get tT 1)), (7, (get tT 7)), (8, (get tT 8))] h6) (blkK [0, 1, 7, 8] 1 k3)) (seqK (fun tT_1 h7 =>
bareK (xbin P .add T.int (.tmp 8) (.const (.int .i64 1)) (get tT_1 8) (.int .i64 1)) h7 fun t18 h8 =>
k .normal [(0, (get tT_1 0)), (1, (get tT_1 1)), (7, (get tT_1 7)), (8, t18)] h8) (afterK [0, 1, 7, 8] k))) (afterK [0, 1, 7, 8] k))

theorem s_slices_IndexFunc_CellKind_eq (M : CombL) (C : CallF) (LP : LoopH) (a0 : Value) (a1 : Value) (H : AHeap) : dBodyL M Tryd.prog hints C LP F.slices_IndexFunc_CellKind [a0, a1] H = s_slices_IndexFunc_CellKind M.b.g M.c M.s Tryd.prog C (fun v0 v1 v7 v8 H k => loopL M Tryd.prog hints C LP F.slices_IndexFunc_CellKind 0 [(0, v0), (1, v1), (7, v7), (8, v8)] H k) a0 a1 H (endK Tryd.prog [.tmp 4]) := by kernel_rfl

theorem s_slices_IndexFunc_CellKind_b0_eq (M : CombL) (C : CallF) (LP : LoopH) (v0 : Value) (v1 : Value) (v7 : Value) (v8 : Value) (H : AHeap) (k : K) : bodyL M Tryd.prog hints C LP F.slices_IndexFunc_CellKind 0 [(0, v0), (1, v1), (7, v7), (8, v8)] H (afterK [0, 1, 7, 8] k) = s_slices_IndexFunc_CellKind_b0 M.b.g M.c M.s Tryd.prog C (fun v0 v1 v7 v8 H k => loopL M Tryd.prog hints C LP F.slices_IndexFunc_CellKind 0 [(0, v0), (1, v1), (7, v7), (8, v8)] H k) v0 v1 v7 v8 H k := by kernel_rfl

/-! ticketline.rows.digits -/

noncomputable def s_rows_digits (mg : GT) (mc : CT) (ms : ST) (P : Program) (C : CallF) (L0 : Value → Value → AHeap → K → Res) (a0 : Value) (H : AHeap) (K0 : K) : Res :=
ms (fun k1 =>
L0 a0 (.slice none 0 0) H (blkK [3] 0 k1)) (seqK (fun tT h1 =>
enterK C F.slices_Reverse_byte [(get tT 3)] h1 fun t14 h2 =>
K0 .ret [(2, (get tT 3))] h2) K0)

noncomputable def s_rows_digits_b0 (mg : GT) (mc : CT) (ms : ST) (P : Program) (C : CallF) (L0 : Value → Value → AHeap → K → Res) (v0 : Value) (v3 : Value) (H : AHeap) (k : K) : Res :=
bareK (xbin P .gtr T.uint64 (.tmp 4) (.const (.int .u64 0)) v0 (.int .u64 0)) H fun t5 h1 =>
mc t5 (fun k2 => k2 .normal [(0, v0), (3, v3)] h1) (fun k2 =>
k2 (.exit 0) [(5, t5), (4, v0), (0, v0), (3, v3)] h1) (seqK (fun tT h2 =>
ms (fun k3 =>
bothK (xconv P T.uint64 T.uint8 (get tT 0) h2) fun t10 h3 =>
bothK (bldL T.uint8 [(.int .u8 0)] 1 [(0, t10)] h3) fun t11 h4 =>
bothK (app T.uint8 1 1 (get tT 3) (srcS 1 t11 h4) h4) fun t12 h5 =>
k3 .normal [(0, (get tT 0)), (3, t12)] h5) (seqK (fun tT_1 h6 =>
bareK (xbin P .shr T.uint64 (.tmp 6) (.const (.int .u64 8)) (get tT_1 0) (.int .u64 8)) h6 fun t7 h7 =>
k .normal [(0, t7), (3, (get tT_1 3))] h7) (afterK [0, 3] k))) (afterK [0, 3] k))

theorem s_rows_digits_eq (M : CombL) (C : CallF) (LP : LoopH) (a0 : Value) (H : AHeap) : dBodyL M Tryd.prog hints C LP F.rows_digits [a0] H = s_rows_digits M.b.g M.c M.s Tryd.prog C (fun v0 v3 H k => loopL M Tryd.prog hints C LP F.rows_digits 0 [(0, v0), (3, v3)] H k) a0 H (endK Tryd.prog [.tmp 2]) := by kernel_rfl

theorem s_rows_digits_b0_eq (M : CombL) (C : CallF) (LP : LoopH) (v0 : Value) (v3 : Value) (H : AHeap) (k : K) : bodyL M Tryd.prog hints C LP F.rows_digits 0 [(0, v0), (3, v3)] H (afterK [0, 3] k) = s_rows_digits_b0 M.b.g M.c M.s Tryd.prog C (fun v0 v3 H k => loopL M Tryd.prog hints C LP F.rows_digits 0 [(0, v0), (3, v3)] H k) v0 v3 H k := by kernel_rfl

/-! internal.bytealg.CompareString -/

noncomputable def s_internal_bytealg_CompareString (mg : GT) (mc : CT) (ms : ST) (P : Program) (C : CallF) (a0 : Value) (a1 : Value) (H : AHeap) (K0 : K) : Res :=
bareK (xext P Tryd.f89 [a0, a1] H) H fun t7 h1 =>
K0 .ret [(4, t7)] h1

theorem s_internal_bytealg_CompareString_eq (M : CombL) (C : CallF) (LP : LoopH) (a0 : Value) (a1 : Value) (H : AHeap) : dBodyL M Tryd.prog hints C LP F.internal_bytealg_CompareString [a0, a1] H = s_internal_bytealg_CompareString M.b.g M.c M.s Tryd.prog C a0 a1 H (endK Tryd.prog [.tmp 4]) := by kernel_rfl

/-! slices.IndexFunc[[]string,string] -/

noncomputable def s_slices_IndexFunc_string (mg : GT) (mc : CT) (ms : ST) (P : Program) (C : CallF) (L0 : Value → Value → Value → Value → AHeap → K → Res) (a0 : Value) (a1 : Value) (H : AHeap) (K0 : K) : Res :=
bareK (lenS a0) H fun t7 h1 =>
ms (fun k1 =>
L0 a0 a1 t7 (.int .i64 0) h1 (blkK [] 0 k1)) (seqK (fun tT h2 =>
K0 .ret [(4, (.int .i64 (-1)))] h2) K0)

noncomputable def s_slices_IndexFunc_string_b0 (mg : GT) (mc : CT) (ms : ST) (P : Program) (C : CallF) (L0 : Value → Value → Value → Value → AHeap → K → Res) (v0 : Value) (v1 : Value) (v7 : Value) (v8 : Value) (H : AHeap) (k : K) : Res :=
bareK (xbin P .lss T.int (.tmp 8) (.tmp 7) v8 v7) H fun t9 h2 =>
mc t9 (fun k2 => k2 .normal [(0, v0), (1, v1), (7, v7), (8, v8)] h2) (fun k2 =>
k2 (.exit 0) [(9, t9), (0, v0), (1, v1), (7, v7), (8, v8)] h2) (seqK (fun tT h3 =>
ms (fun k3 =>
bareK (ixS 1 (get tT 0) (get tT 8)) h3 fun t14 h4 =>
bareK (ld1 h4 t14) h4 fun t15 h5 =>
callK P C (get tT 1) [t15] h5 fun t16 h6 =>
mc t16 (fun k4 => k4 .ret [(4, (get tT 8))] h6) (fun k4 =>
k4 .normal [(0, (get tT 0)), (1, (get tT 1)), (7, (get tT 7)), (8, (get tT 8))] h6) (blkK [0, 1, 7, 8] 1 k3)) (seqK (fun tT_1 h7 =>
bareK (xbin P .add T.int (.tmp 8) (.const (.int .i64 1)) (get tT_1 8) (.int .i64 1)) h7 fun t18 h8 =>
k .normal [(0, (get tT_1 0)), (1, (get tT_1 1)), (7, (get tT_1 7)), (8, t18)] h8) (afterK [0, 1, 7, 8] k))) (afterK [0, 1, 7, 8] k))

theorem s_slices_IndexFunc_string_eq (M : CombL) (C : CallF) (LP : LoopH) (a0 : Value) (a1 : Value) (H : AHeap) : dBodyL M Tryd.prog hints C LP F.slices_IndexFunc_string [a0, a1] H = s_slices_IndexFunc_string M.b.g M.c M.s Tryd.prog C (fun v0 v1 v7 v8 H k => loopL M Tryd.prog hints C LP F.slices_IndexFunc_string 0 [(0, v0), (1, v1), (7, v7), (8, v8)] H k) a0 a1 H (endK Tryd.prog [.tmp 4]) := by kernel_rfl

theorem s_slices_IndexFunc_string_b0_eq (M : CombL) (C : CallF) (LP : LoopH) (v0 : Value) (v1 : Value) (v7 : Value) (v8 : Value) (H : AHeap) (k : K) : bodyL M Tryd.prog hints C LP F.slices_IndexFunc_string 0 [(0, v0), (1, v1), (7, v7), (8, v8)] H (afterK [0, 1, 7, 8] k) = s_slices_IndexFunc_string_b0 M.b.g M.c M.s Tryd.prog C (fun v0 v1 v7 v8 H k => loopL M Tryd.prog hints C LP F.slices_IndexFunc_string 0 [(0, v0), (1, v1), (7, v7), (8, v8)] H k) v0 v1 v7 v8 H k := by kernel_rfl

/-! slices.Reverse[[]byte,byte] -/

noncomputable def s_slices_Reverse_byte (mg : GT) (mc : CT) (ms : ST) (P : Program) (C : CallF) (L0 : Value → Value → Value → AHeap → K → Res) (a0 : Value) (H : AHeap) (K0 : K) : Res :=
bareK (lenS a0) H fun t5 h1 =>
bareK (xbin P .sub T.int (.tmp 5) (.const (.int .i64 1)) t5 (.int .i64 1)) h1 fun t6 h2 =>
ms (fun k1 =>
L0 a0 (.int .i64 0) t6 h2 (blkK [] 0 k1)) K0

noncomputable def s_slices_Reverse_byte_b0 (mg : GT) (mc : CT) (ms : ST) (P : Program) (C : CallF) (L0 : Value → Value → Value → AHeap → K → Res) (v0 : Value) (v2 : Value) (v3 : Value) (H : AHeap) (k : K) : Res :=
bareK (xbin P .lss T.int (.tmp 7) (.tmp 8) v2 v3) H fun t9 h3 =>
mc t9 (fun k2 => k2 .normal [(0, v0), (2, v2), (3, v3)] h3) (fun k2 =>
k2 (.exit 0) [(9, t9), (8, v3), (7, v2), (0, v0), (2, v2), (3, v3)] h3) (seqK (fun tT h4 =>
ms (fun k3 =>
bareK (ixS 1 (get tT 0) (get tT 3)) h4 fun t20 h5 =>
bareK (ld1 h5 t20) h5 fun t21 h6 =>
bareK (ixS 1 (get tT 0) (get tT 2)) h6 fun t24 h7 =>
bareK (ld1 h7 t24) h7 fun t25 h8 =>
bareK (ixS 1 (get tT 0) (get tT 2)) h8 fun t26 h9 =>
quietK (st1 h9 t26 t21) fun _ h10 =>
bareK (ixS 1 (get tT 0) (get tT 3)) h10 fun t27 h11 =>
quietK (st1 h11 t27 t25) fun _ h12 =>
checkK (okV (some true) none h9 h10 h4 h4 && (okV (some true) none h9 h10 h4 h4 && true)) <|
k3 .normal [(0, (get tT 0)), (2, (get tT 2)), (3, (get tT 3))] h12) (seqK (fun tT_1 h13 =>
bareK (xbin P .add T.int (.tmp 10) (.const (.int .i64 1)) (get tT_1 2) (.int .i64 1)) h13 fun t11 h14 =>
bareK (xbin P .sub T.int (.tmp 12) (.const (.int .i64 1)) (get tT_1 3) (.int .i64 1)) h14 fun t13 h15 =>
k .normal [(0, (get tT_1 0)), (2, t11), (3, t13)] h15) (afterK [0, 2, 3] k))) (afterK [0, 2, 3] k))

theorem s_slices_Reverse_byte_eq (M : CombL) (C : CallF) (LP : LoopH) (a0 : Value) (H : AHeap) : dBodyL M Tryd.prog hints C LP F.slices_Reverse_byte [a0] H = s_slices_Reverse_byte M.b.g M.c M.s Tryd.prog C (fun v0 v2 v3 H k => loopL M Tryd.prog hints C LP F.slices_Reverse_byte 0 [(0, v0), (2, v2), (3, v3)] H k) a0 H (endK Tryd.prog []) := by kernel_rfl

theorem s_slices_Reverse_byte_b0_eq (M : CombL) (C : CallF) (LP : LoopH) (v0 : Value) (v2 : Value) (v3 : Value) (H : AHeap) (k : K) : bodyL M Tryd.prog hints C LP F.slices_Reverse_byte 0 [(0, v0), (2, v2), (3, v3)] H (afterK [0, 2, 3] k) = s_slices_Reverse_byte_b0 M.b.g M.c M.s Tryd.prog C (fun v0 v2 v3 H k => loopL M Tryd.prog hints C LP F.slices_Reverse_byte 0 [(0, v0), (2, v2), (3, v3)] H k) v0 v2 v3 H k := by kernel_rfl



end Go.Proofs.YtmiinbhnfojnbaaDoor

/-
  The equations of the seat's functions over calls in the limit (a program of ours printed it).
  Conditions: none. By an AI agent.
-/
set_option linter.unusedVariables false
namespace Go.Proofs.YtmiinbhnfojnbaaDoor
open Go Eng

@[go_sem] theorem x_int_uint8 {n : Int} {H : AHeap} : xconv Tryd.prog T.int T.uint8 (.int .i64 n) H = some (.int .u8 (IntKind.wrap .u8 n), H) := xconv_int (P := Tryd.prog) (s := 3) (t := 5) Tryd.underlying3 Tryd.underlying5
@[go_sem] theorem x_int_uint64 {n : Int} {H : AHeap} : xconv Tryd.prog T.int T.uint64 (.int .i64 n) H = some (.int .u64 (IntKind.wrap .u64 n), H) := xconv_int (P := Tryd.prog) (s := 3) (t := 66) Tryd.underlying3 Tryd.underlying66
@[go_sem] theorem x_int_uint {n : Int} {H : AHeap} : xconv Tryd.prog T.int T.uint (.int .i64 n) H = some (.int .u64 (IntKind.wrap .u64 n), H) := xconv_int (P := Tryd.prog) (s := 3) (t := 120) Tryd.underlying3 Tryd.underlying120
@[go_sem] theorem x_uint8_int {n : Int} {H : AHeap} : xconv Tryd.prog T.uint8 T.int (.int .u8 n) H = some (.int .i64 (IntKind.wrap .i64 n), H) := xconv_int (P := Tryd.prog) (s := 5) (t := 3) Tryd.underlying5 Tryd.underlying3
@[go_sem] theorem x_uint8_int32 {n : Int} {H : AHeap} : xconv Tryd.prog T.uint8 T.int32 (.int .u8 n) H = some (.int .i32 (IntKind.wrap .i32 n), H) := xconv_int (P := Tryd.prog) (s := 5) (t := 21) Tryd.underlying5 Tryd.underlying21
@[go_sem] theorem x_uint8_uint64 {n : Int} {H : AHeap} : xconv Tryd.prog T.uint8 T.uint64 (.int .u8 n) H = some (.int .u64 (IntKind.wrap .u64 n), H) := xconv_int (P := Tryd.prog) (s := 5) (t := 66) Tryd.underlying5 Tryd.underlying66
@[go_sem] theorem x_uint8_uint32 {n : Int} {H : AHeap} : xconv Tryd.prog T.uint8 T.uint32 (.int .u8 n) H = some (.int .u32 (IntKind.wrap .u32 n), H) := xconv_int (P := Tryd.prog) (s := 5) (t := 143) Tryd.underlying5 Tryd.underlying143
@[go_sem] theorem x_uint64_int {n : Int} {H : AHeap} : xconv Tryd.prog T.uint64 T.int (.int .u64 n) H = some (.int .i64 (IntKind.wrap .i64 n), H) := xconv_int (P := Tryd.prog) (s := 66) (t := 3) Tryd.underlying66 Tryd.underlying3
@[go_sem] theorem x_uint64_uint8 {n : Int} {H : AHeap} : xconv Tryd.prog T.uint64 T.uint8 (.int .u64 n) H = some (.int .u8 (IntKind.wrap .u8 n), H) := xconv_int (P := Tryd.prog) (s := 66) (t := 5) Tryd.underlying66 Tryd.underlying5
@[go_sem] theorem x_uint64_api_JobState {n : Int} {H : AHeap} : xconv Tryd.prog T.uint64 T.api_JobState (.int .u64 n) H = some (.int .i64 (IntKind.wrap .i64 n), H) := xconv_int (P := Tryd.prog) (s := 66) (t := 29) Tryd.underlying66 Tryd.underlying29
@[go_sem] theorem x_uint_int {n : Int} {H : AHeap} : xconv Tryd.prog T.uint T.int (.int .u64 n) H = some (.int .i64 (IntKind.wrap .i64 n), H) := xconv_int (P := Tryd.prog) (s := 120) (t := 3) Tryd.underlying120 Tryd.underlying3
theorem c_model_Model_place {call : CallF} {x c : Array Value} {args : List Value} {H : AHeap} {k : Value → AHeap → Res} : callK Tryd.prog call (.func (.func F.model_Model_place) x c) args H k = enterK call F.model_Model_place (x.toList ++ args ++ c.toList) H k := by kernel_rfl
theorem c_model_Model_place_1 {call : CallF} {x c : Array Value} {args : List Value} {H : AHeap} {k : Value → AHeap → Res} : callK Tryd.prog call (.func (.func F.model_Model_place_1) x c) args H k = enterK call F.model_Model_place_1 (x.toList ++ args ++ c.toList) H k := by kernel_rfl
theorem c_rows_Valid_1 {call : CallF} {x c : Array Value} {args : List Value} {H : AHeap} {k : Value → AHeap → Res} : callK Tryd.prog call (.func (.func F.rows_Valid_1) x c) args H k = enterK call F.rows_Valid_1 (x.toList ++ args ++ c.toList) H k := by kernel_rfl
theorem c_model_check_1 {call : CallF} {x c : Array Value} {args : List Value} {H : AHeap} {k : Value → AHeap → Res} : callK Tryd.prog call (.func (.func F.model_check_1) x c) args H k = enterK call F.model_check_1 (x.toList ++ args ++ c.toList) H k := by kernel_rfl

theorem d_law_known (H : AHeap) {r : Value × AHeap} (h : s_law_known guardK condL shareL Tryd.prog CC H (endK Tryd.prog [.tmp 0]) = some r) : CC F.law_known [] H = some (tidy H r) := D_body (by kernel_rfl) ((s_law_known_eq stdL CC limLP H).trans (Eq.trans (show s_law_known stdL.b.g stdL.c stdL.s Tryd.prog CC H (endK Tryd.prog [.tmp 0]) = s_law_known guardK condL shareL Tryd.prog CC H (endK Tryd.prog [.tmp 0]) by kernel_rfl) h))

theorem d_jobs_New (a0 : Value) (H : AHeap) {r : Value × AHeap} (h : s_jobs_New guardK condL shareL Tryd.prog CC a0 H (endK Tryd.prog [.tmp 2, .tmp 3]) = some r) : CC F.jobs_New [a0] H = some (tidy H r) := D_body (by kernel_rfl) ((s_jobs_New_eq stdL CC limLP a0 H).trans (Eq.trans (show s_jobs_New stdL.b.g stdL.c stdL.s Tryd.prog CC a0 H (endK Tryd.prog [.tmp 2, .tmp 3]) = s_jobs_New guardK condL shareL Tryd.prog CC a0 H (endK Tryd.prog [.tmp 2, .tmp 3]) by kernel_rfl) h))

theorem d_law_puts (a0 : Value) (a1 : Value) (a2 : Value) (a3 : Value) (a4 : Value) (H : AHeap) {r : Value × AHeap} (h : s_law_puts guardK condL shareL Tryd.prog CC a0 a1 a2 a3 a4 H (endK Tryd.prog [.tmp 10]) = some r) : CC F.law_puts [a0, a1, a2, a3, a4] H = some (tidy H r) := D_body (by kernel_rfl) ((s_law_puts_eq stdL CC limLP a0 a1 a2 a3 a4 H).trans (Eq.trans (show s_law_puts stdL.b.g stdL.c stdL.s Tryd.prog CC a0 a1 a2 a3 a4 H (endK Tryd.prog [.tmp 10]) = s_law_puts guardK condL shareL Tryd.prog CC a0 a1 a2 a3 a4 H (endK Tryd.prog [.tmp 10]) by kernel_rfl) h))

theorem d_law_takes (a0 : Value) (a1 : Value) (a2 : Value) (a3 : Value) (a4 : Value) (H : AHeap) {r : Value × AHeap} (h : s_law_takes guardK condL shareL Tryd.prog CC a0 a1 a2 a3 a4 H (endK Tryd.prog [.tmp 10]) = some r) : CC F.law_takes [a0, a1, a2, a3, a4] H = some (tidy H r) := D_body (by kernel_rfl) ((s_law_takes_eq stdL CC limLP a0 a1 a2 a3 a4 H).trans (Eq.trans (show s_law_takes stdL.b.g stdL.c stdL.s Tryd.prog CC a0 a1 a2 a3 a4 H (endK Tryd.prog [.tmp 10]) = s_law_takes guardK condL shareL Tryd.prog CC a0 a1 a2 a3 a4 H (endK Tryd.prog [.tmp 10]) by kernel_rfl) h))

theorem d_jobs_Queue_Back (a0 : Value) (a1 : Value) (a2 : Value) (H : AHeap) {r : Value × AHeap} (h : s_jobs_Queue_Back guardK condL shareL Tryd.prog CC a0 a1 a2 H (endK Tryd.prog [.tmp 6]) = some r) : CC F.jobs_Queue_Back [a0, a1, a2] H = some (tidy H r) := D_body (by kernel_rfl) ((s_jobs_Queue_Back_eq stdL CC limLP a0 a1 a2 H).trans (Eq.trans (show s_jobs_Queue_Back stdL.b.g stdL.c stdL.s Tryd.prog CC a0 a1 a2 H (endK Tryd.prog [.tmp 6]) = s_jobs_Queue_Back guardK condL shareL Tryd.prog CC a0 a1 a2 H (endK Tryd.prog [.tmp 6]) by kernel_rfl) h))

theorem d_law_gets (a0 : Value) (a1 : Value) (a2 : Value) (a3 : Value) (H : AHeap) {r : Value × AHeap} (h : s_law_gets guardK condL shareL Tryd.prog CC a0 a1 a2 a3 H (endK Tryd.prog [.tmp 8]) = some r) : CC F.law_gets [a0, a1, a2, a3] H = some (tidy H r) := D_body (by kernel_rfl) ((s_law_gets_eq stdL CC limLP a0 a1 a2 a3 H).trans (Eq.trans (show s_law_gets stdL.b.g stdL.c stdL.s Tryd.prog CC a0 a1 a2 a3 H (endK Tryd.prog [.tmp 8]) = s_law_gets guardK condL shareL Tryd.prog CC a0 a1 a2 a3 H (endK Tryd.prog [.tmp 8]) by kernel_rfl) h))

theorem d_jobs_Queue_Jobs (a0 : Value) (H : AHeap) {r : Value × AHeap} (h : s_jobs_Queue_Jobs guardK condL shareL Tryd.prog CC a0 H (endK Tryd.prog [.tmp 2]) = some r) : CC F.jobs_Queue_Jobs [a0] H = some (tidy H r) := D_body (by kernel_rfl) ((s_jobs_Queue_Jobs_eq stdL CC limLP a0 H).trans (Eq.trans (show s_jobs_Queue_Jobs stdL.b.g stdL.c stdL.s Tryd.prog CC a0 H (endK Tryd.prog [.tmp 2]) = s_jobs_Queue_Jobs guardK condL shareL Tryd.prog CC a0 H (endK Tryd.prog [.tmp 2]) by kernel_rfl) h))

theorem d_jobs_Queue_Put (a0 : Value) (a1 : Value) (a2 : Value) (H : AHeap) {r : Value × AHeap} (h : s_jobs_Queue_Put guardK condL shareL Tryd.prog CC a0 a1 a2 H (endK Tryd.prog [.tmp 6, .tmp 7]) = some r) : CC F.jobs_Queue_Put [a0, a1, a2] H = some (tidy H r) := D_body (by kernel_rfl) ((s_jobs_Queue_Put_eq stdL CC limLP a0 a1 a2 H).trans (Eq.trans (show s_jobs_Queue_Put stdL.b.g stdL.c stdL.s Tryd.prog CC a0 a1 a2 H (endK Tryd.prog [.tmp 6, .tmp 7]) = s_jobs_Queue_Put guardK condL shareL Tryd.prog CC a0 a1 a2 H (endK Tryd.prog [.tmp 6, .tmp 7]) by kernel_rfl) h))

theorem d_jobs_Queue_Take (a0 : Value) (a1 : Value) (a2 : Value) (H : AHeap) {r : Value × AHeap} (h : s_jobs_Queue_Take guardK condL shareL Tryd.prog CC a0 a1 a2 H (endK Tryd.prog [.cell 6 T.api_Job, .tmp 7]) = some r) : CC F.jobs_Queue_Take [a0, a1, a2] H = some (tidy H r) := D_body (by kernel_rfl) ((s_jobs_Queue_Take_eq stdL CC limLP a0 a1 a2 H).trans (Eq.trans (show s_jobs_Queue_Take stdL.b.g stdL.c stdL.s Tryd.prog CC a0 a1 a2 H (endK Tryd.prog [.cell 6 T.api_Job, .tmp 7]) = s_jobs_Queue_Take guardK condL shareL Tryd.prog CC a0 a1 a2 H (endK Tryd.prog [.cell 6 T.api_Job, .tmp 7]) by kernel_rfl) h))

theorem d_jobs_Queue_Finish (a0 : Value) (a1 : Value) (a2 : Value) (H : AHeap) {r : Value × AHeap} (h : s_jobs_Queue_Finish guardK condL shareL Tryd.prog CC a0 a1 a2 H (endK Tryd.prog [.tmp 6]) = some r) : CC F.jobs_Queue_Finish [a0, a1, a2] H = some (tidy H r) := D_body (by kernel_rfl) ((s_jobs_Queue_Finish_eq stdL CC limLP a0 a1 a2 H).trans (Eq.trans (show s_jobs_Queue_Finish stdL.b.g stdL.c stdL.s Tryd.prog CC a0 a1 a2 H (endK Tryd.prog [.tmp 6]) = s_jobs_Queue_Finish guardK condL shareL Tryd.prog CC a0 a1 a2 H (endK Tryd.prog [.tmp 6]) by kernel_rfl) h))

theorem d_jobs_Queue_Revive (a0 : Value) (a1 : Value) (H : AHeap) {r : Value × AHeap} (h : s_jobs_Queue_Revive guardK condL shareL Tryd.prog CC a0 a1 H (endK Tryd.prog [.tmp 4]) = some r) : CC F.jobs_Queue_Revive [a0, a1] H = some (tidy H r) := D_body (by kernel_rfl) ((s_jobs_Queue_Revive_eq stdL CC limLP a0 a1 H).trans (Eq.trans (show s_jobs_Queue_Revive stdL.b.g stdL.c stdL.s Tryd.prog CC a0 a1 H (endK Tryd.prog [.tmp 4]) = s_jobs_Queue_Revive guardK condL shareL Tryd.prog CC a0 a1 H (endK Tryd.prog [.tmp 4]) by kernel_rfl) h))

noncomputable def l_jobs_Queue_Pass_0 (v0 : Value) (v1 : Value) (v32 : Value) (v33 : Value) (v34 : Value) (H : AHeap) (k : K) : Res := loopL stdL Tryd.prog hints CC limLP F.jobs_Queue_Pass 0 [(0, v0), (1, v1), (32, v32), (33, v33), (34, v34)] H k
theorem r_jobs_Queue_Pass_0 (v0 : Value) (v1 : Value) (v32 : Value) (v33 : Value) (v34 : Value) (H : AHeap) (k : K) : l_jobs_Queue_Pass_0 v0 v1 v32 v33 v34 H k = s_jobs_Queue_Pass_b0 guardK condL shareL Tryd.prog CC l_jobs_Queue_Pass_0 v0 v1 v32 v33 v34 H (seqK (fun T H => l_jobs_Queue_Pass_0 (get T 0) (get T 1) (get T 32) (get T 33) (get T 34) H k) k) := ((loopL_next (by kernel_rfl) rfl H k).trans (s_jobs_Queue_Pass_b0_eq stdL CC limLP v0 v1 v32 v33 v34 H _)).trans (by kernel_rfl)
theorem d_jobs_Queue_Pass (a0 : Value) (a1 : Value) (H : AHeap) {r : Value × AHeap} (h : s_jobs_Queue_Pass guardK condL shareL Tryd.prog CC l_jobs_Queue_Pass_0 a0 a1 H (endK Tryd.prog [.tmp 4]) = some r) : CC F.jobs_Queue_Pass [a0, a1] H = some (tidy H r) := D_body (by kernel_rfl) ((s_jobs_Queue_Pass_eq stdL CC limLP a0 a1 H).trans (Eq.trans (show s_jobs_Queue_Pass stdL.b.g stdL.c stdL.s Tryd.prog CC (fun v0 v1 v32 v33 v34 H k => loopL stdL Tryd.prog hints CC limLP F.jobs_Queue_Pass 0 [(0, v0), (1, v1), (32, v32), (33, v33), (34, v34)] H k) a0 a1 H (endK Tryd.prog [.tmp 4]) = s_jobs_Queue_Pass guardK condL shareL Tryd.prog CC l_jobs_Queue_Pass_0 a0 a1 H (endK Tryd.prog [.tmp 4]) by kernel_rfl) h))

theorem d_law_taken (a0 : Value) (a1 : Value) (a2 : Value) (a3 : Value) (a4 : Value) (a5 : Value) (H : AHeap) {r : Value × AHeap} (h : s_law_taken guardK condL shareL Tryd.prog CC a0 a1 a2 a3 a4 a5 H (endK Tryd.prog [.cell 12 T.api_Job]) = some r) : CC F.law_taken [a0, a1, a2, a3, a4, a5] H = some (tidy H r) := D_body (by kernel_rfl) ((s_law_taken_eq stdL CC limLP a0 a1 a2 a3 a4 a5 H).trans (Eq.trans (show s_law_taken stdL.b.g stdL.c stdL.s Tryd.prog CC a0 a1 a2 a3 a4 a5 H (endK Tryd.prog [.cell 12 T.api_Job]) = s_law_taken guardK condL shareL Tryd.prog CC a0 a1 a2 a3 a4 a5 H (endK Tryd.prog [.cell 12 T.api_Job]) by kernel_rfl) h))

theorem d_jobs_Queue_taken (a0 : Value) (a1 : Value) (a2 : Value) (H : AHeap) {r : Value × AHeap} (h : s_jobs_Queue_taken guardK condL shareL Tryd.prog CC a0 a1 a2 H (endK Tryd.prog [.cell 6 T.api_Job, .tmp 7]) = some r) : CC F.jobs_Queue_taken [a0, a1, a2] H = some (tidy H r) := D_body (by kernel_rfl) ((s_jobs_Queue_taken_eq stdL CC limLP a0 a1 a2 H).trans (Eq.trans (show s_jobs_Queue_taken stdL.b.g stdL.c stdL.s Tryd.prog CC a0 a1 a2 H (endK Tryd.prog [.cell 6 T.api_Job, .tmp 7]) = s_jobs_Queue_taken guardK condL shareL Tryd.prog CC a0 a1 a2 H (endK Tryd.prog [.cell 6 T.api_Job, .tmp 7]) by kernel_rfl) h))

theorem d_jobs_Queue_back (a0 : Value) (a1 : Value) (H : AHeap) {r : Value × AHeap} (h : s_jobs_Queue_back guardK condL shareL Tryd.prog CC a0 a1 H (endK Tryd.prog [.tmp 4]) = some r) : CC F.jobs_Queue_back [a0, a1] H = some (tidy H r) := D_body (by kernel_rfl) ((s_jobs_Queue_back_eq stdL CC limLP a0 a1 H).trans (Eq.trans (show s_jobs_Queue_back stdL.b.g stdL.c stdL.s Tryd.prog CC a0 a1 H (endK Tryd.prog [.tmp 4]) = s_jobs_Queue_back guardK condL shareL Tryd.prog CC a0 a1 H (endK Tryd.prog [.tmp 4]) by kernel_rfl) h))

theorem d_jobs_Queue_Get (a0 : Value) (a1 : Value) (H : AHeap) {r : Value × AHeap} (h : s_jobs_Queue_Get guardK condL shareL Tryd.prog CC a0 a1 H (endK Tryd.prog [.cell 4 T.api_Job, .tmp 5]) = some r) : CC F.jobs_Queue_Get [a0, a1] H = some (tidy H r) := D_body (by kernel_rfl) ((s_jobs_Queue_Get_eq stdL CC limLP a0 a1 H).trans (Eq.trans (show s_jobs_Queue_Get stdL.b.g stdL.c stdL.s Tryd.prog CC a0 a1 H (endK Tryd.prog [.cell 4 T.api_Job, .tmp 5]) = s_jobs_Queue_Get guardK condL shareL Tryd.prog CC a0 a1 H (endK Tryd.prog [.cell 4 T.api_Job, .tmp 5]) by kernel_rfl) h))

theorem d_jobs_Queue_none (a0 : Value) (H : AHeap) {r : Value × AHeap} (h : s_jobs_Queue_none guardK condL shareL Tryd.prog CC a0 H (endK Tryd.prog [.tmp 2]) = some r) : CC F.jobs_Queue_none [a0] H = some (tidy H r) := D_body (by kernel_rfl) ((s_jobs_Queue_none_eq stdL CC limLP a0 H).trans (Eq.trans (show s_jobs_Queue_none stdL.b.g stdL.c stdL.s Tryd.prog CC a0 H (endK Tryd.prog [.tmp 2]) = s_jobs_Queue_none guardK condL shareL Tryd.prog CC a0 H (endK Tryd.prog [.tmp 2]) by kernel_rfl) h))

noncomputable def l_jobs_Queue_in_0 (v5 : Value) (v6 : Value) (v8 : Value) (v24 : Value) (v25 : Value) (v26 : Value) (H : AHeap) (k : K) : Res := loopL stdL Tryd.prog hints CC limLP F.jobs_Queue_in 0 [(5, v5), (6, v6), (8, v8), (24, v24), (25, v25), (26, v26)] H k
theorem r_jobs_Queue_in_0 (v5 : Value) (v6 : Value) (v8 : Value) (v24 : Value) (v25 : Value) (v26 : Value) (H : AHeap) (k : K) : l_jobs_Queue_in_0 v5 v6 v8 v24 v25 v26 H k = s_jobs_Queue_in_b0 guardK condL shareL Tryd.prog CC l_jobs_Queue_in_0 v5 v6 v8 v24 v25 v26 H (seqK (fun T H => l_jobs_Queue_in_0 (get T 5) (get T 6) (get T 8) (get T 24) (get T 25) (get T 26) H k) k) := ((loopL_next (by kernel_rfl) rfl H k).trans (s_jobs_Queue_in_b0_eq stdL CC limLP v5 v6 v8 v24 v25 v26 H _)).trans (by kernel_rfl)
theorem d_jobs_Queue_in (a0 : Value) (a1 : Value) (H : AHeap) {r : Value × AHeap} (h : s_jobs_Queue_in guardK condL shareL Tryd.prog CC l_jobs_Queue_in_0 a0 a1 H (endK Tryd.prog [.tmp 4]) = some r) : CC F.jobs_Queue_in [a0, a1] H = some (tidy H r) := D_body (by kernel_rfl) ((s_jobs_Queue_in_eq stdL CC limLP a0 a1 H).trans (Eq.trans (show s_jobs_Queue_in stdL.b.g stdL.c stdL.s Tryd.prog CC (fun v5 v6 v8 v24 v25 v26 H k => loopL stdL Tryd.prog hints CC limLP F.jobs_Queue_in 0 [(5, v5), (6, v6), (8, v8), (24, v24), (25, v25), (26, v26)] H k) a0 a1 H (endK Tryd.prog [.tmp 4]) = s_jobs_Queue_in guardK condL shareL Tryd.prog CC l_jobs_Queue_in_0 a0 a1 H (endK Tryd.prog [.tmp 4]) by kernel_rfl) h))

theorem d_jobs_Queue_set (a0 : Value) (a1 : Value) (H : AHeap) {r : Value × AHeap} (h : s_jobs_Queue_set guardK condL shareL Tryd.prog CC a0 a1 H (endK Tryd.prog [.tmp 4]) = some r) : CC F.jobs_Queue_set [a0, a1] H = some (tidy H r) := D_body (by kernel_rfl) ((s_jobs_Queue_set_eq stdL CC limLP a0 a1 H).trans (Eq.trans (show s_jobs_Queue_set stdL.b.g stdL.c stdL.s Tryd.prog CC a0 a1 H (endK Tryd.prog [.tmp 4]) = s_jobs_Queue_set guardK condL shareL Tryd.prog CC a0 a1 H (endK Tryd.prog [.tmp 4]) by kernel_rfl) h))

theorem d_jobs_number (a0 : Value) (H : AHeap) {r : Value × AHeap} (h : s_jobs_number guardK condL shareL Tryd.prog CC a0 H (endK Tryd.prog [.cell 2 T.api_Cell]) = some r) : CC F.jobs_number [a0] H = some (tidy H r) := D_body (by kernel_rfl) ((s_jobs_number_eq stdL CC limLP a0 H).trans (Eq.trans (show s_jobs_number stdL.b.g stdL.c stdL.s Tryd.prog CC a0 H (endK Tryd.prog [.cell 2 T.api_Cell]) = s_jobs_number guardK condL shareL Tryd.prog CC a0 H (endK Tryd.prog [.cell 2 T.api_Cell]) by kernel_rfl) h))

theorem d_model_Model_Delete (a0 : Value) (a1 : Value) (H : AHeap) {r : Value × AHeap} (h : s_model_Model_Delete guardK condL shareL Tryd.prog CC a0 a1 H (endK Tryd.prog [.tmp 4, .tmp 5]) = some r) : CC F.model_Model_Delete [a0, a1] H = some (tidy H r) := D_body (by kernel_rfl) ((s_model_Model_Delete_eq stdL CC limLP a0 a1 H).trans (Eq.trans (show s_model_Model_Delete stdL.b.g stdL.c stdL.s Tryd.prog CC a0 a1 H (endK Tryd.prog [.tmp 4, .tmp 5]) = s_model_Model_Delete guardK condL shareL Tryd.prog CC a0 a1 H (endK Tryd.prog [.tmp 4, .tmp 5]) by kernel_rfl) h))

theorem d_model_Model_Get (a0 : Value) (a1 : Value) (H : AHeap) {r : Value × AHeap} (h : s_model_Model_Get guardK condL shareL Tryd.prog CC a0 a1 H (endK Tryd.prog [.tmp 4, .tmp 5]) = some r) : CC F.model_Model_Get [a0, a1] H = some (tidy H r) := D_body (by kernel_rfl) ((s_model_Model_Get_eq stdL CC limLP a0 a1 H).trans (Eq.trans (show s_model_Model_Get stdL.b.g stdL.c stdL.s Tryd.prog CC a0 a1 H (endK Tryd.prog [.tmp 4, .tmp 5]) = s_model_Model_Get guardK condL shareL Tryd.prog CC a0 a1 H (endK Tryd.prog [.tmp 4, .tmp 5]) by kernel_rfl) h))

noncomputable def l_rows_Read_0 (v1 : Value) (v2 : Value) (v3 : Value) (v8 : Value) (v27 : Value) (v28 : Value) (v29 : Value) (H : AHeap) (k : K) : Res := loopL stdL Tryd.prog hints CC limLP F.rows_Read 0 [(1, v1), (2, v2), (3, v3), (8, v8), (27, v27), (28, v28), (29, v29)] H k
noncomputable def l_rows_Read_1 (v1 : Value) (v2 : Value) (v3 : Value) (v8 : Value) (v10 : Value) (v27 : Value) (v28 : Value) (v29 : Value) (v41 : Value) (v42 : Value) (v43 : Value) (H : AHeap) (k : K) : Res := loopL stdL Tryd.prog hints CC limLP F.rows_Read 1 [(1, v1), (2, v2), (3, v3), (8, v8), (10, v10), (27, v27), (28, v28), (29, v29), (41, v41), (42, v42), (43, v43)] H k
theorem r_rows_Read_0 (v1 : Value) (v2 : Value) (v3 : Value) (v8 : Value) (v27 : Value) (v28 : Value) (v29 : Value) (H : AHeap) (k : K) : l_rows_Read_0 v1 v2 v3 v8 v27 v28 v29 H k = s_rows_Read_b0 guardK condL shareL Tryd.prog CC l_rows_Read_0 l_rows_Read_1 v1 v2 v3 v8 v27 v28 v29 H (seqK (fun T H => l_rows_Read_0 (get T 1) (get T 2) (get T 3) (get T 8) (get T 27) (get T 28) (get T 29) H k) k) := ((loopL_next (by kernel_rfl) rfl H k).trans (s_rows_Read_b0_eq stdL CC limLP v1 v2 v3 v8 v27 v28 v29 H _)).trans (by kernel_rfl)
theorem r_rows_Read_1 (v1 : Value) (v2 : Value) (v3 : Value) (v8 : Value) (v10 : Value) (v27 : Value) (v28 : Value) (v29 : Value) (v41 : Value) (v42 : Value) (v43 : Value) (H : AHeap) (k : K) : l_rows_Read_1 v1 v2 v3 v8 v10 v27 v28 v29 v41 v42 v43 H k = s_rows_Read_b1 guardK condL shareL Tryd.prog CC l_rows_Read_0 l_rows_Read_1 v1 v2 v3 v8 v10 v27 v28 v29 v41 v42 v43 H (seqK (fun T H => l_rows_Read_1 (get T 1) (get T 2) (get T 3) (get T 8) (get T 10) (get T 27) (get T 28) (get T 29) (get T 41) (get T 42) (get T 43) H k) k) := ((loopL_next (by kernel_rfl) rfl H k).trans (s_rows_Read_b1_eq stdL CC limLP v1 v2 v3 v8 v10 v27 v28 v29 v41 v42 v43 H _)).trans (by kernel_rfl)
theorem d_rows_Read (a0 : Value) (a1 : Value) (a2 : Value) (H : AHeap) {r : Value × AHeap} (h : s_rows_Read guardK condL shareL Tryd.prog CC l_rows_Read_0 l_rows_Read_1 a0 a1 a2 H (endK Tryd.prog [.tmp 6, .tmp 7]) = some r) : CC F.rows_Read [a0, a1, a2] H = some (tidy H r) := D_body (by kernel_rfl) ((s_rows_Read_eq stdL CC limLP a0 a1 a2 H).trans (Eq.trans (show s_rows_Read stdL.b.g stdL.c stdL.s Tryd.prog CC (fun v1 v2 v3 v8 v27 v28 v29 H k => loopL stdL Tryd.prog hints CC limLP F.rows_Read 0 [(1, v1), (2, v2), (3, v3), (8, v8), (27, v27), (28, v28), (29, v29)] H k) (fun v1 v2 v3 v8 v10 v27 v28 v29 v41 v42 v43 H k => loopL stdL Tryd.prog hints CC limLP F.rows_Read 1 [(1, v1), (2, v2), (3, v3), (8, v8), (10, v10), (27, v27), (28, v28), (29, v29), (41, v41), (42, v42), (43, v43)] H k) a0 a1 a2 H (endK Tryd.prog [.tmp 6, .tmp 7]) = s_rows_Read guardK condL shareL Tryd.prog CC l_rows_Read_0 l_rows_Read_1 a0 a1 a2 H (endK Tryd.prog [.tmp 6, .tmp 7]) by kernel_rfl) h))

theorem d_jobs_table (H : AHeap) {r : Value × AHeap} (h : s_jobs_table guardK condL shareL Tryd.prog CC H (endK Tryd.prog [.cell 0 T.api_Table]) = some r) : CC F.jobs_table [] H = some (tidy H r) := D_body (by kernel_rfl) ((s_jobs_table_eq stdL CC limLP H).trans (Eq.trans (show s_jobs_table stdL.b.g stdL.c stdL.s Tryd.prog CC H (endK Tryd.prog [.cell 0 T.api_Table]) = s_jobs_table guardK condL shareL Tryd.prog CC H (endK Tryd.prog [.cell 0 T.api_Table]) by kernel_rfl) h))

theorem d_jobs_job (a0 : Value) (H : AHeap) {r : Value × AHeap} (h : s_jobs_job guardK condL shareL Tryd.prog CC a0 H (endK Tryd.prog [.cell 2 T.api_Job]) = some r) : CC F.jobs_job [a0] H = some (tidy H r) := D_body (by kernel_rfl) ((s_jobs_job_eq stdL CC limLP a0 H).trans (Eq.trans (show s_jobs_job stdL.b.g stdL.c stdL.s Tryd.prog CC a0 H (endK Tryd.prog [.cell 2 T.api_Job]) = s_jobs_job guardK condL shareL Tryd.prog CC a0 H (endK Tryd.prog [.cell 2 T.api_Job]) by kernel_rfl) h))

noncomputable def l_rows_Span_0 (v4 : Value) (v7 : Value) (H : AHeap) (k : K) : Res := loopL stdL Tryd.prog hints CC limLP F.rows_Span 0 [(4, v4), (7, v7)] H k
theorem r_rows_Span_0 (v4 : Value) (v7 : Value) (H : AHeap) (k : K) : l_rows_Span_0 v4 v7 H k = s_rows_Span_b0 guardK condL shareL Tryd.prog CC l_rows_Span_0 v4 v7 H (seqK (fun T H => l_rows_Span_0 (get T 4) (get T 7) H k) k) := ((loopL_next (by kernel_rfl) rfl H k).trans (s_rows_Span_b0_eq stdL CC limLP v4 v7 H _)).trans (by kernel_rfl)
theorem d_rows_Span (a0 : Value) (a1 : Value) (H : AHeap) {r : Value × AHeap} (h : s_rows_Span guardK condL shareL Tryd.prog CC l_rows_Span_0 a0 a1 H (endK Tryd.prog [.tmp 4, .tmp 5, .tmp 6]) = some r) : CC F.rows_Span [a0, a1] H = some (tidy H r) := D_body (by kernel_rfl) ((s_rows_Span_eq stdL CC limLP a0 a1 H).trans (Eq.trans (show s_rows_Span stdL.b.g stdL.c stdL.s Tryd.prog CC (fun v4 v7 H k => loopL stdL Tryd.prog hints CC limLP F.rows_Span 0 [(4, v4), (7, v7)] H k) a0 a1 H (endK Tryd.prog [.tmp 4, .tmp 5, .tmp 6]) = s_rows_Span guardK condL shareL Tryd.prog CC l_rows_Span_0 a0 a1 H (endK Tryd.prog [.tmp 4, .tmp 5, .tmp 6]) by kernel_rfl) h))

theorem d_model_Model_Pairs (a0 : Value) (H : AHeap) {r : Value × AHeap} (h : s_model_Model_Pairs guardK condL shareL Tryd.prog CC a0 H (endK Tryd.prog [.tmp 2]) = some r) : CC F.model_Model_Pairs [a0] H = some (tidy H r) := D_body (by kernel_rfl) ((s_model_Model_Pairs_eq stdL CC limLP a0 H).trans (Eq.trans (show s_model_Model_Pairs stdL.b.g stdL.c stdL.s Tryd.prog CC a0 H (endK Tryd.prog [.tmp 2]) = s_model_Model_Pairs guardK condL shareL Tryd.prog CC a0 H (endK Tryd.prog [.tmp 2]) by kernel_rfl) h))

theorem d_rows_Row (a0 : Value) (a1 : Value) (H : AHeap) {r : Value × AHeap} (h : s_rows_Row guardK condL shareL Tryd.prog CC a0 a1 H (endK Tryd.prog [.tmp 4, .tmp 5, .tmp 6]) = some r) : CC F.rows_Row [a0, a1] H = some (tidy H r) := D_body (by kernel_rfl) ((s_rows_Row_eq stdL CC limLP a0 a1 H).trans (Eq.trans (show s_rows_Row stdL.b.g stdL.c stdL.s Tryd.prog CC a0 a1 H (endK Tryd.prog [.tmp 4, .tmp 5, .tmp 6]) = s_rows_Row guardK condL shareL Tryd.prog CC a0 a1 H (endK Tryd.prog [.tmp 4, .tmp 5, .tmp 6]) by kernel_rfl) h))

theorem d_jobs_row (a0 : Value) (H : AHeap) {r : Value × AHeap} (h : s_jobs_row guardK condL shareL Tryd.prog CC a0 H (endK Tryd.prog [.tmp 2]) = some r) : CC F.jobs_row [a0] H = some (tidy H r) := D_body (by kernel_rfl) ((s_jobs_row_eq stdL CC limLP a0 H).trans (Eq.trans (show s_jobs_row stdL.b.g stdL.c stdL.s Tryd.prog CC a0 H (endK Tryd.prog [.tmp 2]) = s_jobs_row guardK condL shareL Tryd.prog CC a0 H (endK Tryd.prog [.tmp 2]) by kernel_rfl) h))

theorem d_model_Model_Put (a0 : Value) (a1 : Value) (a2 : Value) (H : AHeap) {r : Value × AHeap} (h : s_model_Model_Put guardK condL shareL Tryd.prog CC a0 a1 a2 H (endK Tryd.prog [.tmp 6]) = some r) : CC F.model_Model_Put [a0, a1, a2] H = some (tidy H r) := D_body (by kernel_rfl) ((s_model_Model_Put_eq stdL CC limLP a0 a1 a2 H).trans (Eq.trans (show s_model_Model_Put stdL.b.g stdL.c stdL.s Tryd.prog CC a0 a1 a2 H (endK Tryd.prog [.tmp 6]) = s_model_Model_Put guardK condL shareL Tryd.prog CC a0 a1 a2 H (endK Tryd.prog [.tmp 6]) by kernel_rfl) h))

theorem d_model_Model_place (a0 : Value) (a1 : Value) (H : AHeap) {r : Value × AHeap} (h : s_model_Model_place guardK condL shareL Tryd.prog CC a0 a1 H (endK Tryd.prog [.tmp 4, .tmp 5]) = some r) : CC F.model_Model_place [a0, a1] H = some (tidy H r) := D_body (by kernel_rfl) ((s_model_Model_place_eq stdL CC limLP a0 a1 H).trans (Eq.trans (show s_model_Model_place stdL.b.g stdL.c stdL.s Tryd.prog CC a0 a1 H (endK Tryd.prog [.tmp 4, .tmp 5]) = s_model_Model_place guardK condL shareL Tryd.prog CC a0 a1 H (endK Tryd.prog [.tmp 4, .tmp 5]) by kernel_rfl) h))

theorem d_slices_Delete_Pair (a0 : Value) (a1 : Value) (a2 : Value) (H : AHeap) {r : Value × AHeap} (h : s_slices_Delete_Pair guardK condL shareL Tryd.prog CC a0 a1 a2 H (endK Tryd.prog [.tmp 6]) = some r) : CC F.slices_Delete_Pair [a0, a1, a2] H = some (tidy H r) := D_body (by kernel_rfl) ((s_slices_Delete_Pair_eq stdL CC limLP a0 a1 a2 H).trans (Eq.trans (show s_slices_Delete_Pair stdL.b.g stdL.c stdL.s Tryd.prog CC a0 a1 a2 H (endK Tryd.prog [.tmp 6]) = s_slices_Delete_Pair guardK condL shareL Tryd.prog CC a0 a1 a2 H (endK Tryd.prog [.tmp 6]) by kernel_rfl) h))

theorem d_slices_Clone_Pair (a0 : Value) (H : AHeap) {r : Value × AHeap} (h : s_slices_Clone_Pair guardK condL shareL Tryd.prog CC a0 H (endK Tryd.prog [.tmp 2]) = some r) : CC F.slices_Clone_Pair [a0] H = some (tidy H r) := D_body (by kernel_rfl) ((s_slices_Clone_Pair_eq stdL CC limLP a0 H).trans (Eq.trans (show s_slices_Clone_Pair stdL.b.g stdL.c stdL.s Tryd.prog CC a0 H (endK Tryd.prog [.tmp 2]) = s_slices_Clone_Pair guardK condL shareL Tryd.prog CC a0 H (endK Tryd.prog [.tmp 2]) by kernel_rfl) h))

theorem d_model_Model_at (a0 : Value) (a1 : Value) (a2 : Value) (H : AHeap) {r : Value × AHeap} (h : s_model_Model_at guardK condL shareL Tryd.prog CC a0 a1 a2 H (endK Tryd.prog [.tmp 6, .tmp 7, .tmp 8]) = some r) : CC F.model_Model_at [a0, a1, a2] H = some (tidy H r) := D_body (by kernel_rfl) ((s_model_Model_at_eq stdL CC limLP a0 a1 a2 H).trans (Eq.trans (show s_model_Model_at stdL.b.g stdL.c stdL.s Tryd.prog CC a0 a1 a2 H (endK Tryd.prog [.tmp 6, .tmp 7, .tmp 8]) = s_model_Model_at guardK condL shareL Tryd.prog CC a0 a1 a2 H (endK Tryd.prog [.tmp 6, .tmp 7, .tmp 8]) by kernel_rfl) h))

theorem d_rows_Valid (a0 : Value) (H : AHeap) {r : Value × AHeap} (h : s_rows_Valid guardK condL shareL Tryd.prog CC a0 H (endK Tryd.prog [.tmp 2]) = some r) : CC F.rows_Valid [a0] H = some (tidy H r) := D_body (by kernel_rfl) ((s_rows_Valid_eq stdL CC limLP a0 H).trans (Eq.trans (show s_rows_Valid stdL.b.g stdL.c stdL.s Tryd.prog CC a0 H (endK Tryd.prog [.tmp 2]) = s_rows_Valid guardK condL shareL Tryd.prog CC a0 H (endK Tryd.prog [.tmp 2]) by kernel_rfl) h))

theorem d_rows_take (a0 : Value) (a1 : Value) (H : AHeap) {r : Value × AHeap} (h : s_rows_take guardK condL shareL Tryd.prog CC a0 a1 H (endK Tryd.prog [.cell 4 T.api_Cell, .tmp 5, .tmp 6]) = some r) : CC F.rows_take [a0, a1] H = some (tidy H r) := D_body (by kernel_rfl) ((s_rows_take_eq stdL CC limLP a0 a1 H).trans (Eq.trans (show s_rows_take stdL.b.g stdL.c stdL.s Tryd.prog CC a0 a1 H (endK Tryd.prog [.cell 4 T.api_Cell, .tmp 5, .tmp 6]) = s_rows_take guardK condL shareL Tryd.prog CC a0 a1 H (endK Tryd.prog [.cell 4 T.api_Cell, .tmp 5, .tmp 6]) by kernel_rfl) h))

noncomputable def l_rows_are_0 (v1 : Value) (v12 : Value) (v13 : Value) (v14 : Value) (H : AHeap) (k : K) : Res := loopL stdL Tryd.prog hints CC limLP F.rows_are 0 [(1, v1), (12, v12), (13, v13), (14, v14)] H k
theorem r_rows_are_0 (v1 : Value) (v12 : Value) (v13 : Value) (v14 : Value) (H : AHeap) (k : K) : l_rows_are_0 v1 v12 v13 v14 H k = s_rows_are_b0 guardK condL shareL Tryd.prog CC l_rows_are_0 v1 v12 v13 v14 H (seqK (fun T H => l_rows_are_0 (get T 1) (get T 12) (get T 13) (get T 14) H k) k) := ((loopL_next (by kernel_rfl) rfl H k).trans (s_rows_are_b0_eq stdL CC limLP v1 v12 v13 v14 H _)).trans (by kernel_rfl)
theorem d_rows_are (a0 : Value) (a1 : Value) (H : AHeap) {r : Value × AHeap} (h : s_rows_are guardK condL shareL Tryd.prog CC l_rows_are_0 a0 a1 H (endK Tryd.prog [.tmp 4]) = some r) : CC F.rows_are [a0, a1] H = some (tidy H r) := D_body (by kernel_rfl) ((s_rows_are_eq stdL CC limLP a0 a1 H).trans (Eq.trans (show s_rows_are stdL.b.g stdL.c stdL.s Tryd.prog CC (fun v1 v12 v13 v14 H k => loopL stdL Tryd.prog hints CC limLP F.rows_are 0 [(1, v1), (12, v12), (13, v13), (14, v14)] H k) a0 a1 H (endK Tryd.prog [.tmp 4]) = s_rows_are guardK condL shareL Tryd.prog CC l_rows_are_0 a0 a1 H (endK Tryd.prog [.tmp 4]) by kernel_rfl) h))

noncomputable def l_rows_puts_0 (v0 : Value) (v7 : Value) (v8 : Value) (v9 : Value) (H : AHeap) (k : K) : Res := loopL stdL Tryd.prog hints CC limLP F.rows_puts 0 [(0, v0), (7, v7), (8, v8), (9, v9)] H k
theorem r_rows_puts_0 (v0 : Value) (v7 : Value) (v8 : Value) (v9 : Value) (H : AHeap) (k : K) : l_rows_puts_0 v0 v7 v8 v9 H k = s_rows_puts_b0 guardK condL shareL Tryd.prog CC l_rows_puts_0 v0 v7 v8 v9 H (seqK (fun T H => l_rows_puts_0 (get T 0) (get T 7) (get T 8) (get T 9) H k) k) := ((loopL_next (by kernel_rfl) rfl H k).trans (s_rows_puts_b0_eq stdL CC limLP v0 v7 v8 v9 H _)).trans (by kernel_rfl)
theorem d_rows_puts (a0 : Value) (a1 : Value) (H : AHeap) {r : Value × AHeap} (h : s_rows_puts guardK condL shareL Tryd.prog CC l_rows_puts_0 a0 a1 H (endK Tryd.prog [.tmp 4]) = some r) : CC F.rows_puts [a0, a1] H = some (tidy H r) := D_body (by kernel_rfl) ((s_rows_puts_eq stdL CC limLP a0 a1 H).trans (Eq.trans (show s_rows_puts stdL.b.g stdL.c stdL.s Tryd.prog CC (fun v0 v7 v8 v9 H k => loopL stdL Tryd.prog hints CC limLP F.rows_puts 0 [(0, v0), (7, v7), (8, v8), (9, v9)] H k) a0 a1 H (endK Tryd.prog [.tmp 4]) = s_rows_puts guardK condL shareL Tryd.prog CC l_rows_puts_0 a0 a1 H (endK Tryd.prog [.tmp 4]) by kernel_rfl) h))

noncomputable def l_slices_Concat_CellKind_0 (v0 : Value) (v3 : Value) (v9 : Value) (v10 : Value) (v11 : Value) (H : AHeap) (k : K) : Res := loopL stdL Tryd.prog hints CC limLP F.slices_Concat_CellKind 0 [(0, v0), (3, v3), (9, v9), (10, v10), (11, v11)] H k
noncomputable def l_slices_Concat_CellKind_1 (v6 : Value) (v25 : Value) (v26 : Value) (v27 : Value) (H : AHeap) (k : K) : Res := loopL stdL Tryd.prog hints CC limLP F.slices_Concat_CellKind 1 [(6, v6), (25, v25), (26, v26), (27, v27)] H k
theorem r_slices_Concat_CellKind_0 (v0 : Value) (v3 : Value) (v9 : Value) (v10 : Value) (v11 : Value) (H : AHeap) (k : K) : l_slices_Concat_CellKind_0 v0 v3 v9 v10 v11 H k = s_slices_Concat_CellKind_b0 guardK condL shareL Tryd.prog CC l_slices_Concat_CellKind_0 l_slices_Concat_CellKind_1 v0 v3 v9 v10 v11 H (seqK (fun T H => l_slices_Concat_CellKind_0 (get T 0) (get T 3) (get T 9) (get T 10) (get T 11) H k) k) := ((loopL_next (by kernel_rfl) rfl H k).trans (s_slices_Concat_CellKind_b0_eq stdL CC limLP v0 v3 v9 v10 v11 H _)).trans (by kernel_rfl)
theorem r_slices_Concat_CellKind_1 (v6 : Value) (v25 : Value) (v26 : Value) (v27 : Value) (H : AHeap) (k : K) : l_slices_Concat_CellKind_1 v6 v25 v26 v27 H k = s_slices_Concat_CellKind_b1 guardK condL shareL Tryd.prog CC l_slices_Concat_CellKind_0 l_slices_Concat_CellKind_1 v6 v25 v26 v27 H (seqK (fun T H => l_slices_Concat_CellKind_1 (get T 6) (get T 25) (get T 26) (get T 27) H k) k) := ((loopL_next (by kernel_rfl) rfl H k).trans (s_slices_Concat_CellKind_b1_eq stdL CC limLP v6 v25 v26 v27 H _)).trans (by kernel_rfl)
theorem d_slices_Concat_CellKind (a0 : Value) (H : AHeap) {r : Value × AHeap} (h : s_slices_Concat_CellKind guardK condL shareL Tryd.prog CC l_slices_Concat_CellKind_0 l_slices_Concat_CellKind_1 a0 H (endK Tryd.prog [.tmp 2]) = some r) : CC F.slices_Concat_CellKind [a0] H = some (tidy H r) := D_body (by kernel_rfl) ((s_slices_Concat_CellKind_eq stdL CC limLP a0 H).trans (Eq.trans (show s_slices_Concat_CellKind stdL.b.g stdL.c stdL.s Tryd.prog CC (fun v0 v3 v9 v10 v11 H k => loopL stdL Tryd.prog hints CC limLP F.slices_Concat_CellKind 0 [(0, v0), (3, v3), (9, v9), (10, v10), (11, v11)] H k) (fun v6 v25 v26 v27 H k => loopL stdL Tryd.prog hints CC limLP F.slices_Concat_CellKind 1 [(6, v6), (25, v25), (26, v26), (27, v27)] H k) a0 H (endK Tryd.prog [.tmp 2]) = s_slices_Concat_CellKind guardK condL shareL Tryd.prog CC l_slices_Concat_CellKind_0 l_slices_Concat_CellKind_1 a0 H (endK Tryd.prog [.tmp 2]) by kernel_rfl) h))

theorem d_model_Model_set (a0 : Value) (a1 : Value) (a2 : Value) (a3 : Value) (H : AHeap) {r : Value × AHeap} (h : s_model_Model_set guardK condL shareL Tryd.prog CC a0 a1 a2 a3 H (endK Tryd.prog [.tmp 8]) = some r) : CC F.model_Model_set [a0, a1, a2, a3] H = some (tidy H r) := D_body (by kernel_rfl) ((s_model_Model_set_eq stdL CC limLP a0 a1 a2 a3 H).trans (Eq.trans (show s_model_Model_set stdL.b.g stdL.c stdL.s Tryd.prog CC a0 a1 a2 a3 H (endK Tryd.prog [.tmp 8]) = s_model_Model_set guardK condL shareL Tryd.prog CC a0 a1 a2 a3 H (endK Tryd.prog [.tmp 8]) by kernel_rfl) h))

noncomputable def l_slices_BinarySearchFunc_string_0 (v0 : Value) (v1 : Value) (v2 : Value) (v8 : Value) (v9 : Value) (v10 : Value) (H : AHeap) (k : K) : Res := loopL stdL Tryd.prog hints CC limLP F.slices_BinarySearchFunc_string 0 [(0, v0), (1, v1), (2, v2), (8, v8), (9, v9), (10, v10)] H k
theorem r_slices_BinarySearchFunc_string_0 (v0 : Value) (v1 : Value) (v2 : Value) (v8 : Value) (v9 : Value) (v10 : Value) (H : AHeap) (k : K) : l_slices_BinarySearchFunc_string_0 v0 v1 v2 v8 v9 v10 H k = s_slices_BinarySearchFunc_string_b0 guardK condL shareL Tryd.prog CC l_slices_BinarySearchFunc_string_0 v0 v1 v2 v8 v9 v10 H (seqK (fun T H => l_slices_BinarySearchFunc_string_0 (get T 0) (get T 1) (get T 2) (get T 8) (get T 9) (get T 10) H k) k) := ((loopL_next (by kernel_rfl) rfl H k).trans (s_slices_BinarySearchFunc_string_b0_eq stdL CC limLP v0 v1 v2 v8 v9 v10 H _)).trans (by kernel_rfl)
theorem d_slices_BinarySearchFunc_string (a0 : Value) (a1 : Value) (a2 : Value) (H : AHeap) {r : Value × AHeap} (h : s_slices_BinarySearchFunc_string guardK condL shareL Tryd.prog CC l_slices_BinarySearchFunc_string_0 a0 a1 a2 H (endK Tryd.prog [.tmp 6, .tmp 7]) = some r) : CC F.slices_BinarySearchFunc_string [a0, a1, a2] H = some (tidy H r) := D_body (by kernel_rfl) ((s_slices_BinarySearchFunc_string_eq stdL CC limLP a0 a1 a2 H).trans (Eq.trans (show s_slices_BinarySearchFunc_string stdL.b.g stdL.c stdL.s Tryd.prog CC (fun v0 v1 v2 v8 v9 v10 H k => loopL stdL Tryd.prog hints CC limLP F.slices_BinarySearchFunc_string 0 [(0, v0), (1, v1), (2, v2), (8, v8), (9, v9), (10, v10)] H k) a0 a1 a2 H (endK Tryd.prog [.tmp 6, .tmp 7]) = s_slices_BinarySearchFunc_string guardK condL shareL Tryd.prog CC l_slices_BinarySearchFunc_string_0 a0 a1 a2 H (endK Tryd.prog [.tmp 6, .tmp 7]) by kernel_rfl) h))

theorem d_model_Model_place_1 (a0 : Value) (a1 : Value) (H : AHeap) {r : Value × AHeap} (h : s_model_Model_place_1 guardK condL shareL Tryd.prog CC a0 a1 H (endK Tryd.prog [.tmp 4]) = some r) : CC F.model_Model_place_1 [a0, a1] H = some (tidy H r) := D_body (by kernel_rfl) ((s_model_Model_place_1_eq stdL CC limLP a0 a1 H).trans (Eq.trans (show s_model_Model_place_1 stdL.b.g stdL.c stdL.s Tryd.prog CC a0 a1 H (endK Tryd.prog [.tmp 4]) = s_model_Model_place_1 guardK condL shareL Tryd.prog CC a0 a1 H (endK Tryd.prog [.tmp 4]) by kernel_rfl) h))

theorem d_keys_Compare (a0 : Value) (a1 : Value) (H : AHeap) {r : Value × AHeap} (h : s_keys_Compare guardK condL shareL Tryd.prog CC a0 a1 H (endK Tryd.prog [.tmp 4]) = some r) : CC F.keys_Compare [a0, a1] H = some (tidy H r) := D_body (by kernel_rfl) ((s_keys_Compare_eq stdL CC limLP a0 a1 H).trans (Eq.trans (show s_keys_Compare stdL.b.g stdL.c stdL.s Tryd.prog CC a0 a1 H (endK Tryd.prog [.tmp 4]) = s_keys_Compare guardK condL shareL Tryd.prog CC a0 a1 H (endK Tryd.prog [.tmp 4]) by kernel_rfl) h))

theorem d_model_check (a0 : Value) (a1 : Value) (H : AHeap) {r : Value × AHeap} (h : s_model_check guardK condL shareL Tryd.prog CC a0 a1 H (endK Tryd.prog [.tmp 4]) = some r) : CC F.model_check [a0, a1] H = some (tidy H r) := D_body (by kernel_rfl) ((s_model_check_eq stdL CC limLP a0 a1 H).trans (Eq.trans (show s_model_check stdL.b.g stdL.c stdL.s Tryd.prog CC a0 a1 H (endK Tryd.prog [.tmp 4]) = s_model_check guardK condL shareL Tryd.prog CC a0 a1 H (endK Tryd.prog [.tmp 4]) by kernel_rfl) h))

theorem d_slices_ContainsFunc_CellKind (a0 : Value) (a1 : Value) (H : AHeap) {r : Value × AHeap} (h : s_slices_ContainsFunc_CellKind guardK condL shareL Tryd.prog CC a0 a1 H (endK Tryd.prog [.tmp 4]) = some r) : CC F.slices_ContainsFunc_CellKind [a0, a1] H = some (tidy H r) := D_body (by kernel_rfl) ((s_slices_ContainsFunc_CellKind_eq stdL CC limLP a0 a1 H).trans (Eq.trans (show s_slices_ContainsFunc_CellKind stdL.b.g stdL.c stdL.s Tryd.prog CC a0 a1 H (endK Tryd.prog [.tmp 4]) = s_slices_ContainsFunc_CellKind guardK condL shareL Tryd.prog CC a0 a1 H (endK Tryd.prog [.tmp 4]) by kernel_rfl) h))

theorem d_rows_Valid_1 (a0 : Value) (H : AHeap) {r : Value × AHeap} (h : s_rows_Valid_1 guardK condL shareL Tryd.prog CC a0 H (endK Tryd.prog [.tmp 2]) = some r) : CC F.rows_Valid_1 [a0] H = some (tidy H r) := D_body (by kernel_rfl) ((s_rows_Valid_1_eq stdL CC limLP a0 H).trans (Eq.trans (show s_rows_Valid_1 stdL.b.g stdL.c stdL.s Tryd.prog CC a0 H (endK Tryd.prog [.tmp 2]) = s_rows_Valid_1 guardK condL shareL Tryd.prog CC a0 H (endK Tryd.prog [.tmp 2]) by kernel_rfl) h))

theorem d_rows_kind (a0 : Value) (H : AHeap) {r : Value × AHeap} (h : s_rows_kind guardK condL shareL Tryd.prog CC a0 H (endK Tryd.prog [.tmp 2]) = some r) : CC F.rows_kind [a0] H = some (tidy H r) := D_body (by kernel_rfl) ((s_rows_kind_eq stdL CC limLP a0 H).trans (Eq.trans (show s_rows_kind stdL.b.g stdL.c stdL.s Tryd.prog CC a0 H (endK Tryd.prog [.tmp 2]) = s_rows_kind guardK condL shareL Tryd.prog CC a0 H (endK Tryd.prog [.tmp 2]) by kernel_rfl) h))

noncomputable def l_rows_number_0 (v0 : Value) (v1 : Value) (v2 : Value) (v9 : Value) (v23 : Value) (v24 : Value) (v25 : Value) (H : AHeap) (k : K) : Res := loopL stdL Tryd.prog hints CC limLP F.rows_number 0 [(0, v0), (1, v1), (2, v2), (9, v9), (23, v23), (24, v24), (25, v25)] H k
theorem r_rows_number_0 (v0 : Value) (v1 : Value) (v2 : Value) (v9 : Value) (v23 : Value) (v24 : Value) (v25 : Value) (H : AHeap) (k : K) : l_rows_number_0 v0 v1 v2 v9 v23 v24 v25 H k = s_rows_number_b0 guardK condL shareL Tryd.prog CC l_rows_number_0 v0 v1 v2 v9 v23 v24 v25 H (seqK (fun T H => l_rows_number_0 (get T 0) (get T 1) (get T 2) (get T 9) (get T 23) (get T 24) (get T 25) H k) k) := ((loopL_next (by kernel_rfl) rfl H k).trans (s_rows_number_b0_eq stdL CC limLP v0 v1 v2 v9 v23 v24 v25 H _)).trans (by kernel_rfl)
theorem d_rows_number (a0 : Value) (a1 : Value) (a2 : Value) (H : AHeap) {r : Value × AHeap} (h : s_rows_number guardK condL shareL Tryd.prog CC l_rows_number_0 a0 a1 a2 H (endK Tryd.prog [.tmp 6, .tmp 7, .tmp 8]) = some r) : CC F.rows_number [a0, a1, a2] H = some (tidy H r) := D_body (by kernel_rfl) ((s_rows_number_eq stdL CC limLP a0 a1 a2 H).trans (Eq.trans (show s_rows_number stdL.b.g stdL.c stdL.s Tryd.prog CC (fun v0 v1 v2 v9 v23 v24 v25 H k => loopL stdL Tryd.prog hints CC limLP F.rows_number 0 [(0, v0), (1, v1), (2, v2), (9, v9), (23, v23), (24, v24), (25, v25)] H k) a0 a1 a2 H (endK Tryd.prog [.tmp 6, .tmp 7, .tmp 8]) = s_rows_number guardK condL shareL Tryd.prog CC l_rows_number_0 a0 a1 a2 H (endK Tryd.prog [.tmp 6, .tmp 7, .tmp 8]) by kernel_rfl) h))

theorem d_rows_proper (a0 : Value) (a1 : Value) (H : AHeap) {r : Value × AHeap} (h : s_rows_proper guardK condL shareL Tryd.prog CC a0 a1 H (endK Tryd.prog [.tmp 4]) = some r) : CC F.rows_proper [a0, a1] H = some (tidy H r) := D_body (by kernel_rfl) ((s_rows_proper_eq stdL CC limLP a0 a1 H).trans (Eq.trans (show s_rows_proper stdL.b.g stdL.c stdL.s Tryd.prog CC a0 a1 H (endK Tryd.prog [.tmp 4]) = s_rows_proper guardK condL shareL Tryd.prog CC a0 a1 H (endK Tryd.prog [.tmp 4]) by kernel_rfl) h))

noncomputable def l_rows_put_0 (v0 : Value) (v7 : Value) (v49 : Value) (v50 : Value) (H : AHeap) (k : K) : Res := loopL stdL Tryd.prog hints CC limLP F.rows_put 0 [(0, v0), (7, v7), (49, v49), (50, v50)] H k
theorem r_rows_put_0 (v0 : Value) (v7 : Value) (v49 : Value) (v50 : Value) (H : AHeap) (k : K) : l_rows_put_0 v0 v7 v49 v50 H k = s_rows_put_b0 guardK condL shareL Tryd.prog CC l_rows_put_0 v0 v7 v49 v50 H (seqK (fun T H => l_rows_put_0 (get T 0) (get T 7) (get T 49) (get T 50) H k) k) := ((loopL_next (by kernel_rfl) rfl H k).trans (s_rows_put_b0_eq stdL CC limLP v0 v7 v49 v50 H _)).trans (by kernel_rfl)
theorem d_rows_put (a0 : Value) (a1 : Value) (H : AHeap) {r : Value × AHeap} (h : s_rows_put guardK condL shareL Tryd.prog CC l_rows_put_0 a0 a1 H (endK Tryd.prog [.tmp 4]) = some r) : CC F.rows_put [a0, a1] H = some (tidy H r) := D_body (by kernel_rfl) ((s_rows_put_eq stdL CC limLP a0 a1 H).trans (Eq.trans (show s_rows_put stdL.b.g stdL.c stdL.s Tryd.prog CC (fun v0 v7 v49 v50 H k => loopL stdL Tryd.prog hints CC limLP F.rows_put 0 [(0, v0), (7, v7), (49, v49), (50, v50)] H k) a0 a1 H (endK Tryd.prog [.tmp 4]) = s_rows_put guardK condL shareL Tryd.prog CC l_rows_put_0 a0 a1 H (endK Tryd.prog [.tmp 4]) by kernel_rfl) h))

theorem d_slices_Grow_CellKind (a0 : Value) (a1 : Value) (H : AHeap) {r : Value × AHeap} (h : s_slices_Grow_CellKind guardK condL shareL Tryd.prog CC a0 a1 H (endK Tryd.prog [.tmp 4]) = some r) : CC F.slices_Grow_CellKind [a0, a1] H = some (tidy H r) := D_body (by kernel_rfl) ((s_slices_Grow_CellKind_eq stdL CC limLP a0 a1 H).trans (Eq.trans (show s_slices_Grow_CellKind stdL.b.g stdL.c stdL.s Tryd.prog CC a0 a1 H (endK Tryd.prog [.tmp 4]) = s_slices_Grow_CellKind guardK condL shareL Tryd.prog CC a0 a1 H (endK Tryd.prog [.tmp 4]) by kernel_rfl) h))

theorem d_strings_Compare (a0 : Value) (a1 : Value) (H : AHeap) {r : Value × AHeap} (h : s_strings_Compare guardK condL shareL Tryd.prog CC a0 a1 H (endK Tryd.prog [.tmp 4]) = some r) : CC F.strings_Compare [a0, a1] H = some (tidy H r) := D_body (by kernel_rfl) ((s_strings_Compare_eq stdL CC limLP a0 a1 H).trans (Eq.trans (show s_strings_Compare stdL.b.g stdL.c stdL.s Tryd.prog CC a0 a1 H (endK Tryd.prog [.tmp 4]) = s_strings_Compare guardK condL shareL Tryd.prog CC a0 a1 H (endK Tryd.prog [.tmp 4]) by kernel_rfl) h))

theorem d_slices_ContainsFunc_string (a0 : Value) (a1 : Value) (H : AHeap) {r : Value × AHeap} (h : s_slices_ContainsFunc_string guardK condL shareL Tryd.prog CC a0 a1 H (endK Tryd.prog [.tmp 4]) = some r) : CC F.slices_ContainsFunc_string [a0, a1] H = some (tidy H r) := D_body (by kernel_rfl) ((s_slices_ContainsFunc_string_eq stdL CC limLP a0 a1 H).trans (Eq.trans (show s_slices_ContainsFunc_string stdL.b.g stdL.c stdL.s Tryd.prog CC a0 a1 H (endK Tryd.prog [.tmp 4]) = s_slices_ContainsFunc_string guardK condL shareL Tryd.prog CC a0 a1 H (endK Tryd.prog [.tmp 4]) by kernel_rfl) h))

theorem d_model_check_1 (a0 : Value) (H : AHeap) {r : Value × AHeap} (h : s_model_check_1 guardK condL shareL Tryd.prog CC a0 H (endK Tryd.prog [.tmp 2]) = some r) : CC F.model_check_1 [a0] H = some (tidy H r) := D_body (by kernel_rfl) ((s_model_check_1_eq stdL CC limLP a0 H).trans (Eq.trans (show s_model_check_1 stdL.b.g stdL.c stdL.s Tryd.prog CC a0 H (endK Tryd.prog [.tmp 2]) = s_model_check_1 guardK condL shareL Tryd.prog CC a0 H (endK Tryd.prog [.tmp 2]) by kernel_rfl) h))

noncomputable def l_slices_IndexFunc_CellKind_0 (v0 : Value) (v1 : Value) (v7 : Value) (v8 : Value) (H : AHeap) (k : K) : Res := loopL stdL Tryd.prog hints CC limLP F.slices_IndexFunc_CellKind 0 [(0, v0), (1, v1), (7, v7), (8, v8)] H k
theorem r_slices_IndexFunc_CellKind_0 (v0 : Value) (v1 : Value) (v7 : Value) (v8 : Value) (H : AHeap) (k : K) : l_slices_IndexFunc_CellKind_0 v0 v1 v7 v8 H k = s_slices_IndexFunc_CellKind_b0 guardK condL shareL Tryd.prog CC l_slices_IndexFunc_CellKind_0 v0 v1 v7 v8 H (seqK (fun T H => l_slices_IndexFunc_CellKind_0 (get T 0) (get T 1) (get T 7) (get T 8) H k) k) := ((loopL_next (by kernel_rfl) rfl H k).trans (s_slices_IndexFunc_CellKind_b0_eq stdL CC limLP v0 v1 v7 v8 H _)).trans (by kernel_rfl)
theorem d_slices_IndexFunc_CellKind (a0 : Value) (a1 : Value) (H : AHeap) {r : Value × AHeap} (h : s_slices_IndexFunc_CellKind guardK condL shareL Tryd.prog CC l_slices_IndexFunc_CellKind_0 a0 a1 H (endK Tryd.prog [.tmp 4]) = some r) : CC F.slices_IndexFunc_CellKind [a0, a1] H = some (tidy H r) := D_body (by kernel_rfl) ((s_slices_IndexFunc_CellKind_eq stdL CC limLP a0 a1 H).trans (Eq.trans (show s_slices_IndexFunc_CellKind stdL.b.g stdL.c stdL.s Tryd.prog CC (fun v0 v1 v7 v8 H k => loopL stdL Tryd.prog hints CC limLP F.slices_IndexFunc_CellKind 0 [(0, v0), (1, v1), (7, v7), (8, v8)] H k) a0 a1 H (endK Tryd.prog [.tmp 4]) = s_slices_IndexFunc_CellKind guardK condL shareL Tryd.prog CC l_slices_IndexFunc_CellKind_0 a0 a1 H (endK Tryd.prog [.tmp 4]) by kernel_rfl) h))

noncomputable def l_rows_digits_0 (v0 : Value) (v3 : Value) (H : AHeap) (k : K) : Res := loopL stdL Tryd.prog hints CC limLP F.rows_digits 0 [(0, v0), (3, v3)] H k
theorem r_rows_digits_0 (v0 : Value) (v3 : Value) (H : AHeap) (k : K) : l_rows_digits_0 v0 v3 H k = s_rows_digits_b0 guardK condL shareL Tryd.prog CC l_rows_digits_0 v0 v3 H (seqK (fun T H => l_rows_digits_0 (get T 0) (get T 3) H k) k) := ((loopL_next (by kernel_rfl) rfl H k).trans (s_rows_digits_b0_eq stdL CC limLP v0 v3 H _)).trans (by kernel_rfl)
theorem d_rows_digits (a0 : Value) (H : AHeap) {r : Value × AHeap} (h : s_rows_digits guardK condL shareL Tryd.prog CC l_rows_digits_0 a0 H (endK Tryd.prog [.tmp 2]) = some r) : CC F.rows_digits [a0] H = some (tidy H r) := D_body (by kernel_rfl) ((s_rows_digits_eq stdL CC limLP a0 H).trans (Eq.trans (show s_rows_digits stdL.b.g stdL.c stdL.s Tryd.prog CC (fun v0 v3 H k => loopL stdL Tryd.prog hints CC limLP F.rows_digits 0 [(0, v0), (3, v3)] H k) a0 H (endK Tryd.prog [.tmp 2]) = s_rows_digits guardK condL shareL Tryd.prog CC l_rows_digits_0 a0 H (endK Tryd.prog [.tmp 2]) by kernel_rfl) h))

theorem d_internal_bytealg_CompareString (a0 : Value) (a1 : Value) (H : AHeap) {r : Value × AHeap} (h : s_internal_bytealg_CompareString guardK condL shareL Tryd.prog CC a0 a1 H (endK Tryd.prog [.tmp 4]) = some r) : CC F.internal_bytealg_CompareString [a0, a1] H = some (tidy H r) := D_body (by kernel_rfl) ((s_internal_bytealg_CompareString_eq stdL CC limLP a0 a1 H).trans (Eq.trans (show s_internal_bytealg_CompareString stdL.b.g stdL.c stdL.s Tryd.prog CC a0 a1 H (endK Tryd.prog [.tmp 4]) = s_internal_bytealg_CompareString guardK condL shareL Tryd.prog CC a0 a1 H (endK Tryd.prog [.tmp 4]) by kernel_rfl) h))

noncomputable def l_slices_IndexFunc_string_0 (v0 : Value) (v1 : Value) (v7 : Value) (v8 : Value) (H : AHeap) (k : K) : Res := loopL stdL Tryd.prog hints CC limLP F.slices_IndexFunc_string 0 [(0, v0), (1, v1), (7, v7), (8, v8)] H k
theorem r_slices_IndexFunc_string_0 (v0 : Value) (v1 : Value) (v7 : Value) (v8 : Value) (H : AHeap) (k : K) : l_slices_IndexFunc_string_0 v0 v1 v7 v8 H k = s_slices_IndexFunc_string_b0 guardK condL shareL Tryd.prog CC l_slices_IndexFunc_string_0 v0 v1 v7 v8 H (seqK (fun T H => l_slices_IndexFunc_string_0 (get T 0) (get T 1) (get T 7) (get T 8) H k) k) := ((loopL_next (by kernel_rfl) rfl H k).trans (s_slices_IndexFunc_string_b0_eq stdL CC limLP v0 v1 v7 v8 H _)).trans (by kernel_rfl)
theorem d_slices_IndexFunc_string (a0 : Value) (a1 : Value) (H : AHeap) {r : Value × AHeap} (h : s_slices_IndexFunc_string guardK condL shareL Tryd.prog CC l_slices_IndexFunc_string_0 a0 a1 H (endK Tryd.prog [.tmp 4]) = some r) : CC F.slices_IndexFunc_string [a0, a1] H = some (tidy H r) := D_body (by kernel_rfl) ((s_slices_IndexFunc_string_eq stdL CC limLP a0 a1 H).trans (Eq.trans (show s_slices_IndexFunc_string stdL.b.g stdL.c stdL.s Tryd.prog CC (fun v0 v1 v7 v8 H k => loopL stdL Tryd.prog hints CC limLP F.slices_IndexFunc_string 0 [(0, v0), (1, v1), (7, v7), (8, v8)] H k) a0 a1 H (endK Tryd.prog [.tmp 4]) = s_slices_IndexFunc_string guardK condL shareL Tryd.prog CC l_slices_IndexFunc_string_0 a0 a1 H (endK Tryd.prog [.tmp 4]) by kernel_rfl) h))

noncomputable def l_slices_Reverse_byte_0 (v0 : Value) (v2 : Value) (v3 : Value) (H : AHeap) (k : K) : Res := loopL stdL Tryd.prog hints CC limLP F.slices_Reverse_byte 0 [(0, v0), (2, v2), (3, v3)] H k
theorem r_slices_Reverse_byte_0 (v0 : Value) (v2 : Value) (v3 : Value) (H : AHeap) (k : K) : l_slices_Reverse_byte_0 v0 v2 v3 H k = s_slices_Reverse_byte_b0 guardK condL shareL Tryd.prog CC l_slices_Reverse_byte_0 v0 v2 v3 H (seqK (fun T H => l_slices_Reverse_byte_0 (get T 0) (get T 2) (get T 3) H k) k) := ((loopL_next (by kernel_rfl) rfl H k).trans (s_slices_Reverse_byte_b0_eq stdL CC limLP v0 v2 v3 H _)).trans (by kernel_rfl)
theorem d_slices_Reverse_byte (a0 : Value) (H : AHeap) {r : Value × AHeap} (h : s_slices_Reverse_byte guardK condL shareL Tryd.prog CC l_slices_Reverse_byte_0 a0 H (endK Tryd.prog []) = some r) : CC F.slices_Reverse_byte [a0] H = some (tidy H r) := D_body (by kernel_rfl) ((s_slices_Reverse_byte_eq stdL CC limLP a0 H).trans (Eq.trans (show s_slices_Reverse_byte stdL.b.g stdL.c stdL.s Tryd.prog CC (fun v0 v2 v3 H k => loopL stdL Tryd.prog hints CC limLP F.slices_Reverse_byte 0 [(0, v0), (2, v2), (3, v3)] H k) a0 H (endK Tryd.prog []) = s_slices_Reverse_byte guardK condL shareL Tryd.prog CC l_slices_Reverse_byte_0 a0 H (endK Tryd.prog []) by kernel_rfl) h))

end Go.Proofs.YtmiinbhnfojnbaaDoor

/-
  The engine, part 33: rows with laid variables: the wrap that keeps the world's shape; arguments that are structs.
  Conditions: none. By an AI agent.
-/
namespace Go.Proofs.YtmiinbhnfojnbaaDoor.Eng
open Go
set_option linter.unusedVariables false
set_option linter.unusedSimpArgs false

section
variable {H : Type} {enc : TypeId × Value → H}
/-- returnsInHanded_of_change_and, the world's shape kept. -/
theorem wrapX {a : Assume} {C : Checked} {os : Os} {f : FuncId} {fn : Func} {s : ChangeSpec} {conds : List PathCond} {apart fresh handsOn again : Bool} {X : World → Array Value → Prop}
    (hX : ∀ (w w' : World) (args : Array Value), w.heap = w'.heap → X w args → X w' args)
    (own : ownKnob C.prog.godebug = none) (started : os.Started) (noInit : C.prog.inits.idxOf? f = none) (hfn : C.prog.funcs[f]? = some fn)
    (witness : ∃ (w : World) (tape : Tape) (i : Input), w.os = os ∧ (w.forCall tape i).Shaped C.prog ∧ i.vars = [] ∧ Input.okWide C.prog (w.forCall tape i) .any w.heap.size f i ∧
      ((s.pre enc C.prog fn conds apart (w.forCall tape i).memory i.args ∧ X (w.forCall tape i).memory i.args) ∧ sizedMet enc C.prog fn (OpenSpec.ofChange s) apart (w.forCall tape i).memory i.args) ∧ a.holds C.prog (lone (Frame.enter C.prog f i.args .normal) [] (w.forCall tape i)))
    (contract : ∀ (W : World) (base : Nat) (args : Array Value) (ds gs : List (DataW H)) (before : List MemPlace),
      (∀ (j : Nat) t v, fn.params[j]? = some t → args[j]? = some v → Value.okWide C.prog W .any base t v) →
      DataW.Whole enc C.prog fn.params.toList s.vars apart W args.toList ds gs before →
      (DataW.weightsEach C.prog (fn.params.toList ++ s.plain.varTypes C.prog) (ds ++ gs)).all (· ≤ reachBytes) = true →
      W.ShapedOpen C.prog → X W args →
      Calls C.prog f args W fun e W' => ∃ v, e = .returned v ∧ s.post enc C.prog fn apart fresh handsOn again W args v W') :
    ReturnsInHanded a C os f .any (fun w args => (s.pre enc C.prog fn conds apart w args ∧ X w args) ∧ sizedMet enc C.prog fn (OpenSpec.ofChange s) apart w args) (s.post enc C.prog fn apart fresh handsOn again) := by
  refine returnsInHanded_of_calls own started noInit witness ?_
  intro w tape i _ hsh _ hok hpre _
  obtain ⟨_, _, _, fn', hfn', _, _, _, _, hval⟩ := hok
  have e : fn' = fn := Option.some.inj (hfn'.symm.trans hfn)
  subst e
  obtain ⟨⟨⟨ds, gs, before, hw, hc⟩, hx⟩, hz⟩ := hpre
  have hw' := DataW.Whole.of_heap (w' := w.forCall tape i) (by rfl) hw
  refine (contract (w.forCall tape i) w.heap.size i.args ds gs before hval hw' (hz.weights hw) hsh (hX (w.forCall tape i).memory _ _ rfl hx)).mono fun e W' ⟨v, he, hp⟩ => ?_
  subst he
  exact ChangeSpec.post_blind hp
end

end Go.Proofs.YtmiinbhnfojnbaaDoor.Eng
