/-
  The engine, contracts and laws: 8 texts in one (merge.py): Eng29 Eng34 Shelf Wc Hints Known Names Sh.
  Conditions: none. By an AI agent.
-/
import Derived.Test.YtmiinbhnfojnbaaGreatDoorQa3
import Derived.Shelf.Strings.Replace
import Derived.Shelf.Strings.Search3
import Derived.Test.YtmiinbhnfojnbaaGreatDoorProg
import Derived.Test.YtmiinbhnfojnbaaGreatDoorChecked
import Derived.Shelf.SlMaps.Clone
import Derived.KernelRfl
set_option linter.unusedSimpArgs false
set_option linter.unusedVariables false
set_option linter.unusedSectionVars false
namespace Go.Proofs.YtmiinbhnfojnbaaGreatDoor.Eng
open Go
def Gx : List Value → AHeap → Res := fun xs H => match xs with
  | [.string s, .string t] => if s.size < 4294967281 then some (.int .i64 (Lib.index s.data.toList t.data.toList), H) else none
  | _ => none
def replP : List Value → AHeap → Res := fun xs H => match xs with
  | [.string s, .string o, .string t] => if s.size < 4294967281 ∧ 1 ≤ o.size ∧ t.size ≤ 100 then some (.string ⟨(Lib.replaceAll s.data.toList o.data.toList t.data.toList).toArray⟩, H) else none
  | _ => none
theorem rvs_str {ι : Emb} {s : ByteArray} {xs : List Value} {args' : List Value} (h : RVs ι (.string s :: xs) args') : ∃ r, args' = .string s :: r ∧ RVs ι xs r := by
  cases h with
  | cons a b => cases a; exact ⟨_, rfl, b⟩
theorem rvs_nil {ι : Emb} {args' : List Value} (h : RVs ι [] args') : args' = [] := by cases h; rfl
theorem index_prim {P : Program} {f : FuncId} (g : Nat) (hgl : (g, GK.int) ∈ globs)
    (hc : ∀ (s sub : ByteArray) (m : Int) (w : World), s.size < 4294967281 → w.cell? ⟨g, 0, none⟩ = some (.int .i64 m) →
      Calls P f #[.string s, .string sub] w fun e w' => e = .returned (.int .i64 (Lib.index s.data.toList sub.data.toList)) ∧ w' = w) :
    (WQ fun _ args H => Gx args H) ∧ VM P fun h args H => if h = f then Gx args H else none := by
  constructor
  · intro _ args H v H' h hl _
    replace h : Gx args H = some (v, H') := h
    unfold Gx at h
    split at h
    · split at h
      · cases h; exact OkV.still hl (.int _ _)
      · cases h
    · cases h
  · intro k args H v H' h2 hl had B ι w args' r ha
    by_cases hg : k = f
    · subst hg
      simp only [if_true] at h2
      unfold Gx at h2
      split at h2
      · split at h2
        · rename_i s t hs
          cases h2
          obtain ⟨a', ea, hA⟩ := rvs_str ha; subst ea
          obtain ⟨a2, ea, hb⟩ := rvs_str hA; subst ea
          cases rvs_nil hb
          obtain ⟨m, hm⟩ := r.glob.int hgl
          refine Calls.mono (hc s t m w hs hm) ?_
          rintro e w' ⟨rfl, rfl⟩
          exact ⟨_, ι, rfl, .int _ _, r, Stp.refl _ _ _ r.dom⟩
        · cases h2
      · cases h2
    · simp [hg] at h2
theorem repl_prim {P : Program} {f : FuncId} (g : Nat) (hgl : (g, GK.int) ∈ globs)
    (hc : ∀ (s old new : ByteArray) (m : Int) (w : World), s.size < 4294967281 → w.cell? ⟨g, 0, none⟩ = some (.int .i64 m) → 1 ≤ old.size → s.size + Lib.countB s old * new.size ≤ 140737488355328 →
      Calls P f #[.string s, .string old, .string new] w fun e w' => e = .returned (.string ⟨(Lib.replaceAll s.data.toList old.data.toList new.data.toList).toArray⟩) ∧ RowKit.Below w.heap.size w w') :
    (WQ fun _ args H => replP args H) ∧ VM P fun h args H => if h = f then replP args H else none := by
  constructor
  · intro _ args H v H' h hl _
    replace h : replP args H = some (v, H') := h
    unfold replP at h
    split at h
    · split at h
      · cases h; exact OkV.still hl (.str _)
      · cases h
    · cases h
  · intro k args H v H' h2 hl had B ι w args' r ha
    by_cases hg : k = f
    · subst hg
      simp only [if_true] at h2
      unfold replP at h2
      split at h2
      · split at h2
        · rename_i s o t hs
          cases h2
          obtain ⟨a', ea, hA⟩ := rvs_str ha; subst ea
          obtain ⟨a2, ea, hb⟩ := rvs_str hA; subst ea
          obtain ⟨a3, ea, hc3⟩ := rvs_str hb; subst ea
          cases rvs_nil hc3
          obtain ⟨m, hm⟩ := r.glob.int hgl
          have hcnt : s.size + Lib.countB s o * t.size ≤ 140737488355328 := by
            have h1 : Lib.countB s o ≤ s.size + 1 := by
              have := Lib.count_le s.data.toList o.data.toList
              simpa [Lib.countB] using this
            have h2 : Lib.countB s o * t.size ≤ (s.size + 1) * 100 := Nat.mul_le_mul h1 hs.2.2
            omega
          refine Calls.mono (hc s o t m w hs.1 hm hs.2.1 hcnt) ?_
          rintro e w' ⟨rfl, hb⟩
          obtain ⟨h3, h4⟩ := below_rel r hb
          exact ⟨_, ι, rfl, .str _, h3, h4⟩
        · cases h2
      · cases h2
    · simp [hg] at h2
end Go.Proofs.YtmiinbhnfojnbaaGreatDoor.Eng

namespace Go.Proofs.YtmiinbhnfojnbaaGreatDoor.Eng
open Go
def ZI : List Value → AHeap → Res := fun xs H => match xs with
  | [.map none] => some (.map none, H)
  | [.map (some b)] => (match H.f b with
    | .map es => some (.map (some H.n), H.push (.map es))
    | _ => none)
  | _ => none
theorem clone_prim {P : Program} {f : FuncId}
    (hc0 : ∀ w : World, Calls P f #[.map none] w fun e w' => e = .returned (.map none) ∧ w' = w)
    (hc : ∀ (b : Nat) (es : Array MapEntry) (clock : Nat) (w : World), w.heap[b]? = some (.map es clock) → Calls P f #[.map (some b)] w fun e w' => e = .returned (.map (some w.heap.size)) ∧ w' = w.alloc (.map es clock)) :
    (WQ fun _ args H => ZI args H) ∧ VM P fun h args H => if h = f then ZI args H else none := by
  constructor
  · intro _ args H v H' h hl _
    replace h : ZI args H = some (v, H') := h
    unfold ZI at h
    split at h
    · cases h; exact OkV.still hl .nilm
    · rename_i b
      split at h
      · rename_i es hf
        cases h
        exact ⟨hl.push (fun _ _ _ hk => by cases hk) (fun es' hk p hp => by cases hk; exact (hl.maps _ es hf p hp).mono (Nat.le_succ _)), .map (by simp), VO.push _ _⟩
      · cases h
    · cases h
  · intro k args H v H' h2 hl had B ι w args' r ha
    by_cases hg : k = f
    · subst hg
      simp only [if_true] at h2
      unfold ZI at h2
      split at h2
      · cases h2
        cases ha with
        | cons a b =>
          cases a
          cases rvs_nil b
          refine Calls.mono (hc0 w) ?_
          rintro e w' ⟨rfl, rfl⟩
          exact ⟨_, ι, rfl, .nilm, r, Stp.refl _ _ _ r.dom⟩
      · rename_i b0
        split at h2
        · rename_i es hf
          cases h2
          cases ha with
          | cons a b =>
            cases rvs_nil b
            cases a with
            | map hL =>
              rename_i L
              have hb := r.blk _ _ hL
              rw [hf] at hb
              obtain ⟨hB, ents, clock, hw, hm⟩ := hb
              refine Calls.mono (hc L.cb ents clock w hw) ?_
              rintro e w' ⟨rfl, rfl⟩
              have hk : RB P B ι (w.alloc (.map ents clock)) ⟨w.heap.size, 0, 0, 0⟩ (.map es) := ⟨r.base, ents, clock, push_heap _ _, hm⟩
              obtain ⟨r', s'⟩ := r.push (.map ents clock) (.map es) ⟨w.heap.size, 0, 0, 0⟩ rfl hk
              exact ⟨_, _, rfl, .map (b := H.n) (L := ⟨w.heap.size, 0, 0, 0⟩) (by simp [up]), r', s'⟩
        · cases h2
      · cases h2
    · simp [hg] at h2
end Go.Proofs.YtmiinbhnfojnbaaGreatDoor.Eng

namespace Go.Proofs
open Go.Shelf Go.RowKit Go.Lib
def Tryz.lays143_ren : Go.Shelf.Ren := ⟨fun | 143 => 80 | 219 => 87 | 217 => 92 | 225 => 93 | 224 => 94 | 267 => 95 | 266 => 101 | 314 => 102 | n => n, fun | 9 => 9 | 3 => 3 | 4 => 4 | 5 => 5 | 46 => 129 | 146 => 151 | 51 => 150 | n => n, fun | 1 => 0 | n => n⟩
theorem Tryz.lays143 : Go.Proofs.Lays.n143 Tryz.prog Tryz.lays143_ren := {
  mixed := by kernel_rfl
  f143 := Tryz.func80.trans (congrArg some (by kernel_rfl))
  f217 := Tryz.func92.trans (congrArg some (by kernel_rfl))
  f219 := Tryz.func87.trans (congrArg some (by kernel_rfl))
  f224 := Tryz.func94.trans (congrArg some (by kernel_rfl))
  f225 := Tryz.func93.trans (congrArg some (by kernel_rfl))
  f266 := Tryz.func101.trans (congrArg some (by kernel_rfl))
  f267 := Tryz.func95.trans (congrArg some (by kernel_rfl))
  f314 := Tryz.func102.trans (congrArg some (by kernel_rfl))
  t3 := Tryz.underlying3
  a3 := Tryz.isAgg3
  z3 := Tryz.sizeOf3
  v3 := Tryz.zeroValue3
  t4 := Tryz.underlying4
  a4 := Tryz.isAgg4
  z4 := Tryz.sizeOf4
  v4 := Tryz.zeroValue4
  t5 := Tryz.underlying5
  a5 := Tryz.isAgg5
  z5 := Tryz.sizeOf5
  v5 := Tryz.zeroValue5
  t9 := Tryz.underlying9
  a9 := Tryz.isAgg9
  z9 := Tryz.sizeOf9
  v9 := Tryz.zeroValue9
  t46 := Tryz.underlying129
  a46 := Tryz.isAgg129
  z46 := Tryz.sizeOf129
  v46 := Tryz.zeroValue129
  t51 := Tryz.underlying150
  a51 := Tryz.isAgg150
  z51 := Tryz.sizeOf150
  v51 := Tryz.zeroValue150
  t146 := Tryz.underlying151
  a146 := Tryz.isAgg151
  z146 := Tryz.sizeOf151
  v146 := Tryz.zeroValue151
  g1 := by kernel_rfl }
theorem Tryz.strings_Index (s sub : ByteArray) (m : Int) (w : World) (hs : s.size < 4294967281) (hm : w.cell? ⟨0, 0, none⟩ = some (.int .i64 m)) :
    Calls Tryz.prog 80 #[.string s, .string sub] w fun e w' => e = .returned (.int .i64 (Lib.index s.data.toList sub.data.toList)) ∧ w' = w := Any.strings_Index Tryz.lays143 s sub m w hs hm
def Tryz.lays155_ren : Go.Shelf.Ren := ⟨fun | 155 => 81 | 154 => 88 | 138 => 96 | 165 => 97 | 143 => 80 | 166 => 98 | 197 => 99 | 169 => 100 | 195 => 103 | 218 => 104 | 240 => 105 | 241 => 106 | 219 => 87 | 260 => 107 | 276 => 108 | 277 => 109 | 217 => 92 | 225 => 93 | 224 => 94 | 267 => 95 | 266 => 101 | 314 => 102 | n => n, fun | 9 => 9 | 3 => 3 | 4 => 4 | 72 => 142 | 0 => 0 | 76 => 145 | 105 => 147 | 21 => 21 | 5 => 5 | 70 => 140 | 20 => 20 | 37 => 110 | 75 => 144 | 127 => 154 | 164 => 155 | 46 => 129 | 119 => 158 | 139 => 161 | 138 => 160 | 146 => 151 | 51 => 150 | 80 => 149 | n => n, fun | 1 => 0 | 3 => 1 | 4 => 2 | n => n⟩
theorem Tryz.lays155 : Go.Proofs.Lays.n155 Tryz.prog Tryz.lays155_ren := {
  mixed := by kernel_rfl
  f138 := Tryz.func96.trans (congrArg some (by kernel_rfl))
  f143 := Tryz.func80.trans (congrArg some (by kernel_rfl))
  f154 := Tryz.func88.trans (congrArg some (by kernel_rfl))
  f155 := Tryz.func81.trans (congrArg some (by kernel_rfl))
  f165 := Tryz.func97.trans (congrArg some (by kernel_rfl))
  f166 := Tryz.func98.trans (congrArg some (by kernel_rfl))
  f169 := Tryz.func100.trans (congrArg some (by kernel_rfl))
  f195 := Tryz.func103.trans (congrArg some (by kernel_rfl))
  f197 := Tryz.func99.trans (congrArg some (by kernel_rfl))
  f217 := Tryz.func92.trans (congrArg some (by kernel_rfl))
  f218 := Tryz.func104.trans (congrArg some (by kernel_rfl))
  f219 := Tryz.func87.trans (congrArg some (by kernel_rfl))
  f224 := Tryz.func94.trans (congrArg some (by kernel_rfl))
  f225 := Tryz.func93.trans (congrArg some (by kernel_rfl))
  f240 := Tryz.func105.trans (congrArg some (by kernel_rfl))
  f241 := Tryz.func106.trans (congrArg some (by kernel_rfl))
  f260 := Tryz.func107.trans (congrArg some (by kernel_rfl))
  f266 := Tryz.func101.trans (congrArg some (by kernel_rfl))
  f267 := Tryz.func95.trans (congrArg some (by kernel_rfl))
  f276 := Tryz.func108.trans (congrArg some (by kernel_rfl))
  f277 := Tryz.func109.trans (congrArg some (by kernel_rfl))
  f314 := Tryz.func102.trans (congrArg some (by kernel_rfl))
  t0 := Tryz.underlying0
  a0 := Tryz.isAgg0
  z0 := Tryz.sizeOf0
  v0 := Tryz.zeroValue0
  t3 := Tryz.underlying3
  a3 := Tryz.isAgg3
  z3 := Tryz.sizeOf3
  v3 := Tryz.zeroValue3
  t4 := Tryz.underlying4
  a4 := Tryz.isAgg4
  z4 := Tryz.sizeOf4
  v4 := Tryz.zeroValue4
  t5 := Tryz.underlying5
  a5 := Tryz.isAgg5
  z5 := Tryz.sizeOf5
  v5 := Tryz.zeroValue5
  t9 := Tryz.underlying9
  a9 := Tryz.isAgg9
  z9 := Tryz.sizeOf9
  v9 := Tryz.zeroValue9
  t20 := Tryz.underlying20
  a20 := Tryz.isAgg20
  z20 := Tryz.sizeOf20
  v20 := Tryz.zeroValue20
  t21 := Tryz.underlying21
  a21 := Tryz.isAgg21
  z21 := Tryz.sizeOf21
  v21 := Tryz.zeroValue21
  t37 := Tryz.underlying110
  a37 := Tryz.isAgg110
  z37 := Tryz.sizeOf110
  v37 := Tryz.zeroValue110
  t46 := Tryz.underlying129
  a46 := Tryz.isAgg129
  z46 := Tryz.sizeOf129
  v46 := Tryz.zeroValue129
  t51 := Tryz.underlying150
  a51 := Tryz.isAgg150
  z51 := Tryz.sizeOf150
  v51 := Tryz.zeroValue150
  t70 := Tryz.underlying140
  a70 := Tryz.isAgg140
  z70 := Tryz.sizeOf140
  v70 := Tryz.zeroValue140
  t72 := Tryz.underlying142
  a72 := Tryz.isAgg142
  z72 := Tryz.sizeOf142
  v72 := Tryz.zeroValue142
  t75 := Tryz.underlying144
  a75 := Tryz.isAgg144
  z75 := Tryz.sizeOf144
  v75 := Tryz.zeroValue144
  t76 := Tryz.underlying145
  a76 := Tryz.isAgg145
  z76 := Tryz.sizeOf145
  v76 := Tryz.zeroValue145
  t105 := Tryz.underlying147
  a105 := Tryz.isAgg147
  z105 := Tryz.sizeOf147
  v105 := Tryz.zeroValue147
  t119 := Tryz.underlying158
  a119 := Tryz.isAgg158
  z119 := Tryz.sizeOf158
  t127 := Tryz.underlying154
  a127 := Tryz.isAgg154
  z127 := Tryz.sizeOf154
  v127 := Tryz.zeroValue154
  t138 := Tryz.underlying160
  a138 := Tryz.isAgg160
  z138 := Tryz.sizeOf160
  v138 := Tryz.zeroValue160
  t139 := Tryz.underlying161
  a139 := Tryz.isAgg161
  z139 := Tryz.sizeOf161
  v139 := Tryz.zeroValue161
  t146 := Tryz.underlying151
  a146 := Tryz.isAgg151
  z146 := Tryz.sizeOf151
  v146 := Tryz.zeroValue151
  t164 := Tryz.underlying155
  a164 := Tryz.isAgg155
  z164 := Tryz.sizeOf155
  v164 := Tryz.zeroValue155
  g1 := by kernel_rfl
  g3 := by kernel_rfl
  g4 := by kernel_rfl }
theorem Tryz.Builder_Extra_155 : Builder.Extra Tryz.prog Tryz.lays155_ren := {
  sizeBuilder := by kernel_rfl
  liesBuilder := by kernel_rfl
  t5 := Tryz.underlying5
  a5 := Tryz.isAgg5
  z5 := Tryz.sizeOf5
  v5 := Tryz.zeroValue5
  infoByte := by kernel_rfl
  cellsByte := by kernel_rfl
  sizeByte := by kernel_rfl
  neB5 := by decide }
theorem Tryz.strings_ReplaceAll (s old new : ByteArray) (m : Int) (w : World) (hs : s.size < 4294967281) (hm : w.cell? ⟨0, 0, none⟩ = some (.int .i64 m)) (h1 : 1 ≤ old.size) (hlen : s.size + Lib.countB s old * new.size ≤ 140737488355328) :
    Calls Tryz.prog 81 #[.string s, .string old, .string new] w fun e w' =>
      e = .returned (.string ⟨(Lib.replaceAll s.data.toList old.data.toList new.data.toList).toArray⟩) ∧ Below w.heap.size w w' := Any.strings_ReplaceAll Tryz.lays155 Tryz.Builder_Extra_155 s old new m w hs hm h1 hlen
end Go.Proofs

namespace Go.Proofs.YtmiinbhnfojnbaaGreatDoor
open Go Eng Go.Shelf
def cloneRen : Go.Shelf.Ren := ⟨fun | 5 => 47 | 7 => 63 | n => n, fun | 23 => 53 | 25 => 3 | 3 => 9 | n => n, fun | n => n⟩
theorem cloneLays : Go.Proofs.SlLaysW.n5 Tryz.prog cloneRen := {
  mixed := by kernel_rfl
  f5 := ⟨"maps.Clone[map[int]string,int,string]", by kernel_rfl, Tryz.func47.trans (congrArg some (by kernel_rfl))⟩
  f7 := Tryz.func63.trans (congrArg some (by kernel_rfl))
  t4 := Tryz.underlying4
  a4 := Tryz.isAgg4
  z4 := Tryz.sizeOf4
  v4 := Tryz.zeroValue4
  t20 := Tryz.underlying20
  a20 := Tryz.isAgg20
  z20 := Tryz.sizeOf20
  v20 := Tryz.zeroValue20
  t23 := Tryz.underlying53
  a23 := Tryz.isAgg53
  z23 := Tryz.sizeOf53
  v23 := Tryz.zeroValue53 }
theorem clonePrim : (WQ fun _ args H => ZI args H) ∧ VM Tryz.prog fun h args H => if h = 47 then ZI args H else none :=
  clone_prim (fun w => Go.Proofs.AnyW.maps_Clone_nil cloneLays w) fun b es clock w h => Go.Proofs.AnyW.maps_Clone cloneLays b es clock w h
end Go.Proofs.YtmiinbhnfojnbaaGreatDoor

namespace Go.Proofs.YtmiinbhnfojnbaaGreatDoor
open Go Eng
def hintList : List (List (List Nat)) := [
  [],
  [],
  [],
  [[0,1],[4],[0,1,5,6],[4],[1,5,7],[4],[],[1,5,7,8],[1,5,7,8],[1,5,7,8],[1,7,8,9],[4],[4]],
  [[0,1],[0,1,5],[0,1,5],[0,1,5],[0,1,5],[4],[4]],
  [[1],[0],[1],[0],[1],[0],[0]],
  [[0],[2,3],[2,3]],
  [[0,1],[4],[0,1],[0,1,5,6],[0,1,5,6],[0,1,5,6],[0,1,5,6,7,8],[4],[0,1,5,6,8],[0,1,5,6,7,8,9],[0,1,5,6,7,8,9],[0,1,5,6,7,8,9],[0,1,5,6,7,8,9],[4],[4]],
  [[0],[0],[0,1,5],[0,1,5],[6,7],[0,1,5],[6,7],[6,7],[0],[0,1,5],[6,7],[0,1,5,8],[6,7],[6,7],[0],[0,5,11],[6,7],[0],[0,5,13],[6,7],[0],[0,1,5,14],[6,7],[0,1,5,14],[6,7],[6,7],[0],[0,1,5],[0,1,5],[6,7],[0,1,5],[6,7],[0,5],[0,1,5,15],[0,1,5,15],[0,1,5,15],[0,1,5,15],[6,7],[6,7]],
  [[10]],
  [[10]],
  [[12]],
  [[0,2],[6],[6]],
  [[0,7],[6],[6]],
  [[0,1],[0,1],[4],[0,1],[4],[0,1],[4],[],[0,1,32,33,34],[0,1,32,33,34],[0,1,32,33,34],[0,1,6,32,33,34],[0,1,32,33,34],[4],[4]],
  [[8]],
  [[0,5],[0,5],[4],[0,5],[4],[4]],
  [[0],[2],[2]],
  [[0],[2],[2]],
  [[3],[0,3,4],[0,3,4],[0,3,4],[0,3,4,5],[0,3,4,5],[0,3,4,5],[0,3,4,5],[2]],
  [[0],[2],[2]],
  [[0,1],[4],[4]],
  [[5],[0,4,5,6],[0,4,5,6],[0,4,5,6],[0,4,5,6,7,8],[0,4,5,6,7,8],[2]],
  [[0,1,2,7,8],[6],[6]],
  [[],[0,1,5],[0,1,5],[0,1,5],[0,1,5],[4],[4]],
  [[8],[8],[6,7],[8],[6,7],[8],[6,7],[6,7]],
  [[]],
  [[0],[2],[2]],
  [[0,1,2],[0,1,2],[6,7],[0,1,2],[6,7],[0,1,2],[6,7],[0],[6,7],[6,7]],
  [[0,1,2,6],[0,1,2,6],[6,7],[0,1,2,6],[6,7],[0,1,2,6,8],[6,7],[6,9],[6,7],[6,7]],
  [[0,1,2,6],[0,1,2,6],[6,7],[0,1,2,6],[6,7],[1,6,8],[6,7],[6,8],[6,7],[6,7]],
  [[0,1,6],[4,5],[4,5]],
  [[0,3],[4]],
  [[2]],
  [[8],[5,6,8,24,25,26],[5,6,8,24,25,26],[5,6,8,24,25,26],[5,6,8,10,24,25,26],[5,6,8,24,25,26],[4]],
  [[2]],
  [[0,1,4],[4,5],[0,4,6],[4,5],[4,6,8],[4,5],[4,10],[4,5],[4,5]],
  [[0,3,5,6],[4],[0,3,5,6],[0,3,5],[4],[4]],
  [[2,3],[4],[2,3],[4],[2,3],[4],[4]],
  [[0],[2],[2]],
  [[0],[2],[2]],
  [[0,1],[4],[],[0,1,12,13],[0,1,12,13],[0,1,12,13],[0,1,12,13],[4],[4]],
  [[0],[2],[2]],
  [[1,2],[4,5,6],[4,5],[4,5,6],[4,5,6]],
  [[2]],
  [[0,1,2],[6,7,8],[0,1],[6,7,8],[6,7,8]],
  [[],[],[],[8],[8]],
  [[0],[2],[2]],
  [[0,6],[0,6],[4,5],[0,6],[4,5],[4,5]],
  [[4,5]],
  [[0,1,2],[6],[6]],
  [[1,2],[4,5,6],[4],[4,5,6],[4,7],[4,7],[4,7],[4,7],[4,7],[4,5,6]],
  [[0]],
  [[1,2,3],[6,7],[1,2,3],[6,7],[1,2,3,8],[1,2,3,8,27,28,29],[1,2,3,8,27,28,29],[1,2,3,8,27,28,29],[1,2,3,8,27,28,29],[1,2,3,8,10,27,28,29,41,42,43],[1,2,3,8,10,27,28,29,41,42,43],[1,2,3,8,10,27,28,29,41,42,43],[1,2,3,8,13,14,27,28,29,41,42,43],[6,7],[8],[6,7],[6,7]],
  [[2,3],[2]],
  [[1,3],[1,3],[1,3],[2]],
  [[0],[2],[2]],
  [[2]],
  [[0,1],[4],[],[1,12,13,14],[1,12,13,14],[1,12,13,14],[1,12,13,14],[4],[4]],
  [[0,3],[0,3,9,10,11],[0,3,9,10,11],[0,3,9,10,11],[0,3,9,10,11],[6],[6,25,26,27],[6,25,26,27],[6,25,26,27],[2]],
  [[0],[0,7,8,9],[0,7,8,9],[0,7,8,9],[4]],
  [[],[],[4],[],[4],[4]],
  [[0,1,2,7],[6],[0,1,2,7,8],[6],[0,1,2,7,8],[6],[0,1,2,7,8],[6],[6]],
  [],
  [[0,1,2,8,9],[0,1,2,8,9,10],[0,1,2,8,9,10],[0,1,2,8,9,10],[0,1,2,8,9,10],[6,7]],
  [[4]],
  [[4]],
  [[0,1,4,7],[4,5,6],[0,4,7,8],[0,4,7,8],[4,5,6],[0,4,7,8],[4,7,9,11],[4,5,6],[0,4,7,8],[0,4,7,12],[4,5,6],[4,5,6],[4,5,6]],
  [[4]],
  [[2]],
  [[2]],
  [[2,5],[2,5],[2,5],[2,5],[2,5],[4]],
  [[0,1],[0],[4]],
  [[0,3],[0,3],[4],[0,3],[0,3],[4],[0,7],[0,7,49,50],[0,7,49,50],[0,7,49,50],[4],[0,3],[4],[0],[4],[4]],
  [[4]],
  [[2]],
  [],
  [],
  [[4]],
  [[0,1,2],[6,7,8],[0,1,9],[0,1,2,9,23,24,25],[0,1,2,9,23,24,25],[0,1,2,9,23,24,25],[0,1,2,9,11,23,24,25],[6,7,8]],
  [[4]],
  [[6]],
  [[],[0,1,7,8],[0,1,7,8],[0,1,7,8],[0,1,7,8],[4],[4]],
  [[3],[0,3],[0,3],[0,3],[2]],
  [[],[0,1,7,8],[0,1,7,8],[0,1,7,8],[0,1,7,8],[4],[4]],
  [],
  [[4]],
  [[0,1,5],[0,1,5],[4],[0,1,5],[4],[0,1,5],[4],[0,1,5],[4],[],[0,1,5,6,7,8,9,10],[0,1,5,6,7,8,9,10],[0,1,5,6,7,8,9,10],[0,1,5,6,7,8,9,10],[0,1,5,6,7,8,9,10,11],[4],[0,1,5,6,7,8,9,10],[4],[0,1,5,6,7,8,9,10],[],[4],[4],[0,1,5,6,7,8,9,10],[8,13],[4],[4],[4]],
  [[0,1,2,3],[8],[0,1,2,3],[8],[0,1,2,3],[0,10,11],[0,10,11],[0,1,2,10,11,52,53],[0,1,2,10,11,52,53],[0,1,2,10,11,52,53],[0,10,11],[0,2,10,11,77,78],[0,2,10,11,77,78],[0,2,10,11,77,78],[8]],
  [[],[0,2,3],[0,2,3],[0,2,3]],
  [[],[0,2,3],[0,2,3],[0,2,3]],
  [],
  [[4]],
  [],
  [[2]],
  [[0,1,5,6,7,8],[0,1,5,6,7,8,9],[0,1,5,6,7,8,9],[0,1,5,6,7,8,9],[0,1,5,6,7,8],[4],[],[0,1,5,6,7,8,10],[0,1,5,6,7,8,10],[0,1,5,6,7,8,10],[0,1,5,6,7,8,10],[4],[4]],
  [[0,1],[4],[0,1],[4],[4],[0,1,5],[0,1,5],[0,1,5,6],[4]],
  [[0,1],[]],
  [[4,5]],
  [[2,3],[2,3],[2,3]],
  [[2]],
  [],
  [[0,4],[0,4,5],[0,4,5],[0,4,5],[4,6],[4,6,7,8],[4,6,7,8],[4,6,7,8],[4,6,7,8],[2,3]],
  [[2],[2,4],[2,4],[2,4],[2]],
  [],
  [[],[]],
  [],
  [[0,4],[2,3],[0,4,5,6],[2,3],[0,5,8,9],[2,3],[0,5,8,10],[2,3],[0,5,8,10],[2,3],[0,5,8,10,11],[2,3],[0,5,10,11],[2,3],[5,10,11,12],[2,3],[2,3]],
  [],
  [],
  [],
  [],
  [],
  [],
  [],
  [],
  [],
  [],
  [],
  [],
  [],
  [],
  [],
  [],
  [],
  [],
  [],
  [],
  [],
  [],
  [],
  []
]
def hints : Vd := fun f => (hintList[f]?).getD []
end Go.Proofs.YtmiinbhnfojnbaaGreatDoor

namespace Go.Proofs.YtmiinbhnfojnbaaGreatDoor
open Go Eng
theorem mixed : Tryz.prog.follows .mixedOrders = true := by kernel_rfl
def zIns0 : List Value := [(.string (mk [])), (.string (mk []))]
theorem insOK0 : InsOK Tryz.prog hints 62 50 3 83 zIns0 76 77 where
  mixed := mixed
  body := fun C n a0 a1 a2 H => by kernel_rfl
  hS := Tryz.underlying50
  hI := Tryz.underlying3
  hz := by kernel_rfl
  hsz := by kernel_rfl
  ovl := ⟨Tryz.f76, by kernel_rfl, by decide, by kernel_rfl, by kernel_rfl, by kernel_rfl, by kernel_rfl⟩
theorem prim80 : (WQ fun _ args H => Gx args H) ∧ VM Tryz.prog fun g args H => if g = 80 then Gx args H else none :=
  index_prim 0 (by simp [globs]) fun s t m w h1 h2 => Tryz.strings_Index s t m w h1 h2
theorem prim81 : (WQ fun _ args H => replP args H) ∧ VM Tryz.prog fun g args H => if g = 81 then replP args H else none :=
  repl_prim 0 (by simp [globs]) fun s o t m w h1 h2 h3 h4 => Tryz.strings_ReplaceAll s o t m w h1 h2 h3 h4
noncomputable def prims0 : Prims := fun f => if f = 62 then some (insP Tryz.prog hints 62 83 zIns0) else if f = 81 then some replP else if f = 80 then some Gx else if f = 47 then some ZI else none
theorem prims0_ok : PrimsOK Tryz.prog prims0 := by
  intro f p h
  unfold prims0 at h
  split at h
  · rename_i hf
    have e := Option.some.inj h
    subst hf
    rw [← e]
    exact ins_prim insOK0
  · skip
    split at h
    · rename_i hf
      have e := Option.some.inj h
      subst hf
      rw [← e]
      exact prim81
    · skip
      split at h
      · rename_i hf
        have e := Option.some.inj h
        subst hf
        rw [← e]
        exact prim80
      · skip
        split at h
        · rename_i hf
          have e := Option.some.inj h
          subst hf
          rw [← e]
          exact clonePrim
        · skip
          cases h
noncomputable def prims1 : Prims := prims0
theorem prims1_ok : PrimsOK Tryz.prog prims1 := prims0_ok
noncomputable def CC : Yc := D Tryz.prog prims1 hints
end Go.Proofs.YtmiinbhnfojnbaaGreatDoor

namespace Go.Proofs.YtmiinbhnfojnbaaGreatDoor
open Go
def F.law_JobsPlays : FuncId := 3
def F.law_small : FuncId := 4
def F.law_known : FuncId := 5
def F.jobs_New : FuncId := 6
def F.law_alike : FuncId := 7
def F.law_does : FuncId := 8
def F.law_puts : FuncId := 9
def F.law_takes : FuncId := 10
def F.law_taken : FuncId := 11
def F.jobs_Queue_Finish : FuncId := 12
def F.jobs_Queue_Back : FuncId := 13
def F.jobs_Queue_Pass : FuncId := 14
def F.law_gets : FuncId := 15
def F.jobs_Queue_Revive : FuncId := 16
def F.jobs_Queue_Jobs : FuncId := 17
def F.jobs_Queue_Now : FuncId := 18
def F.law_Model_sorted : FuncId := 19
def F.jobs_Queue_Map : FuncId := 20
def F.model_Equal : FuncId := 21
def F.law_Model_pairs : FuncId := 22
def F.model_Model_Put : FuncId := 23
def F.law_Model_find : FuncId := 24
def F.law_Model_own : FuncId := 25
def F.law_Model_back : FuncId := 26
def F.jobs_Queue_Copy : FuncId := 27
def F.jobs_Queue_Put : FuncId := 28
def F.jobs_Queue_Take : FuncId := 29
def F.jobs_Queue_taken : FuncId := 30
def F.model_Model_Delete : FuncId := 31
def F.jobs_Queue_back : FuncId := 32
def F.jobs_Queue_none : FuncId := 33
def F.jobs_Queue_in : FuncId := 34
def F.jobs_number : FuncId := 35
def F.jobs_Queue_Get : FuncId := 36
def F.jobs_Queue_set : FuncId := 37
def F.law_before : FuncId := 38
def F.model_Model_Copy : FuncId := 39
def F.model_Model_Len : FuncId := 40
def F.slices_Equal_Pair : FuncId := 41
def F.model_Model_Pairs : FuncId := 42
def F.rows_Row : FuncId := 43
def F.law_number : FuncId := 44
def F.model_Model_at : FuncId := 45
def F.model_Model_set : FuncId := 46
def F.maps_Clone_string : FuncId := 47
def F.model_Model_Get : FuncId := 48
def F.model_Model_place : FuncId := 49
def F.slices_Delete_Pair : FuncId := 50
def F.rows_Span : FuncId := 51
def F.jobs_table : FuncId := 52
def F.rows_Read : FuncId := 53
def F.jobs_job : FuncId := 54
def F.jobs_row : FuncId := 55
def F.slices_Clone_Pair : FuncId := 56
def F.rows_Valid : FuncId := 57
def F.rows_are : FuncId := 58
def F.slices_Concat_CellKind : FuncId := 59
def F.rows_puts : FuncId := 60
def F.model_check : FuncId := 61
def F.slices_Insert_Pair : FuncId := 62
def F.slices_BinarySearchFunc_string : FuncId := 64
def F.model_Model_place_1 : FuncId := 65
def F.keys_Compare : FuncId := 66
def F.rows_take : FuncId := 67
def F.slices_ContainsFunc_CellKind : FuncId := 68
def F.rows_Valid_1 : FuncId := 69
def F.rows_kind : FuncId := 70
def F.rows_proper : FuncId := 71
def F.slices_Grow_CellKind : FuncId := 72
def F.rows_put : FuncId := 73
def F.slices_ContainsFunc_string : FuncId := 74
def F.model_check_1 : FuncId := 75
def F.slices_rotateRight_Pair : FuncId := 77
def F.strings_Compare : FuncId := 78
def F.rows_number : FuncId := 79
def F.strings_Index : FuncId := 80
def F.strings_ReplaceAll : FuncId := 81
def F.slices_IndexFunc_CellKind : FuncId := 82
def F.rows_digits : FuncId := 83
def F.slices_IndexFunc_string : FuncId := 84
def F.internal_bytealg_CompareString : FuncId := 86
def F.slices_Reverse_byte : FuncId := 89
def T.tuple : TypeId := 0
def T.func : TypeId := 1
def T.int : TypeId := 3
def T.bool : TypeId := 4
def T.uint8 : TypeId := 5
def T.string : TypeId := 9
def T.interface : TypeId := 20
def T.int32 : TypeId := 21
def T.p_jobs_Queue : TypeId := 25
def T.api_Errno : TypeId := 26
def T.law_Model : TypeId := 32
def T.law_Act : TypeId := 37
def T.api_JobState : TypeId := 41
def T.api_Job : TypeId := 43
def T.p_model_Model : TypeId := 49
def T.sl_api_Pair : TypeId := 50
def T.model_Model : TypeId := 52
def T.map_int_string : TypeId := 53
def T.jobs_Queue : TypeId := 55
def T.api_CellKind : TypeId := 73
def T.uint64 : TypeId := 74
def T.api_Cell : TypeId := 76
def T.api_Pair : TypeId := 83
def T.sl_api_CellKind : TypeId := 85
def T.api_Table : TypeId := 87
def T.sl_uint8 : TypeId := 110
def T.uint : TypeId := 129
def T.error : TypeId := 144
def T.uint32 : TypeId := 150
end Go.Proofs.YtmiinbhnfojnbaaGreatDoor

namespace Go.Proofs.YtmiinbhnfojnbaaGreatDoor
open Go Eng
noncomputable def UM (mg : GT) (mc : CT) (ms : ST) (P : Program) (C : Yc) (L0 : Value → Value → Value → AHeap → K → Res) (a0 a1 : Value) (H : AHeap) (K0 : K) : Res :=
ms (fun k1 =>
L0 a0 a1 (.int .i64 0) H (YB [0, 1] 0 k1)) (Ys (fun tT h1 =>
Yb (lenS (get tT 0)) h1 fun t25 h2 =>
Yb (Yh P .leq T.int (.tmp 25) (.tmp 26) t25 (get tT 1)) h2 fun t27 h3 =>
K0 .ret [(4, t27)] h3) K0)
noncomputable def WG (mg : GT) (mc : CT) (ms : ST) (P : Program) (C : Yc) (L0 : Value → Value → Value → AHeap → K → Res) (v0 v1 v5 : Value) (H : AHeap) (k : K) : Res :=
Yb (lenS v0) H fun t8 h1 =>
Yb (Yh P .lss T.int (.tmp 6) (.tmp 8) v5 t8) h1 fun t9 h2 =>
mg t9 true (fun o2 => o2 v5 h2) h2 fun t11 h3 =>
mg t9 true (fun o3 => o3 v1 h3) h3 fun t12 h4 =>
mg t9 true (fun o4 => Yb (Yh P .lss T.int (.tmp 11) (.tmp 12) t11 t12) h4 o4) h4 fun t13 h5 =>
YG t9 t13 (.bool false) fun t14 =>
mc t14 (fun k5 => k5 .normal [(0, v0), (1, v1), (5, v5)] h5) (fun k5 =>
k5 (.exit 0) [(14, t14), (13, t13), (12, t12), (11, t11), (10, t9), (9, t9), (8, t8), (7, v0), (6, v5), (0, v0), (1, v1), (5, v5)] h5) (Ys (fun tT h6 =>
ms (fun k6 =>
Yb (ixS 4 (get tT 0) (get tT 5)) h6 fun t19 h7 =>
Yb (fad 3 t19) h7 fun t20 h8 =>
Yb (ld1 h8 t20) h8 fun t21 h9 =>
Yb (lenT t21) h9 fun t22 h10 =>
Yb (Yh P .gtr T.int (.tmp 22) (.const (.int .i64 20)) t22 (.int .i64 20)) h10 fun t23 h11 =>
mc t23 (fun k7 => k7 .ret [(4, (.bool false))] h11) (fun k7 =>
k7 .normal [(0, (get tT 0)), (1, (get tT 1)), (5, (get tT 5))] h11) (YB [0, 1, 5] 1 k6)) (Ys (fun tT_1 h12 =>
Yb (Yh P .add T.int (.tmp 15) (.const (.int .i64 1)) (get tT_1 5) (.int .i64 1)) h12 fun t16 h13 =>
k .normal [(0, (get tT_1 0)), (1, (get tT_1 1)), (5, t16)] h13) (Yn [0, 1, 5] k))) (Yn [0, 1, 5] k))
theorem s_law_small_eq (M : CombL) (C : Yc) (LP : Yx) (a0 a1 : Value) (H : AHeap) : Yw M Tryz.prog hints C LP F.law_small [a0, a1] H = UM M.b.g M.c M.s Tryz.prog C (fun v0 v1 v5 H k => Yv M Tryz.prog hints C LP F.law_small 0 [(0, v0), (1, v1), (5, v5)] H k) a0 a1 H (Yj Tryz.prog [.tmp 4]) := by kernel_rfl
theorem s_law_small_b0_eq (M : CombL) (C : Yc) (LP : Yx) (v0 v1 v5 : Value) (H : AHeap) (k : K) : W3 M Tryz.prog hints C LP F.law_small 0 [(0, v0), (1, v1), (5, v5)] H (Yn [0, 1, 5] k) = WG M.b.g M.c M.s Tryz.prog C (fun v0 v1 v5 H k => Yv M Tryz.prog hints C LP F.law_small 0 [(0, v0), (1, v1), (5, v5)] H k) v0 v1 v5 H k := by kernel_rfl
noncomputable def QA (mg : GT) (mc : CT) (ms : ST) (P : Program) (C : Yc) (H : AHeap) (K0 : K) : Res :=
Yg C F.jobs_New [(.int .i64 2)] H fun t5 h1 =>
Yb (Yp t5 0) h1 fun t6 h2 =>
Yb (Yp t5 1) h2 fun t7 h3 =>
Yb (Yh P .eql T.p_jobs_Queue (.tmp 8) (.const (.pointer none)) t6 (.pointer none)) h3 fun t9 h4 =>
mg t9 false (fun o1 => o1 t7 h4) h4 fun t11 h5 =>
mg t9 false (fun o2 => Yb (Yh P .neq T.api_Errno (.tmp 11) (.const (.int .i64 0)) t11 (.int .i64 0)) h5 o2) h5 fun t12 h6 =>
YG t9 (.bool true) t12 fun t13 =>
mg t13 false (fun o3 => o3 t6 h6) h6 fun t15 h7 =>
mg t13 false (fun o4 => Yg C F.law_puts [t15, (.int .i64 3), (.string (mk [97])), (.int .i64 1), (.int .i64 0)] h7 o4) h7 fun t16 h8 =>
mg t13 false (fun o5 => Yb (xun P .not t16) h8 o5) h8 fun t17 h9 =>
YG t13 (.bool true) t17 fun t18 =>
mg t18 false (fun o6 => o6 t6 h9) h9 fun t20 h10 =>
mg t18 false (fun o7 => Yg C F.law_puts [t20, (.int .i64 7), (.string (mk [98])), (.int .i64 2), (.int .i64 0)] h10 o7) h10 fun t21 h11 =>
mg t18 false (fun o8 => Yb (xun P .not t21) h11 o8) h11 fun t22 h12 =>
YG t18 (.bool true) t22 fun t23 =>
mg t23 false (fun o9 => o9 t6 h12) h12 fun t25 h13 =>
mg t23 false (fun o10 => Yg C F.law_puts [t25, (.int .i64 3), (.string (mk [99])), (.int .i64 3), (.int .i64 0)] h13 o10) h13 fun t26 h14 =>
mg t23 false (fun o11 => Yb (xun P .not t26) h14 o11) h14 fun t27 h15 =>
YG t23 (.bool true) t27 fun t28 =>
mg t28 false (fun o12 => o12 t6 h15) h15 fun t30 h16 =>
mg t28 false (fun o13 => Yg C F.law_taken [(.int .i64 2), (.int .i64 7), (.string (mk [98])), (.int .i64 1), (.int .i64 5), (.int .i64 10)] h16 o13) h16 fun t31 h17 =>
mg t28 false (fun o14 => Yg C F.law_takes [t30, (.int .i64 5), (.int .i64 10), t31, (.int .i64 0)] h17 o14) h17 fun t32 h18 =>
mg t28 false (fun o15 => Yb (xun P .not t32) h18 o15) h18 fun t33 h19 =>
YG t28 (.bool true) t33 fun t34 =>
mg t34 false (fun o16 => o16 t6 h19) h19 fun t36 h20 =>
mg t34 false (fun o17 => Yg C F.law_taken [(.int .i64 1), (.int .i64 3), (.string (mk [97])), (.int .i64 1), (.int .i64 6), (.int .i64 4)] h20 o17) h20 fun t37 h21 =>
mg t34 false (fun o18 => Yg C F.law_takes [t36, (.int .i64 6), (.int .i64 4), t37, (.int .i64 0)] h21 o18) h21 fun t38 h22 =>
mg t34 false (fun o19 => Yb (xun P .not t38) h22 o19) h22 fun t39 h23 =>
YG t34 (.bool true) t39 fun t40 =>
mc t40 (fun k20 => k20 .ret [(0, (.bool false))] h23) (fun k20 =>
k20 .normal [(1, t6)] h23) (Ys (fun tT h24 =>
Yg C F.jobs_Queue_Finish [(get tT 1), (.int .i64 5), (.int .i64 2)] h24 fun t42 h25 =>
Yb (Yh P .neq T.api_Errno (.tmp 42) (.const (.int .i64 0)) t42 (.int .i64 0)) h25 fun t43 h26 =>
mg t43 false (fun o21 => o21 (get tT 1) h26) h26 fun t45 h27 =>
mg t43 false (fun o22 => Yg C F.jobs_Queue_Finish [t45, (.int .i64 5), (.int .i64 1)] h27 o22) h27 fun t46 h28 =>
mg t43 false (fun o23 => Yb (Yh P .neq T.api_Errno (.tmp 46) (.const (.int .i64 8)) t46 (.int .i64 8)) h28 o23) h28 fun t47 h29 =>
YG t43 (.bool true) t47 fun t48 =>
mg t48 false (fun o24 => o24 (get tT 1) h29) h29 fun t50 h30 =>
mg t48 false (fun o25 => Yg C F.jobs_Queue_Back [t50, (.int .i64 6), (.int .i64 1)] h30 o25) h30 fun t51 h31 =>
mg t48 false (fun o26 => Yb (Yh P .neq T.api_Errno (.tmp 51) (.const (.int .i64 0)) t51 (.int .i64 0)) h31 o26) h31 fun t52 h32 =>
YG t48 (.bool true) t52 fun t53 =>
mg t53 false (fun o27 => o27 (get tT 1) h32) h32 fun t55 h33 =>
mg t53 false (fun o28 => Yg C F.law_taken [(.int .i64 1), (.int .i64 3), (.string (mk [97])), (.int .i64 2), (.int .i64 6), (.int .i64 4)] h33 o28) h33 fun t56 h34 =>
mg t53 false (fun o29 => Yg C F.law_takes [t55, (.int .i64 6), (.int .i64 4), t56, (.int .i64 0)] h34 o29) h34 fun t57 h35 =>
mg t53 false (fun o30 => Yb (xun P .not t57) h35 o30) h35 fun t58 h36 =>
YG t53 (.bool true) t58 fun t59 =>
mg t59 false (fun o31 => o31 (get tT 1) h36) h36 fun t61 h37 =>
mg t59 false (fun o32 => Yg C F.jobs_Queue_Pass [t61, (.int .i64 4)] h37 o32) h37 fun t62 h38 =>
mg t59 false (fun o33 => Yb (Yh P .neq T.api_Errno (.tmp 62) (.const (.int .i64 0)) t62 (.int .i64 0)) h38 o33) h38 fun t63 h39 =>
YG t59 (.bool true) t63 fun t64 =>
mg t64 false (fun o34 => o34 (get tT 1) h39) h39 fun t66 h40 =>
mg t64 false (fun o35 => Yb (W9 #[(.int .i64 0), (.int .i64 0), (.string (mk [])), (.int .i64 0), (.int .i64 0), (.int .i64 0), (.int .i64 0)] [(0, 1), (1, 1), (2, 1), (3, 1), (4, 1), (5, 1), (6, 1)] [(0, (.int .i64 1)), (1, (.int .i64 3)), (2, (.string (mk [97]))), (3, (.int .i64 3)), (4, (.int .i64 2))]) h40 o35) h40 fun t67 h41 =>
mg t64 false (fun o36 => Yg C F.law_gets [t66, (.int .i64 1), t67, (.int .i64 0)] h41 o36) h41 fun t68 h42 =>
mg t64 false (fun o37 => Yb (xun P .not t68) h42 o37) h42 fun t69 h43 =>
YG t64 (.bool true) t69 fun t70 =>
mc t70 (fun k38 => k38 .ret [(0, (.bool false))] h43) (fun k38 =>
k38 .normal [(1, (get tT 1))] h43) (Ys (fun tT_1 h44 =>
Yg C F.law_taken [(.int .i64 3), (.int .i64 3), (.string (mk [99])), (.int .i64 1), (.int .i64 9), (.int .i64 5)] h44 fun t72 h45 =>
Yg C F.law_takes [(get tT_1 1), (.int .i64 9), (.int .i64 1), t72, (.int .i64 0)] h45 fun t73 h46 =>
Yb (xun P .not t73) h46 fun t74 h47 =>
mg t74 false (fun o39 => o39 (get tT_1 1) h47) h47 fun t76 h48 =>
mg t74 false (fun o40 => Yb (W9 #[(.int .i64 0), (.int .i64 0), (.string (mk [])), (.int .i64 0), (.int .i64 0), (.int .i64 0), (.int .i64 0)] [(0, 1), (1, 1), (2, 1), (3, 1), (4, 1), (5, 1), (6, 1)] []) h48 o40) h48 fun t77 h49 =>
mg t74 false (fun o41 => Yg C F.law_takes [t76, (.int .i64 9), (.int .i64 1), t77, (.int .i64 9)] h49 o41) h49 fun t78 h50 =>
mg t74 false (fun o42 => Yb (xun P .not t78) h50 o42) h50 fun t79 h51 =>
YG t74 (.bool true) t79 fun t80 =>
mg t80 false (fun o43 => o43 (get tT_1 1) h51) h51 fun t82 h52 =>
mg t80 false (fun o44 => Yg C F.jobs_Queue_Revive [t82, (.int .i64 1)] h52 o44) h52 fun t83 h53 =>
mg t80 false (fun o45 => Yb (Yh P .neq T.api_Errno (.tmp 83) (.const (.int .i64 0)) t83 (.int .i64 0)) h53 o45) h53 fun t84 h54 =>
YG t80 (.bool true) t84 fun t85 =>
mg t85 false (fun o46 => o46 (get tT_1 1) h54) h54 fun t87 h55 =>
mg t85 false (fun o47 => Yb (W9 #[(.int .i64 0), (.int .i64 0), (.string (mk [])), (.int .i64 0), (.int .i64 0), (.int .i64 0), (.int .i64 0)] [(0, 1), (1, 1), (2, 1), (3, 1), (4, 1), (5, 1), (6, 1)] [(0, (.int .i64 1)), (1, (.int .i64 3)), (2, (.string (mk [97]))), (3, (.int .i64 1))]) h55 o47) h55 fun t88 h56 =>
mg t85 false (fun o48 => Yg C F.law_gets [t87, (.int .i64 1), t88, (.int .i64 0)] h56 o48) h56 fun t89 h57 =>
mg t85 false (fun o49 => Yb (xun P .not t89) h57 o49) h57 fun t90 h58 =>
YG t85 (.bool true) t90 fun t91 =>
mg t91 false (fun o50 => o50 (get tT_1 1) h58) h58 fun t93 h59 =>
mg t91 false (fun o51 => Yg C F.jobs_Queue_Pass [t93, (.int .i64 3)] h59 o51) h59 fun t94 h60 =>
mg t91 false (fun o52 => Yb (Yh P .neq T.api_Errno (.tmp 94) (.const (.int .i64 14)) t94 (.int .i64 14)) h60 o52) h60 fun t95 h61 =>
YG t91 (.bool true) t95 fun t96 =>
mg t96 false (fun o53 => o53 (get tT_1 1) h61) h61 fun t98 h62 =>
mg t96 false (fun o54 => Yg C F.law_puts [t98, (.int .i64 10), (.string (mk [120])), (.int .i64 0), (.int .i64 2)] h62 o54) h62 fun t99 h63 =>
mg t96 false (fun o55 => Yb (xun P .not t99) h63 o55) h63 fun t100 h64 =>
YG t96 (.bool true) t100 fun t101 =>
mc t101 (fun k56 => k56 .ret [(0, (.bool false))] h64) (fun k56 =>
k56 .normal [(1, (get tT_1 1))] h64) (Ys (fun tT_2 h65 =>
Yg C F.jobs_Queue_Jobs [(get tT_2 1)] h65 fun t103 h66 =>
Yb (lenS t103) h66 fun t105 h67 =>
Yb (Yh P .eql T.int (.tmp 105) (.const (.int .i64 2)) t105 (.int .i64 2)) h67 fun t106 h68 =>
mg t106 true (fun o57 => o57 t103 h68) h68 fun t108 h69 =>
mg t106 true (fun o58 => Yb (ixS 7 t108 (.int .i64 0)) h69 o58) h69 fun t109 h70 =>
mg t106 true (fun o59 => Yb (fad 0 t109) h70 o59) h70 fun t110 h71 =>
mg t106 true (fun o60 => Yb (ld1 h71 t110) h71 o60) h71 fun t111 h72 =>
mg t106 true (fun o61 => Yb (Yh P .eql T.int (.tmp 111) (.const (.int .i64 1)) t111 (.int .i64 1)) h72 o61) h72 fun t112 h73 =>
YG t106 t112 (.bool false) fun t113 =>
mg t113 true (fun o62 => o62 t103 h73) h73 fun t115 h74 =>
mg t113 true (fun o63 => Yb (ixS 7 t115 (.int .i64 1)) h74 o63) h74 fun t116 h75 =>
mg t113 true (fun o64 => Yb (fad 0 t116) h75 o64) h75 fun t117 h76 =>
mg t113 true (fun o65 => Yb (ld1 h76 t117) h76 o65) h76 fun t118 h77 =>
mg t113 true (fun o66 => Yb (Yh P .eql T.int (.tmp 118) (.const (.int .i64 3)) t118 (.int .i64 3)) h77 o66) h77 fun t119 h78 =>
YG t113 t119 (.bool false) fun t120 =>
K0 .ret [(0, t120)] h78) K0)) K0)) K0)
theorem s_law_known_eq (M : CombL) (C : Yc) (LP : Yx) (H : AHeap) : Yw M Tryz.prog hints C LP F.law_known [] H = QA M.b.g M.c M.s Tryz.prog C H (Yj Tryz.prog [.tmp 0]) := by kernel_rfl
noncomputable def Uy (mg : GT) (mc : CT) (ms : ST) (P : Program) (C : Yc) (a0 : Value) (H : AHeap) (K0 : K) : Res :=
Yb (Yh P .lss T.int (.tmp 4) (.const (.int .i64 1)) a0 (.int .i64 1)) H fun t5 h1 =>
mg t5 false (fun o1 => o1 a0 h1) h1 fun t7 h2 =>
mg t5 false (fun o2 => Yb (Yh P .gtr T.int (.tmp 7) (.const (.int .i64 100)) t7 (.int .i64 100)) h2 o2) h2 fun t8 h3 =>
YG t5 (.bool true) t8 fun t9 =>
mc t9 (fun k3 => k3 .ret [(2, (.pointer none)), (3, (.int .i64 2))] h3) (fun k3 =>
k3 .normal [(0, a0)] h3) (Ys (fun tT h4 =>
Yb (W9 #[(.slice none 0 0)] [(0, 1)] []) h4 fun t10 h5 =>
Yq (Xs T.model_Model t10 h5) fun t11 h6 =>
Yq (Un P T.map_int_string none h6) fun t12 h7 =>
Yb (W9 #[(.pointer none), (.map none), (.int .i64 0), (.int .i64 0), (.int .i64 0)] [(0, 1), (1, 1), (2, 1), (3, 1), (4, 1)] [(0, t11), (1, t12), (2, (get tT 0))]) h7 fun t14 h8 =>
Yq (Xs T.jobs_Queue t14 h8) fun t15 h9 =>
K0 .ret [(2, t15), (3, (.int .i64 0))] h9) K0)
theorem s_jobs_New_eq (M : CombL) (C : Yc) (LP : Yx) (a0 : Value) (H : AHeap) : Yw M Tryz.prog hints C LP F.jobs_New [a0] H = Uy M.b.g M.c M.s Tryz.prog C a0 H (Yj Tryz.prog [.tmp 2, .tmp 3]) := by kernel_rfl
noncomputable def QG (mg : GT) (mc : CT) (ms : ST) (P : Program) (C : Yc) (L0 : Value → Value → Value → Value → AHeap → K → Res) (L1 : Value → Value → Value → Value → Value → Value → Value → AHeap → K → Res) (a0 a1 : Value) (H : AHeap) (K0 : K) : Res :=
Yb (Yh P .eql T.p_jobs_Queue (.tmp 10) (.const (.pointer none)) a0 (.pointer none)) H fun t11 h1 =>
mg t11 false (fun o1 => o1 a0 h1) h1 fun t13 h2 =>
mg t11 false (fun o2 => Yg C F.jobs_Queue_Now [t13] h2 o2) h2 fun t14 h3 =>
mg t11 false (fun o3 => o3 a1 h3) h3 fun t15 h4 =>
mg t11 false (fun o4 => Yb (Yl t15) h4 o4) h4 fun t16 h5 =>
mg t11 false (fun o5 => Yb (fad 3 t16) h5 o5) h5 fun t17 h6 =>
mg t11 false (fun o6 => Yb (ld1 h6 t17) h6 o6) h6 fun t18 h7 =>
mg t11 false (fun o7 => Yb (Yh P .neq T.int (.tmp 14) (.tmp 18) t14 t18) h7 o7) h7 fun t19 h8 =>
YG t11 (.bool true) t19 fun t20 =>
YX (okV (goesV t11 false) none h2 h3 h3 h4 && (okV (goesV t11 false) none h2 h3 h4 h5 && (okV (goesV t11 false) none h2 h3 h5 h6 && (okV (goesV t11 false) (Ye t17) h2 h3 h6 h7 && true)))) <|
mc t20 (fun k8 => k8 .ret [(4, (.bool false))] h8) (fun k8 =>
k8 .normal [(0, a0), (1, a1)] h8) (Ys (fun tT h9 =>
Yg C F.law_Model_sorted [(get tT 1)] h9 fun t22 h10 =>
ms (fun k9 =>
L0 (get tT 0) (get tT 1) t22 (.int .i64 0) h10 (YB [0, 1] 0 k9)) (Ys (fun tT_1 h11 =>
Yb (Yl (get tT_1 1)) h11 fun t84 h12 =>
Yb (fad 2 t84) h12 fun t85 h13 =>
Yb (ld1 h13 t85) h13 fun t86 h14 =>
Yb (Yh P .add T.int (.tmp 86) (.const (.int .i64 1)) t86 (.int .i64 1)) h14 fun t87 h15 =>
Yb (W9 #[(.int .i64 0), (.int .i64 0), (.string (mk [])), (.int .i64 0), (.int .i64 0), (.int .i64 0), (.int .i64 0)] [(0, 1), (1, 1), (2, 1), (3, 1), (4, 1), (5, 1), (6, 1)] []) h15 fun t88 h16 =>
Yg C F.law_gets [(get tT_1 0), t87, t88, (.int .i64 9)] h16 fun t89 h17 =>
mg t89 true (fun o10 => o10 (get tT_1 0) h17) h17 fun t91 h18 =>
mg t89 true (fun o11 => Yb (W9 #[(.int .i64 0), (.int .i64 0), (.string (mk [])), (.int .i64 0), (.int .i64 0), (.int .i64 0), (.int .i64 0)] [(0, 1), (1, 1), (2, 1), (3, 1), (4, 1), (5, 1), (6, 1)] []) h18 o11) h18 fun t92 h19 =>
mg t89 true (fun o12 => Yg C F.law_gets [t91, (.int .i64 0), t92, (.int .i64 9)] h19 o12) h19 fun t93 h20 =>
YG t89 t93 (.bool false) fun t94 =>
K0 .ret [(4, t94)] h20) K0)) K0)
noncomputable def U5 (mg : GT) (mc : CT) (ms : ST) (P : Program) (C : Yc) (L0 : Value → Value → Value → Value → AHeap → K → Res) (L1 : Value → Value → Value → Value → Value → Value → Value → AHeap → K → Res) (v0 v1 v5 v6 : Value) (H : AHeap) (k : K) : Res :=
Yb (Yh P .lss T.int (.tmp 23) (.const (.int .i64 2)) v6 (.int .i64 2)) H fun t24 h11 =>
mc t24 (fun k10 => k10 .normal [(0, v0), (1, v1), (5, v5), (6, v6)] h11) (fun k10 =>
k10 (.exit 0) [(24, t24), (23, v6), (0, v0), (1, v1), (5, v5), (6, v6)] h11) (Ys (fun tT h12 =>
ms (fun k11 =>
Yg C F.jobs_Queue_Jobs [(get tT 0)] h12 fun t28 h13 =>
Yg C F.jobs_Queue_Map [(get tT 0)] h13 fun t30 h14 =>
Yb (lenS t28) h14 fun t32 h15 =>
Yb (lenS (get tT 5)) h15 fun t34 h16 =>
Yb (Yh P .neq T.int (.tmp 32) (.tmp 34) t32 t34) h16 fun t35 h17 =>
mg t35 false (fun o12 => o12 t30 h17) h17 fun t37 h18 =>
mg t35 false (fun o13 => Yb (Yh P .eql T.p_model_Model (.tmp 37) (.const (.pointer none)) t37 (.pointer none)) h18 o13) h18 fun t38 h19 =>
YG t35 (.bool true) t38 fun t39 =>
mg t39 false (fun o14 => o14 t30 h19) h19 fun t41 h20 =>
mg t39 false (fun o15 => o15 (get tT 1) h20) h20 fun t42 h21 =>
mg t39 false (fun o16 => Yg C F.law_Model_pairs [t42] h21 o16) h21 fun t43 h22 =>
mg t39 false (fun o17 => Yg C F.model_Equal [t41, t43] h22 o17) h22 fun t44 h23 =>
mg t39 false (fun o18 => Yb (xun P .not t44) h23 o18) h23 fun t45 h24 =>
YG t39 (.bool true) t45 fun t46 =>
mc t46 (fun k19 => k19 .ret [(4, (.bool false))] h24) (fun k19 =>
k19 .normal [(0, (get tT 0)), (1, (get tT 1)), (5, (get tT 5)), (6, (get tT 6)), (7, t28), (8, t30)] h24) (Ys (fun tT_1 h25 =>
ms (fun k20 =>
L1 (get tT_1 0) (get tT_1 1) (get tT_1 5) (get tT_1 6) (get tT_1 7) (get tT_1 8) (.int .i64 0) h25 (YB [0, 1, 5, 6, 8] 2 k20)) (Ys (fun tT_2 h26 =>
Yg C F.model_Model_Put [(get tT_2 8), (.string (mk [111, 116, 104, 101, 114])), (.string (mk []))] h26 fun t81 h27 =>
k11 .normal [(0, (get tT_2 0)), (1, (get tT_2 1)), (5, (get tT_2 5)), (6, (get tT_2 6))] h27) (YB [0, 1, 5, 6] 1 k11))) (YB [0, 1, 5, 6] 1 k11))) (Ys (fun tT_3 h28 =>
Yb (Yh P .add T.int (.tmp 25) (.const (.int .i64 1)) (get tT_3 6) (.int .i64 1)) h28 fun t26 h29 =>
k .normal [(0, (get tT_3 0)), (1, (get tT_3 1)), (5, (get tT_3 5)), (6, t26)] h29) (Yn [0, 1, 5, 6] k))) (Yn [0, 1, 5, 6] k))
noncomputable def Qa (mg : GT) (mc : CT) (ms : ST) (P : Program) (C : Yc) (L0 : Value → Value → Value → Value → AHeap → K → Res) (L1 : Value → Value → Value → Value → Value → Value → Value → AHeap → K → Res) (v0 v1 v5 v6 v7 v8 v9 : Value) (H : AHeap) (k : K) : Res :=
Yb (lenS v7) H fun t49 h26 =>
Yb (Yh P .lss T.int (.tmp 47) (.tmp 49) v9 t49) h26 fun t50 h27 =>
mc t50 (fun k21 => k21 .normal [(0, v0), (1, v1), (5, v5), (6, v6), (7, v7), (8, v8), (9, v9)] h27) (fun k21 =>
k21 (.exit 2) [(50, t50), (49, t49), (48, v7), (47, v9), (0, v0), (1, v1), (5, v5), (6, v6), (7, v7), (8, v8), (9, v9)] h27) (Ys (fun tT h28 =>
ms (fun k22 =>
Yb (ixS 7 (get tT 7) (get tT 9)) h28 fun t55 h29 =>
Yb (ldN 7 h29 t55) h29 fun t56 h30 =>
Yb (ixS 7 (get tT 5) (get tT 9)) h30 fun t59 h31 =>
Yb (ldN 7 h31 t59) h31 fun t60 h32 =>
Yb (Yh P .neq T.api_Job (.tmp 56) (.tmp 60) t56 t60) h32 fun t61 h33 =>
mg t61 false (fun o23 => o23 (get tT 0) h33) h33 fun t63 h34 =>
mg t61 false (fun o24 => o24 (get tT 7) h34) h34 fun t64 h35 =>
mg t61 false (fun o25 => o25 (get tT 9) h35) h35 fun t65 h36 =>
mg t61 false (fun o26 => Yb (ixS 7 t64 t65) h36 o26) h36 fun t66 h37 =>
mg t61 false (fun o27 => Yb (fad 0 t66) h37 o27) h37 fun t67 h38 =>
mg t61 false (fun o28 => Yb (ld1 h38 t67) h38 o28) h38 fun t68 h39 =>
mg t61 false (fun o29 => o29 (get tT 5) h39) h39 fun t69 h40 =>
mg t61 false (fun o30 => o30 (get tT 9) h40) h40 fun t70 h41 =>
mg t61 false (fun o31 => Yb (ixS 7 t69 t70) h41 o31) h41 fun t71 h42 =>
mg t61 false (fun o32 => Yb (ldN 7 h42 t71) h42 o32) h42 fun t72 h43 =>
mg t61 false (fun o33 => Yg C F.law_gets [t63, t68, t72, (.int .i64 0)] h43 o33) h43 fun t73 h44 =>
mg t61 false (fun o34 => Yb (xun P .not t73) h44 o34) h44 fun t74 h45 =>
YG t61 (.bool true) t74 fun t75 =>
YX true <|
mc t75 (fun k35 => k35 .ret [(4, (.bool false))] h45) (fun k35 =>
k35 .normal [(0, (get tT 0)), (1, (get tT 1)), (5, (get tT 5)), (6, (get tT 6)), (7, (get tT 7)), (8, (get tT 8)), (9, (get tT 9))] h45) (Ys (fun tT_1 h46 =>
Yb (ixS 7 (get tT_1 7) (get tT_1 9)) h46 fun t78 h47 =>
Yb (fad 4 t78) h47 fun t79 h48 =>
Yt (st1 h48 t79 (.int .i64 77)) fun _ h49 =>
k22 .normal [(0, (get tT_1 0)), (1, (get tT_1 1)), (5, (get tT_1 5)), (6, (get tT_1 6)), (7, (get tT_1 7)), (8, (get tT_1 8)), (9, (get tT_1 9))] h49) (YB [0, 1, 5, 6, 7, 8, 9] 3 k22))) (Ys (fun tT_2 h50 =>
Yb (Yh P .add T.int (.tmp 51) (.const (.int .i64 1)) (get tT_2 9) (.int .i64 1)) h50 fun t52 h51 =>
k .normal [(0, (get tT_2 0)), (1, (get tT_2 1)), (5, (get tT_2 5)), (6, (get tT_2 6)), (7, (get tT_2 7)), (8, (get tT_2 8)), (9, t52)] h51) (Yn [0, 1, 5, 6, 7, 8, 9] k))) (Yn [0, 1, 5, 6, 7, 8, 9] k))
theorem s_law_alike_eq (M : CombL) (C : Yc) (LP : Yx) (a0 a1 : Value) (H : AHeap) : Yw M Tryz.prog hints C LP F.law_alike [a0, a1] H = QG M.b.g M.c M.s Tryz.prog C (fun v0 v1 v5 v6 H k => Yv M Tryz.prog hints C LP F.law_alike 0 [(0, v0), (1, v1), (5, v5), (6, v6)] H k) (fun v0 v1 v5 v6 v7 v8 v9 H k => Yv M Tryz.prog hints C LP F.law_alike 1 [(0, v0), (1, v1), (5, v5), (6, v6), (7, v7), (8, v8), (9, v9)] H k) a0 a1 H (Yj Tryz.prog [.tmp 4]) := by kernel_rfl
theorem s_law_alike_b0_eq (M : CombL) (C : Yc) (LP : Yx) (v0 v1 v5 v6 : Value) (H : AHeap) (k : K) : W3 M Tryz.prog hints C LP F.law_alike 0 [(0, v0), (1, v1), (5, v5), (6, v6)] H (Yn [0, 1, 5, 6] k) = U5 M.b.g M.c M.s Tryz.prog C (fun v0 v1 v5 v6 H k => Yv M Tryz.prog hints C LP F.law_alike 0 [(0, v0), (1, v1), (5, v5), (6, v6)] H k) (fun v0 v1 v5 v6 v7 v8 v9 H k => Yv M Tryz.prog hints C LP F.law_alike 1 [(0, v0), (1, v1), (5, v5), (6, v6), (7, v7), (8, v8), (9, v9)] H k) v0 v1 v5 v6 H k := by kernel_rfl
theorem s_law_alike_b1_eq (M : CombL) (C : Yc) (LP : Yx) (v0 v1 v5 v6 v7 v8 v9 : Value) (H : AHeap) (k : K) : W3 M Tryz.prog hints C LP F.law_alike 1 [(0, v0), (1, v1), (5, v5), (6, v6), (7, v7), (8, v8), (9, v9)] H (Yn [0, 1, 5, 6, 7, 8, 9] k) = Qa M.b.g M.c M.s Tryz.prog C (fun v0 v1 v5 v6 H k => Yv M Tryz.prog hints C LP F.law_alike 0 [(0, v0), (1, v1), (5, v5), (6, v6)] H k) (fun v0 v1 v5 v6 v7 v8 v9 H k => Yv M Tryz.prog hints C LP F.law_alike 1 [(0, v0), (1, v1), (5, v5), (6, v6), (7, v7), (8, v8), (9, v9)] H k) v0 v1 v5 v6 v7 v8 v9 H k := by kernel_rfl
noncomputable def YJ (mg : GT) (mc : CT) (ms : ST) (P : Program) (C : Yc) (L0 : Value → Value → Value → Value → AHeap → K → Res) (a0 a1 a2 : Value) (H : AHeap) (K0 : K) : Res :=
Yq (Xs T.law_Act a2 H) fun t5 h1 =>
Yb (fad 0 t5) h1 fun t17 h2 =>
Yb (ld1 h2 t17) h2 fun t18 h3 =>
ms (fun k1 =>
Yb (Yh P .eql T.int (.tmp 18) (.const (.int .i64 0)) t18 (.int .i64 0)) h3 fun t20 h4 =>
mc t20 (fun k2 => ms (fun k3 =>
Yb (fad 2 t5) h4 fun t22 h5 =>
Yb (ld1 h5 t22) h5 fun t23 h6 =>
Yb (Yh P .lss T.int (.tmp 23) (.const (.int .i64 0)) t23 (.int .i64 0)) h6 fun t24 h7 =>
mg t24 false (fun o4 => Yb (fad 2 t5) h7 o4) h7 fun t26 h8 =>
mg t24 false (fun o5 => Yb (ld1 h8 t26) h8 o5) h8 fun t27 h9 =>
mg t24 false (fun o6 => Yb (Yh P .gtr T.int (.tmp 27) (.const (.int .i64 9)) t27 (.int .i64 9)) h9 o6) h9 fun t28 h10 =>
YG t24 (.bool true) t28 fun t29 =>
mc t29 (fun k7 => Yb (fad 2 t5) h10 fun t32 h11 =>
Yb (ld1 h11 t32) h11 fun t33 h12 =>
Yb (fad 3 t5) h12 fun t34 h13 =>
Yb (ld1 h13 t34) h13 fun t35 h14 =>
Yg C F.law_puts [a0, t33, t35, (.int .i64 0), (.int .i64 2)] h14 fun t36 h15 =>
k7 .ret [(6, a0), (7, t36)] h15) (fun k7 =>
Yb (fad 3 t5) h10 fun t38 h16 =>
Yb (ld1 h16 t38) h16 fun t39 h17 =>
Yb (lenT t39) h17 fun t40 h18 =>
Yb (Yh P .gtr T.int (.tmp 40) (.const (.int .i64 15)) t40 (.int .i64 15)) h18 fun t41 h19 =>
mc t41 (fun k8 => Yb (fad 2 t5) h19 fun t44 h20 =>
Yb (ld1 h20 t44) h20 fun t45 h21 =>
Yb (fad 3 t5) h21 fun t46 h22 =>
Yb (ld1 h22 t46) h22 fun t47 h23 =>
Yg C F.law_puts [a0, t45, t47, (.int .i64 0), (.int .i64 5)] h23 fun t48 h24 =>
k8 .ret [(6, a0), (7, t48)] h24) (fun k8 =>
k8 .normal [(0, a0), (1, a1), (5, t5)] h19) (Yn [0, 1, 5] k7)) (YB [0, 1, 5] 1 k3)) (Ys (fun tT h25 =>
Yb (Yl (get tT 1)) h25 fun t50 h26 =>
Yb (fad 2 t50) h26 fun t51 h27 =>
Yb (ld1 h27 t51) h27 fun t52 h28 =>
Yb (Yh P .add T.int (.tmp 52) (.const (.int .i64 1)) t52 (.int .i64 1)) h28 fun t53 h29 =>
Yb (Yl (get tT 1)) h29 fun t54 h30 =>
Yb (fad 2 t54) h30 fun t55 h31 =>
Yt (st1 h31 t55 t53) fun _ h32 =>
Yb (Yl (get tT 1)) h32 fun t58 h33 =>
Yb (fad 0 t58) h33 fun t59 h34 =>
Yb (ld1 h34 t59) h34 fun t60 h35 =>
Yq (app T.api_Job 7 64 (.slice none 0 0) (Wi 7 t60 h35) h35) fun t61 h36 =>
Yb (Yl (get tT 1)) h36 fun t63 h37 =>
Yb (fad 2 t63) h37 fun t64 h38 =>
Yb (ld1 h38 t64) h38 fun t65 h39 =>
Yb (fad 2 (get tT 5)) h39 fun t66 h40 =>
Yb (ld1 h40 t66) h40 fun t67 h41 =>
Yb (fad 3 (get tT 5)) h41 fun t68 h42 =>
Yb (ld1 h42 t68) h42 fun t69 h43 =>
Yb (W9 #[(.int .i64 0), (.int .i64 0), (.string (mk [])), (.int .i64 0), (.int .i64 0), (.int .i64 0), (.int .i64 0)] [(0, 1), (1, 1), (2, 1), (3, 1), (4, 1), (5, 1), (6, 1)] [(0, t65), (1, t67), (2, t69), (3, (.int .i64 1))]) h43 fun t70 h44 =>
Yq (V2 T.api_Job [(.int .i64 0), (.int .i64 0), (.string (mk [])), (.int .i64 0), (.int .i64 0), (.int .i64 0), (.int .i64 0)] 1 [(0, t70)] h44) fun t71 h45 =>
Yq (app T.api_Job 7 64 t61 (Wi 7 t71 h45) h45) fun t72 h46 =>
Yb (Yl (get tT 1)) h46 fun t73 h47 =>
Yb (fad 0 t73) h47 fun t74 h48 =>
Yt (st1 h48 t74 t72) fun _ h49 =>
YX (okV (some true) none h35 h36 h32 h32 && (okV (some true) none h35 h36 h36 h36 && (okV (some true) none h35 h36 h36 h37 && (okV (some true) none h35 h36 h37 h38 && (okV (some true) (Ye t64) h35 h36 h38 h39 && (okV (some true) none h35 h36 h39 h40 && (okV (some true) (Ye t66) h35 h36 h40 h41 && (okV (some true) none h35 h36 h41 h42 && (okV (some true) (Ye t68) h35 h36 h42 h43 && (okV (some true) none h35 h36 h43 h44 && (okV (some true) none h35 h36 h44 h45 && (okV (some true) none h45 h46 h32 h32 && true)))))))))))) <|
Yb (fad 2 (get tT 5)) h49 fun t77 h50 =>
Yb (ld1 h50 t77) h50 fun t78 h51 =>
Yb (fad 3 (get tT 5)) h51 fun t79 h52 =>
Yb (ld1 h52 t79) h52 fun t80 h53 =>
Yb (Yl (get tT 1)) h53 fun t82 h54 =>
Yb (fad 2 t82) h54 fun t83 h55 =>
Yb (ld1 h55 t83) h55 fun t84 h56 =>
Yg C F.law_puts [(get tT 0), t78, t80, t84, (.int .i64 0)] h56 fun t85 h57 =>
YX (okV (some true) none h56 h57 h49 h49 && true) <|
k2 .ret [(6, (get tT 0)), (7, t85)] h57) (Yn [0] k2))) (fun k2 =>
Yb (Yh P .eql T.int (.tmp 18) (.const (.int .i64 1)) t18 (.int .i64 1)) h4 fun t87 h58 =>
mc t87 (fun k9 => Yb (fad 1 t5) h58 fun t88 h59 =>
Yb (ld1 h59 t88) h59 fun t89 h60 =>
Yb (Yh P .lss T.int (.tmp 89) (.const (.int .i64 1)) t89 (.int .i64 1)) h60 fun t90 h61 =>
mg t90 false (fun o10 => Yb (fad 1 t5) h61 o10) h61 fun t92 h62 =>
mg t90 false (fun o11 => Yb (ld1 h62 t92) h62 o11) h62 fun t93 h63 =>
mg t90 false (fun o12 => Yb (Yh P .gtr T.int (.tmp 93) (.const (.int .i64 1000)) t93 (.int .i64 1000)) h63 o12) h63 fun t94 h64 =>
YG t90 (.bool true) t94 fun t95 =>
mg t95 false (fun o13 => Yb (fad 2 t5) h64 o13) h64 fun t97 h65 =>
mg t95 false (fun o14 => Yb (ld1 h65 t97) h65 o14) h65 fun t98 h66 =>
mg t95 false (fun o15 => Yb (Yh P .lss T.int (.tmp 98) (.const (.int .i64 1)) t98 (.int .i64 1)) h66 o15) h66 fun t99 h67 =>
YG t95 (.bool true) t99 fun t100 =>
mg t100 false (fun o16 => Yb (fad 2 t5) h67 o16) h67 fun t102 h68 =>
mg t100 false (fun o17 => Yb (ld1 h68 t102) h68 o17) h68 fun t103 h69 =>
mg t100 false (fun o18 => o18 a1 h69) h69 fun t104 h70 =>
mg t100 false (fun o19 => Yb (Yl t104) h70 o19) h70 fun t105 h71 =>
mg t100 false (fun o20 => Yb (fad 3 t105) h71 o20) h71 fun t106 h72 =>
mg t100 false (fun o21 => Yb (ld1 h72 t106) h72 o21) h72 fun t107 h73 =>
mg t100 false (fun o22 => Yb (Yh P .sub T.int (.const (.int .i64 1099511627776)) (.tmp 107) (.int .i64 1099511627776) t107) h73 o22) h73 fun t108 h74 =>
mg t100 false (fun o23 => Yb (Yh P .gtr T.int (.tmp 103) (.tmp 108) t103 t108) h74 o23) h74 fun t109 h75 =>
YG t100 (.bool true) t109 fun t110 =>
YX true <|
mc t110 (fun k24 => Yb (fad 1 t5) h75 fun t113 h76 =>
Yb (ld1 h76 t113) h76 fun t114 h77 =>
Yb (fad 2 t5) h77 fun t115 h78 =>
Yb (ld1 h78 t115) h78 fun t116 h79 =>
Yb (W9 #[(.int .i64 0), (.int .i64 0), (.string (mk [])), (.int .i64 0), (.int .i64 0), (.int .i64 0), (.int .i64 0)] [(0, 1), (1, 1), (2, 1), (3, 1), (4, 1), (5, 1), (6, 1)] []) h79 fun t117 h80 =>
Yg C F.law_takes [a0, t114, t116, t117, (.int .i64 2)] h80 fun t118 h81 =>
k24 .ret [(6, a0), (7, t118)] h81) (fun k24 =>
k24 .normal [(0, a0), (1, a1), (5, t5)] h75) (Ys (fun tT_1 h82 =>
Yg C F.law_Model_sorted [(get tT_1 1)] h82 fun t120 h83 =>
Yb (lenS t120) h83 fun t122 h84 =>
Yb (Yh P .eql T.int (.tmp 122) (.const (.int .i64 0)) t122 (.int .i64 0)) h84 fun t123 h85 =>
mg t123 false (fun o25 => o25 t120 h85) h85 fun t125 h86 =>
mg t123 false (fun o26 => Yb (ixS 7 t125 (.int .i64 0)) h86 o26) h86 fun t126 h87 =>
mg t123 false (fun o27 => Yb (fad 3 t126) h87 o27) h87 fun t127 h88 =>
mg t123 false (fun o28 => Yb (ld1 h88 t127) h88 o28) h88 fun t128 h89 =>
mg t123 false (fun o29 => Yb (Yh P .neq T.api_JobState (.tmp 128) (.const (.int .i64 1)) t128 (.int .i64 1)) h89 o29) h89 fun t129 h90 =>
YG t123 (.bool true) t129 fun t130 =>
mc t130 (fun k30 => Yb (fad 1 (get tT_1 5)) h90 fun t133 h91 =>
Yb (ld1 h91 t133) h91 fun t134 h92 =>
Yb (fad 2 (get tT_1 5)) h92 fun t135 h93 =>
Yb (ld1 h93 t135) h93 fun t136 h94 =>
Yb (W9 #[(.int .i64 0), (.int .i64 0), (.string (mk [])), (.int .i64 0), (.int .i64 0), (.int .i64 0), (.int .i64 0)] [(0, 1), (1, 1), (2, 1), (3, 1), (4, 1), (5, 1), (6, 1)] []) h94 fun t137 h95 =>
Yg C F.law_takes [(get tT_1 0), t134, t136, t137, (.int .i64 9)] h95 fun t138 h96 =>
k30 .ret [(6, (get tT_1 0)), (7, t138)] h96) (fun k30 =>
k30 .normal [(0, (get tT_1 0)), (1, (get tT_1 1)), (5, (get tT_1 5)), (8, t120)] h90) (Ys (fun tT_2 h97 =>
Yb (Yl (get tT_2 1)) h97 fun t140 h98 =>
Yb (fad 0 t140) h98 fun t141 h99 =>
Yb (ld1 h99 t141) h99 fun t142 h100 =>
Yb (ixS 7 (get tT_2 8) (.int .i64 0)) h100 fun t145 h101 =>
Yb (fad 0 t145) h101 fun t146 h102 =>
Yb (ld1 h102 t146) h102 fun t147 h103 =>
Yg C F.law_Model_find [(get tT_2 1), t147] h103 fun t148 h104 =>
Yb (ixS 7 t142 t148) h104 fun t149 h105 =>
YX (okV (some true) none h103 h104 h97 h97 && (okV (some true) none h103 h104 h97 h98 && (okV (some true) none h103 h104 h98 h99 && (okV (some true) (Ye t141) h103 h104 h99 h100 && true)))) <|
Yb (fad 1 (get tT_2 5)) h105 fun t154 h106 =>
Yb (ld1 h106 t154) h106 fun t155 h107 =>
Yb (Yl (get tT_2 1)) h107 fun t157 h108 =>
Yb (fad 3 t157) h108 fun t158 h109 =>
Yb (ld1 h109 t158) h109 fun t159 h110 =>
Yb (fad 2 (get tT_2 5)) h110 fun t160 h111 =>
Yb (ld1 h111 t160) h111 fun t161 h112 =>
Yb (Yh P .add T.int (.tmp 159) (.tmp 161) t159 t161) h112 fun t162 h113 =>
Yb (Yl t149) h113 fun t164 h114 =>
Yb (fad 4 t164) h114 fun t165 h115 =>
Yb (ld1 h115 t165) h115 fun t166 h116 =>
Yb (Yh P .add T.int (.tmp 166) (.const (.int .i64 1)) t166 (.int .i64 1)) h116 fun t167 h117 =>
Yb (Yl t149) h117 fun t168 h118 =>
Yb (fad 3 t168) h118 fun t169 h119 =>
Yt (st1 h119 t169 (.int .i64 2)) fun _ h120 =>
Yb (Yl t149) h120 fun t170 h121 =>
Yb (fad 5 t170) h121 fun t171 h122 =>
Yt (st1 h122 t171 t155) fun _ h123 =>
Yb (Yl t149) h123 fun t172 h124 =>
Yb (fad 6 t172) h124 fun t173 h125 =>
Yt (st1 h125 t173 t162) fun _ h126 =>
Yb (Yl t149) h126 fun t174 h127 =>
Yb (fad 4 t174) h127 fun t175 h128 =>
Yt (st1 h128 t175 t167) fun _ h129 =>
YX (okV (some true) none h119 h120 h105 h105 && (okV (some true) none h119 h120 h105 h105 && (okV (some true) none h119 h120 h105 h105 && (okV (some true) none h119 h120 h105 h106 && (okV (some true) (Ye t154) h119 h120 h106 h107 && (okV (some true) none h119 h120 h110 h111 && (okV (some true) (Ye t160) h119 h120 h111 h112 && (okV (some true) none h119 h120 h112 h113 && (okV (some true) none h119 h120 h116 h117 && (okV (some true) none h122 h123 h105 h105 && (okV (some true) none h122 h123 h105 h105 && (okV (some true) none h122 h123 h110 h111 && (okV (some true) (Ye t160) h122 h123 h111 h112 && (okV (some true) none h122 h123 h112 h113 && (okV (some true) none h122 h123 h116 h117 && (okV (some true) none h125 h126 h105 h105 && (okV (some true) none h125 h126 h116 h117 && true))))))))))))))))) <|
Yb (fad 1 (get tT_2 5)) h129 fun t178 h130 =>
Yb (ld1 h130 t178) h130 fun t179 h131 =>
Yb (fad 2 (get tT_2 5)) h131 fun t180 h132 =>
Yb (ld1 h132 t180) h132 fun t181 h133 =>
Yb (Yl t149) h133 fun t183 h134 =>
Yb (ldN 7 h134 t183) h134 fun t184 h135 =>
Yg C F.law_takes [(get tT_2 0), t179, t181, t184, (.int .i64 0)] h135 fun t185 h136 =>
YX (okV (some true) none h135 h136 h129 h129 && true) <|
k9 .ret [(6, (get tT_2 0)), (7, t185)] h136) (Yn [0] k9))) (Yn [0] k9))) (fun k9 =>
Yb (Yh P .eql T.int (.tmp 18) (.const (.int .i64 2)) t18 (.int .i64 2)) h58 fun t187 h137 =>
mc t187 (fun k31 => Yb (fad 1 t5) h137 fun t190 h138 =>
Yb (ld1 h138 t190) h138 fun t191 h139 =>
Yb (fad 2 t5) h139 fun t192 h140 =>
Yb (ld1 h140 t192) h140 fun t193 h141 =>
Yg C F.law_Model_own [a1, t191, t193] h141 fun t194 h142 =>
Yb (Yp t194 0) h142 fun t195 h143 =>
Yb (Yp t194 1) h143 fun t196 h144 =>
Yb (Yh P .eql T.api_Errno (.tmp 197) (.const (.int .i64 0)) t196 (.int .i64 0)) h144 fun t198 h145 =>
mc t198 (fun k32 => Yb (Yl a1) h145 fun t201 h146 =>
Yb (fad 0 t201) h146 fun t202 h147 =>
Yb (ld1 h147 t202) h147 fun t203 h148 =>
Yb (slS T.api_Job 7 t203 none (some t195) none h148) h148 fun t205 h149 =>
Yq (app T.api_Job 7 64 (.slice none 0 0) (Wi 7 t205 h149) h149) fun t206 h150 =>
Yb (Yl a1) h150 fun t208 h151 =>
Yb (fad 0 t208) h151 fun t209 h152 =>
Yb (ld1 h152 t209) h152 fun t210 h153 =>
Yb (Yh P .add T.int (.tmp 211) (.const (.int .i64 1)) t195 (.int .i64 1)) h153 fun t212 h154 =>
Yb (slS T.api_Job 7 t210 (some t212) none none h154) h154 fun t213 h155 =>
Yq (app T.api_Job 7 64 t206 (Wi 7 t213 h155) h155) fun t214 h156 =>
Yb (Yl a1) h156 fun t215 h157 =>
Yb (fad 0 t215) h157 fun t216 h158 =>
Yt (st1 h158 t216 t214) fun _ h159 =>
YX (okV (some true) none h149 h150 h145 h145 && (okV (some true) none h149 h150 h150 h150 && (okV (some true) none h149 h150 h150 h151 && (okV (some true) none h149 h150 h151 h152 && (okV (some true) (Ye t209) h149 h150 h152 h153 && (okV (some true) none h149 h150 h153 h153 && (okV (some true) none h149 h150 h153 h154 && (okV (some true) (Ye t210) h149 h150 h154 h155 && (okV (some true) none h155 h156 h145 h145 && true))))))))) <|
k32 .normal [(0, a0), (5, t5), (11, t196)] h159) (fun k32 =>
k32 .normal [(0, a0), (5, t5), (11, t196)] h145) (Ys (fun tT_3 h160 =>
Yb (fad 1 (get tT_3 5)) h160 fun t219 h161 =>
Yb (ld1 h161 t219) h161 fun t220 h162 =>
Yb (fad 2 (get tT_3 5)) h162 fun t221 h163 =>
Yb (ld1 h163 t221) h163 fun t222 h164 =>
Yg C F.jobs_Queue_Finish [(get tT_3 0), t220, t222] h164 fun t223 h165 =>
Yb (Yh P .eql T.api_Errno (.tmp 223) (.tmp 224) t223 (get tT_3 11)) h165 fun t225 h166 =>
k31 .ret [(6, (get tT_3 0)), (7, t225)] h166) (Yn [0] k31))) (fun k31 =>
Yb (Yh P .eql T.int (.tmp 18) (.const (.int .i64 3)) t18 (.int .i64 3)) h137 fun t227 h167 =>
mc t227 (fun k33 => Yb (fad 1 t5) h167 fun t230 h168 =>
Yb (ld1 h168 t230) h168 fun t231 h169 =>
Yb (fad 2 t5) h169 fun t232 h170 =>
Yb (ld1 h170 t232) h170 fun t233 h171 =>
Yg C F.law_Model_own [a1, t231, t233] h171 fun t234 h172 =>
Yb (Yp t234 0) h172 fun t235 h173 =>
Yb (Yp t234 1) h173 fun t236 h174 =>
Yb (Yh P .eql T.api_Errno (.tmp 237) (.const (.int .i64 0)) t236 (.int .i64 0)) h174 fun t238 h175 =>
mc t238 (fun k34 => Yg C F.law_Model_back [a1, t235] h175 fun t241 h176 =>
k34 .normal [(0, a0), (5, t5), (13, t236)] h176) (fun k34 =>
k34 .normal [(0, a0), (5, t5), (13, t236)] h175) (Ys (fun tT_4 h177 =>
Yb (fad 1 (get tT_4 5)) h177 fun t244 h178 =>
Yb (ld1 h178 t244) h178 fun t245 h179 =>
Yb (fad 2 (get tT_4 5)) h179 fun t246 h180 =>
Yb (ld1 h180 t246) h180 fun t247 h181 =>
Yg C F.jobs_Queue_Back [(get tT_4 0), t245, t247] h181 fun t248 h182 =>
Yb (Yh P .eql T.api_Errno (.tmp 248) (.tmp 249) t248 (get tT_4 13)) h182 fun t250 h183 =>
k33 .ret [(6, (get tT_4 0)), (7, t250)] h183) (Yn [0] k33))) (fun k33 =>
Yb (Yh P .eql T.int (.tmp 18) (.const (.int .i64 4)) t18 (.int .i64 4)) h167 fun t252 h184 =>
mc t252 (fun k35 => Yb (fad 2 t5) h184 fun t254 h185 =>
Yb (ld1 h185 t254) h185 fun t255 h186 =>
Yg C F.law_Model_find [a1, t255] h186 fun t256 h187 =>
Yb (Yh P .lss T.int (.tmp 257) (.const (.int .i64 0)) t256 (.int .i64 0)) h187 fun t258 h188 =>
mc t258 (fun k36 => Yb (fad 2 t5) h188 fun t261 h189 =>
Yb (ld1 h189 t261) h189 fun t262 h190 =>
Yg C F.jobs_Queue_Revive [a0, t262] h190 fun t263 h191 =>
Yb (Yh P .eql T.api_Errno (.tmp 263) (.const (.int .i64 9)) t263 (.int .i64 9)) h191 fun t264 h192 =>
k36 .ret [(6, a0), (7, t264)] h192) (fun k36 =>
k36 .normal [(0, a0), (1, a1), (5, t5), (14, t256)] h188) (Ys (fun tT_5 h193 =>
Yb (Yl (get tT_5 1)) h193 fun t266 h194 =>
Yb (fad 0 t266) h194 fun t267 h195 =>
Yb (ld1 h195 t267) h195 fun t268 h196 =>
Yb (ixS 7 t268 (get tT_5 14)) h196 fun t270 h197 =>
Yb (fad 3 t270) h197 fun t271 h198 =>
Yb (ld1 h198 t271) h198 fun t272 h199 =>
Yb (Yh P .neq T.api_JobState (.tmp 272) (.const (.int .i64 3)) t272 (.int .i64 3)) h199 fun t273 h200 =>
mc t273 (fun k37 => Yb (fad 2 (get tT_5 5)) h200 fun t276 h201 =>
Yb (ld1 h201 t276) h201 fun t277 h202 =>
Yg C F.jobs_Queue_Revive [(get tT_5 0), t277] h202 fun t278 h203 =>
Yb (Yh P .eql T.api_Errno (.tmp 278) (.const (.int .i64 8)) t278 (.int .i64 8)) h203 fun t279 h204 =>
k37 .ret [(6, (get tT_5 0)), (7, t279)] h204) (fun k37 =>
k37 .normal [(0, (get tT_5 0)), (1, (get tT_5 1)), (5, (get tT_5 5)), (14, (get tT_5 14))] h200) (Ys (fun tT_6 h205 =>
Yb (Yl (get tT_6 1)) h205 fun t281 h206 =>
Yb (fad 0 t281) h206 fun t282 h207 =>
Yb (ld1 h207 t282) h207 fun t283 h208 =>
Yb (Yl (get tT_6 1)) h208 fun t286 h209 =>
Yb (fad 0 t286) h209 fun t287 h210 =>
Yb (ld1 h210 t287) h210 fun t288 h211 =>
Yb (ixS 7 t283 (get tT_6 14)) h211 fun t290 h212 =>
Yb (fad 3 t290) h212 fun t291 h213 =>
Yt (st1 h213 t291 (.int .i64 1)) fun _ h214 =>
Yb (ixS 7 t288 (get tT_6 14)) h214 fun t292 h215 =>
Yb (fad 4 t292) h215 fun t293 h216 =>
Yt (st1 h216 t293 (.int .i64 0)) fun _ h217 =>
YX (okV (some true) none h213 h214 h211 h211 && true) <|
Yb (fad 2 (get tT_6 5)) h217 fun t296 h218 =>
Yb (ld1 h218 t296) h218 fun t297 h219 =>
Yg C F.jobs_Queue_Revive [(get tT_6 0), t297] h219 fun t298 h220 =>
Yb (Yh P .eql T.api_Errno (.tmp 298) (.const (.int .i64 0)) t298 (.int .i64 0)) h220 fun t299 h221 =>
k35 .ret [(6, (get tT_6 0)), (7, t299)] h221) (Yn [0] k35))) (Yn [0] k35))) (fun k35 =>
Yb (Yh P .eql T.int (.tmp 18) (.const (.int .i64 5)) t18 (.int .i64 5)) h184 fun t301 h222 =>
mc t301 (fun k38 => ms (fun k39 =>
Yb (fad 2 t5) h222 fun t303 h223 =>
Yb (ld1 h223 t303) h223 fun t304 h224 =>
Yb (Yh P .lss T.int (.tmp 304) (.const (.int .i64 0)) t304 (.int .i64 0)) h224 fun t305 h225 =>
mg t305 false (fun o40 => Yb (fad 2 t5) h225 o40) h225 fun t307 h226 =>
mg t305 false (fun o41 => Yb (ld1 h226 t307) h226 o41) h226 fun t308 h227 =>
mg t305 false (fun o42 => Yb (Yh P .gtr T.int (.tmp 308) (.const (.int .i64 1099511627776)) t308 (.int .i64 1099511627776)) h227 o42) h227 fun t309 h228 =>
YG t305 (.bool true) t309 fun t310 =>
mc t310 (fun k43 => Yb (fad 2 t5) h228 fun t313 h229 =>
Yb (ld1 h229 t313) h229 fun t314 h230 =>
Yg C F.jobs_Queue_Pass [a0, t314] h230 fun t315 h231 =>
Yb (Yh P .eql T.api_Errno (.tmp 315) (.const (.int .i64 2)) t315 (.int .i64 2)) h231 fun t316 h232 =>
k43 .ret [(6, a0), (7, t316)] h232) (fun k43 =>
Yb (fad 2 t5) h228 fun t318 h233 =>
Yb (ld1 h233 t318) h233 fun t319 h234 =>
Yb (Yl a1) h234 fun t321 h235 =>
Yb (fad 3 t321) h235 fun t322 h236 =>
Yb (ld1 h236 t322) h236 fun t323 h237 =>
Yb (Yh P .lss T.int (.tmp 319) (.tmp 323) t319 t323) h237 fun t324 h238 =>
YX true <|
mc t324 (fun k44 => Yb (fad 2 t5) h238 fun t327 h239 =>
Yb (ld1 h239 t327) h239 fun t328 h240 =>
Yg C F.jobs_Queue_Pass [a0, t328] h240 fun t329 h241 =>
Yb (Yh P .eql T.api_Errno (.tmp 329) (.const (.int .i64 14)) t329 (.int .i64 14)) h241 fun t330 h242 =>
k44 .ret [(6, a0), (7, t330)] h242) (fun k44 =>
k44 .normal [(0, a0), (1, a1), (5, t5)] h238) (Yn [0, 1, 5] k43)) (YB [0, 1, 5] 2 k39)) (Ys (fun tT_7 h243 =>
Yb (fad 2 (get tT_7 5)) h243 fun t332 h244 =>
Yb (ld1 h244 t332) h244 fun t333 h245 =>
Yb (Yl (get tT_7 1)) h245 fun t334 h246 =>
Yb (fad 3 t334) h246 fun t335 h247 =>
Yt (st1 h247 t335 t333) fun _ h248 =>
ms (fun k45 =>
L0 (get tT_7 0) (get tT_7 1) (get tT_7 5) (.int .i64 0) h248 (YB [0, 5] 3 k45)) (Ys (fun tT_8 h249 =>
Yb (fad 2 (get tT_8 5)) h249 fun t372 h250 =>
Yb (ld1 h250 t372) h250 fun t373 h251 =>
Yg C F.jobs_Queue_Pass [(get tT_8 0), t373] h251 fun t374 h252 =>
Yb (Yh P .eql T.api_Errno (.tmp 374) (.const (.int .i64 0)) t374 (.int .i64 0)) h252 fun t375 h253 =>
k38 .ret [(6, (get tT_8 0)), (7, t375)] h253) (Yn [0] k38))) (Yn [0] k38))) (fun k38 =>
k38 .normal [(0, a0)] h222) (Yn [0] k35)) (Yn [0] k33)) (Yn [0] k31)) (Yn [0] k9)) (Yn [0] k2)) (YB [0] 0 k1)) (Ys (fun tT_9 h254 =>
Yg C F.jobs_Queue_Copy [(get tT_9 0)] h254 fun t377 h255 =>
Yg C F.jobs_Queue_Put [(get tT_9 0), (.int .i64 9), (.string (mk [111, 116, 104, 101, 114]))] h255 fun t379 h256 =>
Yg C F.jobs_Queue_Take [(get tT_9 0), (.int .i64 1), (.int .i64 1)] h256 fun t381 h257 =>
Yb (Yh P .neq T.p_jobs_Queue (.tmp 383) (.const (.pointer none)) t377 (.pointer none)) h257 fun t384 h258 =>
K0 .ret [(6, t377), (7, t384)] h258) K0)
noncomputable def VH (mg : GT) (mc : CT) (ms : ST) (P : Program) (C : Yc) (L0 : Value → Value → Value → Value → AHeap → K → Res) (v0 v1 v5 v15 : Value) (H : AHeap) (k : K) : Res :=
Yb (Yl v1) H fun t338 h249 =>
Yb (fad 0 t338) h249 fun t339 h250 =>
Yb (ld1 h250 t339) h250 fun t340 h251 =>
Yb (lenS t340) h251 fun t341 h252 =>
Yb (Yh P .lss T.int (.tmp 336) (.tmp 341) v15 t341) h252 fun t342 h253 =>
mc t342 (fun k46 => k46 .normal [(0, v0), (1, v1), (5, v5), (15, v15)] h253) (fun k46 =>
k46 (.exit 3) [(342, t342), (341, t341), (340, t340), (339, t339), (338, t338), (337, v1), (336, v15), (0, v0), (1, v1), (5, v5), (15, v15)] h253) (Ys (fun tT h254 =>
ms (fun k47 =>
Yb (Yl (get tT 1)) h254 fun t346 h255 =>
Yb (fad 0 t346) h255 fun t347 h256 =>
Yb (ld1 h256 t347) h256 fun t348 h257 =>
Yb (ixS 7 t348 (get tT 15)) h257 fun t350 h258 =>
Yb (fad 3 t350) h258 fun t351 h259 =>
Yb (ld1 h259 t351) h259 fun t352 h260 =>
Yb (Yh P .eql T.api_JobState (.tmp 352) (.const (.int .i64 2)) t352 (.int .i64 2)) h260 fun t353 h261 =>
mg t353 true (fun o48 => o48 (get tT 1) h261) h261 fun t355 h262 =>
mg t353 true (fun o49 => Yb (Yl t355) h262 o49) h262 fun t356 h263 =>
mg t353 true (fun o50 => Yb (fad 0 t356) h263 o50) h263 fun t357 h264 =>
mg t353 true (fun o51 => Yb (ld1 h264 t357) h264 o51) h264 fun t358 h265 =>
mg t353 true (fun o52 => o52 (get tT 15) h265) h265 fun t359 h266 =>
mg t353 true (fun o53 => Yb (ixS 7 t358 t359) h266 o53) h266 fun t360 h267 =>
mg t353 true (fun o54 => Yb (fad 6 t360) h267 o54) h267 fun t361 h268 =>
mg t353 true (fun o55 => Yb (ld1 h268 t361) h268 o55) h268 fun t362 h269 =>
mg t353 true (fun o56 => Yb (fad 2 (get tT 5)) h269 o56) h269 fun t363 h270 =>
mg t353 true (fun o57 => Yb (ld1 h270 t363) h270 o57) h270 fun t364 h271 =>
mg t353 true (fun o58 => Yb (Yh P .leq T.int (.tmp 362) (.tmp 364) t362 t364) h271 o58) h271 fun t365 h272 =>
YG t353 t365 (.bool false) fun t366 =>
YX true <|
mc t366 (fun k59 => Yg C F.law_Model_back [(get tT 1), (get tT 15)] h272 fun t369 h273 =>
k59 .normal [(0, (get tT 0)), (1, (get tT 1)), (5, (get tT 5)), (15, (get tT 15))] h273) (fun k59 =>
k59 .normal [(0, (get tT 0)), (1, (get tT 1)), (5, (get tT 5)), (15, (get tT 15))] h272) (YB [0, 1, 5, 15] 4 k47)) (Ys (fun tT_1 h274 =>
Yb (Yh P .add T.int (.tmp 343) (.const (.int .i64 1)) (get tT_1 15) (.int .i64 1)) h274 fun t344 h275 =>
k .normal [(0, (get tT_1 0)), (1, (get tT_1 1)), (5, (get tT_1 5)), (15, t344)] h275) (Yn [0, 1, 5, 15] k))) (Yn [0, 1, 5, 15] k))
theorem s_law_does_eq (M : CombL) (C : Yc) (LP : Yx) (a0 a1 a2 : Value) (H : AHeap) : Yw M Tryz.prog hints C LP F.law_does [a0, a1, a2] H = YJ M.b.g M.c M.s Tryz.prog C (fun v0 v1 v5 v15 H k => Yv M Tryz.prog hints C LP F.law_does 0 [(0, v0), (1, v1), (5, v5), (15, v15)] H k) a0 a1 a2 H (Yj Tryz.prog [.tmp 6, .tmp 7]) := by kernel_rfl
theorem s_law_does_b0_eq (M : CombL) (C : Yc) (LP : Yx) (v0 v1 v5 v15 : Value) (H : AHeap) (k : K) : W3 M Tryz.prog hints C LP F.law_does 0 [(0, v0), (1, v1), (5, v5), (15, v15)] H (Yn [0, 1, 5, 15] k) = VH M.b.g M.c M.s Tryz.prog C (fun v0 v1 v5 v15 H k => Yv M Tryz.prog hints C LP F.law_does 0 [(0, v0), (1, v1), (5, v5), (15, v15)] H k) v0 v1 v5 v15 H k := by kernel_rfl
noncomputable def Zg (mg : GT) (mc : CT) (ms : ST) (P : Program) (C : Yc) (a0 a1 a2 a3 a4 : Value) (H : AHeap) (K0 : K) : Res :=
Yg C F.jobs_Queue_Put [a0, a1, a2] H fun t17 h1 =>
Yb (Yp t17 0) h1 fun t18 h2 =>
Yb (Yp t17 1) h2 fun t19 h3 =>
Yb (Yh P .eql T.int (.tmp 20) (.tmp 21) t18 a3) h3 fun t22 h4 =>
mg t22 true (fun o1 => o1 t19 h4) h4 fun t24 h5 =>
mg t22 true (fun o2 => o2 a4 h5) h5 fun t25 h6 =>
mg t22 true (fun o3 => Yb (Yh P .eql T.int (.tmp 24) (.tmp 25) t24 t25) h6 o3) h6 fun t26 h7 =>
YG t22 t26 (.bool false) fun t27 =>
K0 .ret [(10, t27)] h7
theorem s_law_puts_eq (M : CombL) (C : Yc) (LP : Yx) (a0 a1 a2 a3 a4 : Value) (H : AHeap) : Yw M Tryz.prog hints C LP F.law_puts [a0, a1, a2, a3, a4] H = Zg M.b.g M.c M.s Tryz.prog C a0 a1 a2 a3 a4 H (Yj Tryz.prog [.tmp 10]) := by kernel_rfl
noncomputable def QM (mg : GT) (mc : CT) (ms : ST) (P : Program) (C : Yc) (a0 a1 a2 a3 a4 : Value) (H : AHeap) (K0 : K) : Res :=
Yq (Xs T.api_Job a3 H) fun t8 h1 =>
Yg C F.jobs_Queue_Take [a0, a1, a2] h1 fun t17 h2 =>
Yb (Yp t17 0) h2 fun t18 h3 =>
Yb (Yp t17 1) h3 fun t19 h4 =>
Yq (Xs T.api_Job (.agg #[(.int .i64 0), (.int .i64 0), (.string (mk [])), (.int .i64 0), (.int .i64 0), (.int .i64 0), (.int .i64 0)]) h4) fun t11 h5 =>
Yt (stN 7 h5 t11 t18) fun _ h6 =>
Yb (ldN 7 h6 t11) h6 fun t20 h7 =>
Yb (ldN 7 h7 t8) h7 fun t21 h8 =>
Yb (Yh P .eql T.api_Job (.tmp 20) (.tmp 21) t20 t21) h8 fun t22 h9 =>
mg t22 true (fun o1 => o1 t19 h9) h9 fun t24 h10 =>
mg t22 true (fun o2 => o2 a4 h10) h10 fun t25 h11 =>
mg t22 true (fun o3 => Yb (Yh P .eql T.int (.tmp 24) (.tmp 25) t24 t25) h11 o3) h11 fun t26 h12 =>
YG t22 t26 (.bool false) fun t27 =>
K0 .ret [(10, t27)] h12
theorem s_law_takes_eq (M : CombL) (C : Yc) (LP : Yx) (a0 a1 a2 a3 a4 : Value) (H : AHeap) : Yw M Tryz.prog hints C LP F.law_takes [a0, a1, a2, a3, a4] H = QM M.b.g M.c M.s Tryz.prog C a0 a1 a2 a3 a4 H (Yj Tryz.prog [.tmp 10]) := by kernel_rfl
noncomputable def QC (mg : GT) (mc : CT) (ms : ST) (P : Program) (C : Yc) (a0 a1 a2 a3 a4 a5 : Value) (H : AHeap) (K0 : K) : Res :=
Yq (Xs T.api_Job (.agg #[(.int .i64 0), (.int .i64 0), (.string (mk [])), (.int .i64 0), (.int .i64 0), (.int .i64 0), (.int .i64 0)]) H) fun t12 h1 =>
Yb (W9 #[(.int .i64 0), (.int .i64 0), (.string (mk [])), (.int .i64 0), (.int .i64 0), (.int .i64 0), (.int .i64 0)] [(0, 1), (1, 1), (2, 1), (3, 1), (4, 1), (5, 1), (6, 1)] [(0, a0), (1, a1), (2, a2), (3, (.int .i64 2)), (4, a3), (5, a4), (6, a5)]) h1 fun t19 h2 =>
Yt (stN 7 h2 t12 t19) fun _ h3 =>
K0 .ret [(12, t12)] h3
theorem s_law_taken_eq (M : CombL) (C : Yc) (LP : Yx) (a0 a1 a2 a3 a4 a5 : Value) (H : AHeap) : Yw M Tryz.prog hints C LP F.law_taken [a0, a1, a2, a3, a4, a5] H = QC M.b.g M.c M.s Tryz.prog C a0 a1 a2 a3 a4 a5 H (Yj Tryz.prog [.cell 12 T.api_Job]) := by kernel_rfl
noncomputable def XU (mg : GT) (mc : CT) (ms : ST) (P : Program) (C : Yc) (a0 a1 a2 : Value) (H : AHeap) (K0 : K) : Res :=
Yg C F.jobs_Queue_taken [a0, a1, a2] H fun t13 h1 =>
Yb (Yp t13 0) h1 fun t14 h2 =>
Yb (Yp t13 1) h2 fun t15 h3 =>
Yq (Xs T.api_Job (.agg #[(.int .i64 0), (.int .i64 0), (.string (mk [])), (.int .i64 0), (.int .i64 0), (.int .i64 0), (.int .i64 0)]) h3) fun t7 h4 =>
Yt (stN 7 h4 t7 t14) fun _ h5 =>
Yb (Yh P .neq T.api_Errno (.tmp 16) (.const (.int .i64 0)) t15 (.int .i64 0)) h5 fun t17 h6 =>
mc t17 (fun k1 => k1 .ret [(6, t15)] h6) (fun k1 =>
k1 .normal [(0, a0), (2, a2)] h6) (Ys (fun tT h7 =>
Yb (Yl (get tT 0)) h7 fun t20 h8 =>
Yb (fad 0 t20) h8 fun t21 h9 =>
Yb (ld1 h9 t21) h9 fun t22 h10 =>
Yb (Yl (get tT 0)) h10 fun t24 h11 =>
Yb (fad 1 t24) h11 fun t25 h12 =>
Yb (ld1 h12 t25) h12 fun t26 h13 =>
Yb (Wb P T.map_int_string t26 (get tT 2) false h13) h13 fun t28 h14 =>
Yg C F.model_Model_Delete [t22, t28] h14 fun t29 h15 =>
YX true <|
Yb (Yl (get tT 0)) h15 fun t31 h16 =>
Yb (fad 1 t31) h16 fun t32 h17 =>
Yb (ld1 h17 t32) h17 fun t33 h18 =>
Vn C h18 (YQ P .delete [T.map_int_string, T.int] [t33, (get tT 2)] h18) fun _ h19 =>
K0 .ret [(6, (.int .i64 0))] h19) K0)
theorem GE (M : CombL) (C : Yc) (LP : Yx) (a0 a1 a2 : Value) (H : AHeap) : Yw M Tryz.prog hints C LP F.jobs_Queue_Finish [a0, a1, a2] H = XU M.b.g M.c M.s Tryz.prog C a0 a1 a2 H (Yj Tryz.prog [.tmp 6]) := by kernel_rfl
noncomputable def Wm (mg : GT) (mc : CT) (ms : ST) (P : Program) (C : Yc) (a0 a1 a2 : Value) (H : AHeap) (K0 : K) : Res :=
Yg C F.jobs_Queue_taken [a0, a1, a2] H fun t13 h1 =>
Yb (Yp t13 0) h1 fun t14 h2 =>
Yb (Yp t13 1) h2 fun t15 h3 =>
Yq (Xs T.api_Job (.agg #[(.int .i64 0), (.int .i64 0), (.string (mk [])), (.int .i64 0), (.int .i64 0), (.int .i64 0), (.int .i64 0)]) h3) fun t7 h4 =>
Yt (stN 7 h4 t7 t14) fun _ h5 =>
Yb (Yh P .neq T.api_Errno (.tmp 16) (.const (.int .i64 0)) t15 (.int .i64 0)) h5 fun t17 h6 =>
mc t17 (fun k1 => k1 .ret [(6, t15)] h6) (fun k1 =>
k1 .normal [(0, a0), (7, t7)] h6) (Ys (fun tT h7 =>
Yb (ldN 7 h7 (get tT 7)) h7 fun t20 h8 =>
Yg C F.jobs_Queue_back [(get tT 0), t20] h8 fun t21 h9 =>
K0 .ret [(6, t21)] h9) K0)
theorem s_jobs_Queue_Back_eq (M : CombL) (C : Yc) (LP : Yx) (a0 a1 a2 : Value) (H : AHeap) : Yw M Tryz.prog hints C LP F.jobs_Queue_Back [a0, a1, a2] H = Wm M.b.g M.c M.s Tryz.prog C a0 a1 a2 H (Yj Tryz.prog [.tmp 6]) := by kernel_rfl
noncomputable def Xq (mg : GT) (mc : CT) (ms : ST) (P : Program) (C : Yc) (L0 : Value → Value → Value → Value → Value → AHeap → K → Res) (a0 a1 : Value) (H : AHeap) (K0 : K) : Res :=
ms (fun k1 =>
Yg C F.jobs_Queue_none [a0] H fun t10 h1 =>
mc t10 (fun k2 => k2 .ret [(4, (.int .i64 1))] h1) (fun k2 =>
Yb (Yh P .lss T.int (.tmp 12) (.const (.int .i64 0)) a1 (.int .i64 0)) h1 fun t13 h2 =>
mg t13 false (fun o3 => o3 a1 h2) h2 fun t15 h3 =>
mg t13 false (fun o4 => Yb (Yh P .gtr T.int (.tmp 15) (.const (.int .i64 1099511627776)) t15 (.int .i64 1099511627776)) h3 o4) h3 fun t16 h4 =>
YG t13 (.bool true) t16 fun t17 =>
mc t17 (fun k5 => k5 .ret [(4, (.int .i64 2))] h4) (fun k5 =>
Yb (Yl a0) h4 fun t21 h5 =>
Yb (fad 4 t21) h5 fun t22 h6 =>
Yb (ld1 h6 t22) h6 fun t23 h7 =>
Yb (Yh P .lss T.int (.tmp 19) (.tmp 23) a1 t23) h7 fun t24 h8 =>
mc t24 (fun k6 => k6 .ret [(4, (.int .i64 14))] h8) (fun k6 =>
k6 .normal [(0, a0), (1, a1)] h8) (Yn [0, 1] k5)) (Yn [0, 1] k2)) (YB [0, 1] 0 k1)) (Ys (fun tT h9 =>
Yb (Yl (get tT 0)) h9 fun t27 h10 =>
Yb (fad 4 t27) h10 fun t28 h11 =>
Yt (st1 h11 t28 (get tT 1)) fun _ h12 =>
Yg C F.jobs_number [(.int .i64 2)] h12 fun t30 h13 =>
Yq (V2 T.api_Cell [(.int .i64 0), (.int .u64 0), (.int .i64 0), (.string (mk [])), (.bool false)] 1 [(0, t30)] h13) fun t31 h14 =>
Yg C F.jobs_Queue_in [(get tT 0), t31] h14 fun t32 h15 =>
Yb (lenS t32) h15 fun t33 h16 =>
ms (fun k7 =>
L0 (get tT 0) (get tT 1) t32 t33 (.int .i64 0) h16 (YB [] 1 k7)) (Ys (fun tT_1 h17 =>
K0 .ret [(4, (.int .i64 0))] h17) K0)) K0)
noncomputable def Wd (mg : GT) (mc : CT) (ms : ST) (P : Program) (C : Yc) (L0 : Value → Value → Value → Value → Value → AHeap → K → Res) (v0 v1 v32 v33 v34 : Value) (H : AHeap) (k : K) : Res :=
Yb (Yh P .lss T.int (.tmp 34) (.tmp 33) v34 v33) H fun t35 h17 =>
mc t35 (fun k8 => k8 .normal [(0, v0), (1, v1), (32, v32), (33, v33), (34, v34)] h17) (fun k8 =>
k8 (.exit 1) [(35, t35), (0, v0), (1, v1), (32, v32), (33, v33), (34, v34)] h17) (Ys (fun tT h18 =>
ms (fun k9 =>
Yb (ixS 7 (get tT 32) (get tT 34)) h18 fun t36 h19 =>
Yb (ldN 7 h19 t36) h19 fun t37 h20 =>
Yq (Xs T.api_Job (.agg #[(.int .i64 0), (.int .i64 0), (.string (mk [])), (.int .i64 0), (.int .i64 0), (.int .i64 0), (.int .i64 0)]) h20) fun t6 h21 =>
Yt (stN 7 h21 t6 t37) fun _ h22 =>
Yb (fad 6 t6) h22 fun t38 h23 =>
Yb (ld1 h23 t38) h23 fun t39 h24 =>
Yb (Yh P .gtr T.int (.tmp 39) (.tmp 40) t39 (get tT 1)) h24 fun t41 h25 =>
mc t41 (fun k10 => k10 (.exit 1) ((41, t41) :: (40, (get tT 1)) :: (39, t39) :: (38, t38) :: (6, t6) :: (37, t37) :: (36, t36) :: tT) h25) (fun k10 =>
k10 .normal [(0, (get tT 0)), (1, (get tT 1)), (6, t6), (32, (get tT 32)), (33, (get tT 33)), (34, (get tT 34))] h25) (Ys (fun tT_1 h26 =>
Yb (ldN 7 h26 (get tT_1 6)) h26 fun t43 h27 =>
Yg C F.jobs_Queue_back [(get tT_1 0), t43] h27 fun t44 h28 =>
Yb (Yh P .neq T.api_Errno (.tmp 45) (.const (.int .i64 0)) t44 (.int .i64 0)) h28 fun t46 h29 =>
mc t46 (fun k11 => k11 .ret [(4, t44)] h29) (fun k11 =>
k11 .normal [(0, (get tT_1 0)), (1, (get tT_1 1)), (32, (get tT_1 32)), (33, (get tT_1 33)), (34, (get tT_1 34))] h29) (YB [0, 1, 32, 33, 34] 2 k9)) (YB [0, 1, 32, 33, 34] 2 k9))) (Ys (fun tT_2 h30 =>
Yb (Yh P .add T.int (.tmp 34) (.const (.int .i64 1)) (get tT_2 34) (.int .i64 1)) h30 fun t48 h31 =>
k .normal [(0, (get tT_2 0)), (1, (get tT_2 1)), (32, (get tT_2 32)), (33, (get tT_2 33)), (34, t48)] h31) (Yn [0, 1, 32, 33, 34] k))) (Yn [0, 1, 32, 33, 34] k))
theorem s_jobs_Queue_Pass_eq (M : CombL) (C : Yc) (LP : Yx) (a0 a1 : Value) (H : AHeap) : Yw M Tryz.prog hints C LP F.jobs_Queue_Pass [a0, a1] H = Xq M.b.g M.c M.s Tryz.prog C (fun v0 v1 v32 v33 v34 H k => Yv M Tryz.prog hints C LP F.jobs_Queue_Pass 0 [(0, v0), (1, v1), (32, v32), (33, v33), (34, v34)] H k) a0 a1 H (Yj Tryz.prog [.tmp 4]) := by kernel_rfl
theorem Gb (M : CombL) (C : Yc) (LP : Yx) (v0 v1 v32 v33 v34 : Value) (H : AHeap) (k : K) : W3 M Tryz.prog hints C LP F.jobs_Queue_Pass 0 [(0, v0), (1, v1), (32, v32), (33, v33), (34, v34)] H (Yn [0, 1, 32, 33, 34] k) = Wd M.b.g M.c M.s Tryz.prog C (fun v0 v1 v32 v33 v34 H k => Yv M Tryz.prog hints C LP F.jobs_Queue_Pass 0 [(0, v0), (1, v1), (32, v32), (33, v33), (34, v34)] H k) v0 v1 v32 v33 v34 H k := by kernel_rfl
noncomputable def Zf (mg : GT) (mc : CT) (ms : ST) (P : Program) (C : Yc) (a0 a1 a2 a3 : Value) (H : AHeap) (K0 : K) : Res :=
Yq (Xs T.api_Job a2 H) fun t6 h1 =>
Yg C F.jobs_Queue_Get [a0, a1] h1 fun t14 h2 =>
Yb (Yp t14 0) h2 fun t15 h3 =>
Yb (Yp t14 1) h3 fun t16 h4 =>
Yq (Xs T.api_Job (.agg #[(.int .i64 0), (.int .i64 0), (.string (mk [])), (.int .i64 0), (.int .i64 0), (.int .i64 0), (.int .i64 0)]) h4) fun t9 h5 =>
Yt (stN 7 h5 t9 t15) fun _ h6 =>
Yb (ldN 7 h6 t9) h6 fun t17 h7 =>
Yb (ldN 7 h7 t6) h7 fun t18 h8 =>
Yb (Yh P .eql T.api_Job (.tmp 17) (.tmp 18) t17 t18) h8 fun t19 h9 =>
mg t19 true (fun o1 => o1 t16 h9) h9 fun t21 h10 =>
mg t19 true (fun o2 => o2 a3 h10) h10 fun t22 h11 =>
mg t19 true (fun o3 => Yb (Yh P .eql T.int (.tmp 21) (.tmp 22) t21 t22) h11 o3) h11 fun t23 h12 =>
YG t19 t23 (.bool false) fun t24 =>
K0 .ret [(8, t24)] h12
theorem s_law_gets_eq (M : CombL) (C : Yc) (LP : Yx) (a0 a1 a2 a3 : Value) (H : AHeap) : Yw M Tryz.prog hints C LP F.law_gets [a0, a1, a2, a3] H = Zf M.b.g M.c M.s Tryz.prog C a0 a1 a2 a3 H (Yj Tryz.prog [.tmp 8]) := by kernel_rfl
noncomputable def Xp (mg : GT) (mc : CT) (ms : ST) (P : Program) (C : Yc) (a0 a1 : Value) (H : AHeap) (K0 : K) : Res :=
Yg C F.jobs_Queue_Get [a0, a1] H fun t10 h1 =>
Yb (Yp t10 0) h1 fun t11 h2 =>
Yb (Yp t10 1) h2 fun t12 h3 =>
Yq (Xs T.api_Job (.agg #[(.int .i64 0), (.int .i64 0), (.string (mk [])), (.int .i64 0), (.int .i64 0), (.int .i64 0), (.int .i64 0)]) h3) fun t5 h4 =>
Yt (stN 7 h4 t5 t11) fun _ h5 =>
ms (fun k1 =>
Yb (Yh P .neq T.api_Errno (.tmp 14) (.const (.int .i64 0)) t12 (.int .i64 0)) h5 fun t15 h6 =>
mc t15 (fun k2 => k2 .ret [(4, t12)] h6) (fun k2 =>
Yb (fad 3 t5) h6 fun t18 h7 =>
Yb (ld1 h7 t18) h7 fun t19 h8 =>
Yb (Yh P .neq T.api_JobState (.tmp 19) (.const (.int .i64 3)) t19 (.int .i64 3)) h8 fun t20 h9 =>
mc t20 (fun k3 => k3 .ret [(4, (.int .i64 8))] h9) (fun k3 =>
k3 .normal [(0, a0), (5, t5)] h9) (Yn [0, 5] k2)) (YB [0, 5] 0 k1)) (Ys (fun tT h10 =>
Yb (fad 3 (get tT 5)) h10 fun t21 h11 =>
Yt (st1 h11 t21 (.int .i64 1)) fun _ h12 =>
Yb (fad 4 (get tT 5)) h12 fun t22 h13 =>
Yt (st1 h13 t22 (.int .i64 0)) fun _ h14 =>
Yb (ldN 7 h14 (get tT 5)) h14 fun t24 h15 =>
Yg C F.jobs_Queue_set [(get tT 0), t24] h15 fun t25 h16 =>
K0 .ret [(4, t25)] h16) K0)
theorem GC (M : CombL) (C : Yc) (LP : Yx) (a0 a1 : Value) (H : AHeap) : Yw M Tryz.prog hints C LP F.jobs_Queue_Revive [a0, a1] H = Xp M.b.g M.c M.s Tryz.prog C a0 a1 H (Yj Tryz.prog [.tmp 4]) := by kernel_rfl
noncomputable def W6 (mg : GT) (mc : CT) (ms : ST) (P : Program) (C : Yc) (a0 : Value) (H : AHeap) (K0 : K) : Res :=
Yg C F.jobs_Queue_none [a0] H fun t4 h1 =>
mc t4 (fun k1 => k1 .ret [(2, (.slice none 0 0))] h1) (fun k1 =>
k1 .normal [(0, a0)] h1) (Ys (fun tT h2 =>
Yg C F.jobs_Queue_in [(get tT 0), (.slice none 0 0)] h2 fun t6 h3 =>
K0 .ret [(2, t6)] h3) K0)
theorem s_jobs_Queue_Jobs_eq (M : CombL) (C : Yc) (LP : Yx) (a0 : Value) (H : AHeap) : Yw M Tryz.prog hints C LP F.jobs_Queue_Jobs [a0] H = W6 M.b.g M.c M.s Tryz.prog C a0 H (Yj Tryz.prog [.tmp 2]) := by kernel_rfl
noncomputable def Vl (mg : GT) (mc : CT) (ms : ST) (P : Program) (C : Yc) (a0 : Value) (H : AHeap) (K0 : K) : Res :=
Yg C F.jobs_Queue_none [a0] H fun t4 h1 =>
mc t4 (fun k1 => k1 .ret [(2, (.int .i64 0))] h1) (fun k1 =>
k1 .normal [(0, a0)] h1) (Ys (fun tT h2 =>
Yb (Yl (get tT 0)) h2 fun t6 h3 =>
Yb (fad 4 t6) h3 fun t7 h4 =>
Yb (ld1 h4 t7) h4 fun t8 h5 =>
K0 .ret [(2, t8)] h5) K0)
theorem s_jobs_Queue_Now_eq (M : CombL) (C : Yc) (LP : Yx) (a0 : Value) (H : AHeap) : Yw M Tryz.prog hints C LP F.jobs_Queue_Now [a0] H = Vl M.b.g M.c M.s Tryz.prog C a0 H (Yj Tryz.prog [.tmp 2]) := by kernel_rfl
noncomputable def WO (mg : GT) (mc : CT) (ms : ST) (P : Program) (C : Yc) (L0 : Value → Value → Value → AHeap → K → Res) (L1 : Value → Value → Value → Value → AHeap → K → Res) (a0 : Value) (H : AHeap) (K0 : K) : Res :=
ms (fun k1 =>
L0 a0 (.slice none 0 0) (.int .i64 0) H (YB [3] 0 k1)) (Ys (fun tT h1 =>
K0 .ret [(2, (get tT 3))] h1) K0)
noncomputable def WS (mg : GT) (mc : CT) (ms : ST) (P : Program) (C : Yc) (L0 : Value → Value → Value → AHeap → K → Res) (L1 : Value → Value → Value → Value → AHeap → K → Res) (v0 v3 v4 : Value) (H : AHeap) (k : K) : Res :=
Yb (Yl v0) H fun t9 h1 =>
Yb (fad 0 t9) h1 fun t10 h2 =>
Yb (ld1 h2 t10) h2 fun t11 h3 =>
Yb (lenS t11) h3 fun t12 h4 =>
Yb (Yh P .lss T.int (.tmp 7) (.tmp 12) v4 t12) h4 fun t13 h5 =>
mc t13 (fun k2 => k2 .normal [(0, v0), (3, v3), (4, v4)] h5) (fun k2 =>
k2 (.exit 0) [(13, t13), (12, t12), (11, t11), (10, t10), (9, t9), (8, v0), (7, v4), (0, v0), (3, v3), (4, v4)] h5) (Ys (fun tT h6 =>
ms (fun k3 =>
ms (fun k4 =>
L1 (get tT 0) (get tT 3) (get tT 4) (.int .i64 0) h6 (YB [0, 3, 4, 5] 2 k4)) (Ys (fun tT_1 h7 =>
Yb (Yl (get tT_1 0)) h7 fun t37 h8 =>
Yb (fad 0 t37) h8 fun t38 h9 =>
Yb (ld1 h9 t38) h9 fun t39 h10 =>
Yb (ixS 7 t39 (get tT_1 4)) h10 fun t41 h11 =>
Yb (ldN 7 h11 t41) h11 fun t42 h12 =>
Yq (V2 T.api_Job [(.int .i64 0), (.int .i64 0), (.string (mk [])), (.int .i64 0), (.int .i64 0), (.int .i64 0), (.int .i64 0)] 1 [(0, t42)] h12) fun t43 h13 =>
Yb (slS T.api_Job 7 (get tT_1 3) (some (get tT_1 5)) none none h13) h13 fun t46 h14 =>
Yq (app T.api_Job 7 64 t43 (Wi 7 t46 h14) h14) fun t47 h15 =>
YX true <|
Yb (slS T.api_Job 7 (get tT_1 3) none (some (get tT_1 5)) none h15) h15 fun t50 h16 =>
Yq (app T.api_Job 7 64 (.slice none 0 0) (Wi 7 t50 h16) h16) fun t51 h17 =>
Yq (app T.api_Job 7 64 t51 (Wi 7 t47 h17) h17) fun t53 h18 =>
k3 .normal [(0, (get tT_1 0)), (3, t53), (4, (get tT_1 4))] h18) (YB [0, 3, 4] 1 k3))) (Ys (fun tT_2 h19 =>
Yb (Yh P .add T.int (.tmp 14) (.const (.int .i64 1)) (get tT_2 4) (.int .i64 1)) h19 fun t15 h20 =>
k .normal [(0, (get tT_2 0)), (3, (get tT_2 3)), (4, t15)] h20) (Yn [0, 3, 4] k))) (Yn [0, 3, 4] k))
noncomputable def X1 (mg : GT) (mc : CT) (ms : ST) (P : Program) (C : Yc) (L0 : Value → Value → Value → AHeap → K → Res) (L1 : Value → Value → Value → Value → AHeap → K → Res) (v0 v3 v4 v5 : Value) (H : AHeap) (k : K) : Res :=
Yb (lenS v3) H fun t18 h7 =>
Yb (Yh P .lss T.int (.tmp 16) (.tmp 18) v5 t18) h7 fun t19 h8 =>
mg t19 true (fun o5 => o5 v3 h8) h8 fun t21 h9 =>
mg t19 true (fun o6 => o6 v5 h9) h9 fun t22 h10 =>
mg t19 true (fun o7 => Yb (ixS 7 t21 t22) h10 o7) h10 fun t23 h11 =>
mg t19 true (fun o8 => Yb (ldN 7 h11 t23) h11 o8) h11 fun t24 h12 =>
mg t19 true (fun o9 => o9 v0 h12) h12 fun t25 h13 =>
mg t19 true (fun o10 => Yb (Yl t25) h13 o10) h13 fun t26 h14 =>
mg t19 true (fun o11 => Yb (fad 0 t26) h14 o11) h14 fun t27 h15 =>
mg t19 true (fun o12 => Yb (ld1 h15 t27) h15 o12) h15 fun t28 h16 =>
mg t19 true (fun o13 => o13 v4 h16) h16 fun t29 h17 =>
mg t19 true (fun o14 => Yb (ixS 7 t28 t29) h17 o14) h17 fun t30 h18 =>
mg t19 true (fun o15 => Yb (ldN 7 h18 t30) h18 o15) h18 fun t31 h19 =>
mg t19 true (fun o16 => Yg C F.law_before [t24, t31] h19 o16) h19 fun t32 h20 =>
YG t19 t32 (.bool false) fun t33 =>
YX true <|
mc t33 (fun k17 => k17 .normal [(0, v0), (3, v3), (4, v4), (5, v5)] h20) (fun k17 =>
k17 (.exit 2) [(33, t33), (32, t32), (31, t31), (30, t30), (29, t29), (28, t28), (27, t27), (26, t26), (25, t25), (24, t24), (23, t23), (22, t22), (21, t21), (20, t19), (19, t19), (18, t18), (17, v3), (16, v5), (0, v0), (3, v3), (4, v4), (5, v5)] h20) (Ys (fun tT h21 =>
ms (fun k18 =>
Yb (Yh P .add T.int (.tmp 34) (.const (.int .i64 1)) (get tT 5) (.int .i64 1)) h21 fun t35 h22 =>
k18 .normal [(0, (get tT 0)), (3, (get tT 3)), (4, (get tT 4)), (5, t35)] h22) (Yn [0, 3, 4, 5] k)) (Yn [0, 3, 4, 5] k))
theorem s_law_Model_sorted_eq (M : CombL) (C : Yc) (LP : Yx) (a0 : Value) (H : AHeap) : Yw M Tryz.prog hints C LP F.law_Model_sorted [a0] H = WO M.b.g M.c M.s Tryz.prog C (fun v0 v3 v4 H k => Yv M Tryz.prog hints C LP F.law_Model_sorted 0 [(0, v0), (3, v3), (4, v4)] H k) (fun v0 v3 v4 v5 H k => Yv M Tryz.prog hints C LP F.law_Model_sorted 1 [(0, v0), (3, v3), (4, v4), (5, v5)] H k) a0 H (Yj Tryz.prog [.tmp 2]) := by kernel_rfl
theorem ZR (M : CombL) (C : Yc) (LP : Yx) (v0 v3 v4 : Value) (H : AHeap) (k : K) : W3 M Tryz.prog hints C LP F.law_Model_sorted 0 [(0, v0), (3, v3), (4, v4)] H (Yn [0, 3, 4] k) = WS M.b.g M.c M.s Tryz.prog C (fun v0 v3 v4 H k => Yv M Tryz.prog hints C LP F.law_Model_sorted 0 [(0, v0), (3, v3), (4, v4)] H k) (fun v0 v3 v4 v5 H k => Yv M Tryz.prog hints C LP F.law_Model_sorted 1 [(0, v0), (3, v3), (4, v4), (5, v5)] H k) v0 v3 v4 H k := by kernel_rfl
theorem ZQ (M : CombL) (C : Yc) (LP : Yx) (v0 v3 v4 v5 : Value) (H : AHeap) (k : K) : W3 M Tryz.prog hints C LP F.law_Model_sorted 1 [(0, v0), (3, v3), (4, v4), (5, v5)] H (Yn [0, 3, 4, 5] k) = X1 M.b.g M.c M.s Tryz.prog C (fun v0 v3 v4 H k => Yv M Tryz.prog hints C LP F.law_Model_sorted 0 [(0, v0), (3, v3), (4, v4)] H k) (fun v0 v3 v4 v5 H k => Yv M Tryz.prog hints C LP F.law_Model_sorted 1 [(0, v0), (3, v3), (4, v4), (5, v5)] H k) v0 v3 v4 v5 H k := by kernel_rfl
noncomputable def Vg (mg : GT) (mc : CT) (ms : ST) (P : Program) (C : Yc) (a0 : Value) (H : AHeap) (K0 : K) : Res :=
Yg C F.jobs_Queue_none [a0] H fun t4 h1 =>
mc t4 (fun k1 => k1 .ret [(2, (.pointer none))] h1) (fun k1 =>
k1 .normal [(0, a0)] h1) (Ys (fun tT h2 =>
Yb (Yl (get tT 0)) h2 fun t6 h3 =>
Yb (fad 0 t6) h3 fun t7 h4 =>
Yb (ld1 h4 t7) h4 fun t8 h5 =>
Yg C F.model_Model_Copy [t8] h5 fun t9 h6 =>
K0 .ret [(2, t9)] h6) K0)
theorem s_jobs_Queue_Map_eq (M : CombL) (C : Yc) (LP : Yx) (a0 : Value) (H : AHeap) : Yw M Tryz.prog hints C LP F.jobs_Queue_Map [a0] H = Vg M.b.g M.c M.s Tryz.prog C a0 H (Yj Tryz.prog [.tmp 2]) := by kernel_rfl
noncomputable def VJ (mg : GT) (mc : CT) (ms : ST) (P : Program) (C : Yc) (a0 a1 : Value) (H : AHeap) (K0 : K) : Res :=
Yb (Yh P .eql T.p_model_Model (.tmp 6) (.const (.pointer none)) a0 (.pointer none)) H fun t7 h1 =>
Yb (Yh P .eql T.p_model_Model (.tmp 8) (.const (.pointer none)) a1 (.pointer none)) h1 fun t9 h2 =>
Yb (Yh P .neq T.bool (.tmp 7) (.tmp 9) t7 t9) h2 fun t10 h3 =>
mg t10 false (fun o1 => o1 (.func (.func F.model_Model_Len) #[] #[]) h3) h3 fun t12 h4 =>
mg t10 false (fun o2 => o2 a0 h4) h4 fun t13 h5 =>
mg t10 false (fun o3 => UL P C t12 [t13] h5 o3) h5 fun t14 h6 =>
mg t10 false (fun o4 => o4 (.func (.func F.model_Model_Len) #[] #[]) h6) h6 fun t15 h7 =>
mg t10 false (fun o5 => o5 a1 h7) h7 fun t16 h8 =>
mg t10 false (fun o6 => UL P C t15 [t16] h8 o6) h8 fun t17 h9 =>
mg t10 false (fun o7 => Yb (Yh P .neq T.int (.tmp 14) (.tmp 17) t14 t17) h9 o7) h9 fun t18 h10 =>
YG t10 (.bool true) t18 fun t19 =>
mc t19 (fun k8 => k8 .ret [(4, (.bool false))] h10) (fun k8 =>
k8 .normal [(0, a0), (1, a1)] h10) (Ys (fun tT h11 =>
Yg C F.model_Model_Pairs [(get tT 0)] h11 fun t21 h12 =>
Yg C F.model_Model_Pairs [(get tT 1)] h12 fun t23 h13 =>
Yg C F.slices_Equal_Pair [t21, t23] h13 fun t24 h14 =>
K0 .ret [(4, t24)] h14) K0)
theorem s_model_Equal_eq (M : CombL) (C : Yc) (LP : Yx) (a0 a1 : Value) (H : AHeap) : Yw M Tryz.prog hints C LP F.model_Equal [a0, a1] H = VJ M.b.g M.c M.s Tryz.prog C a0 a1 H (Yj Tryz.prog [.tmp 4]) := by kernel_rfl
noncomputable def W1 (mg : GT) (mc : CT) (ms : ST) (P : Program) (C : Yc) (L0 : Value → Value → Value → Value → AHeap → K → Res) (a0 : Value) (H : AHeap) (K0 : K) : Res :=
Yq (V2 T.api_CellKind [(.int .i64 0)] 3 [(0, (.int .i64 1)), (1, (.int .i64 1)), (2, (.int .i64 1))] H) fun t15 h1 =>
Yq (V2 T.api_CellKind [(.int .i64 0)] 4 [(0, (.int .i64 1)), (1, (.int .i64 3)), (2, (.int .i64 1)), (3, (.int .i64 1))] h1) fun t19 h2 =>
Yb (W9 #[(.int .i64 0), (.slice none 0 0), (.slice none 0 0)] [(0, 1), (1, 1), (2, 1)] [(0, (.int .i64 1)), (1, t15), (2, t19)]) h2 fun t20 h3 =>
Yq (Xs T.api_Table (.agg #[(.int .i64 0), (.slice none 0 0), (.slice none 0 0)]) h3) fun t4 h4 =>
Yt (stN 3 h4 t4 t20) fun _ h5 =>
Yb (W9 #[(.slice none 0 0)] [(0, 1)] []) h5 fun t21 h6 =>
Yq (Xs T.model_Model t21 h6) fun t22 h7 =>
ms (fun k1 =>
L0 a0 t4 t22 (.int .i64 0) h7 (YB [5] 0 k1)) (Ys (fun tT h8 =>
K0 .ret [(2, (get tT 5))] h8) K0)
noncomputable def XG (mg : GT) (mc : CT) (ms : ST) (P : Program) (C : Yc) (L0 : Value → Value → Value → Value → AHeap → K → Res) (v0 v4 v5 v6 : Value) (H : AHeap) (k : K) : Res :=
Yb (Yl v0) H fun t25 h8 =>
Yb (fad 0 t25) h8 fun t26 h9 =>
Yb (ld1 h9 t26) h9 fun t27 h10 =>
Yb (lenS t27) h10 fun t28 h11 =>
Yb (Yh P .lss T.int (.tmp 23) (.tmp 28) v6 t28) h11 fun t29 h12 =>
mc t29 (fun k2 => k2 .normal [(0, v0), (4, v4), (5, v5), (6, v6)] h12) (fun k2 =>
k2 (.exit 0) [(29, t29), (28, t28), (27, t27), (26, t26), (25, t25), (24, v0), (23, v6), (0, v0), (4, v4), (5, v5), (6, v6)] h12) (Ys (fun tT h13 =>
ms (fun k3 =>
Yb (Yl (get tT 0)) h13 fun t33 h14 =>
Yb (fad 0 t33) h14 fun t34 h15 =>
Yb (ld1 h15 t34) h15 fun t35 h16 =>
Yb (ixS 7 t35 (get tT 6)) h16 fun t37 h17 =>
Yb (ldN 7 h17 t37) h17 fun t38 h18 =>
Yq (Xs T.api_Job (.agg #[(.int .i64 0), (.int .i64 0), (.string (mk [])), (.int .i64 0), (.int .i64 0), (.int .i64 0), (.int .i64 0)]) h18) fun t7 h19 =>
Yt (stN 7 h19 t7 t38) fun _ h20 =>
Yb (fad 3 t7) h20 fun t39 h21 =>
Yb (ld1 h21 t39) h21 fun t40 h22 =>
Yb (Yh P .eql T.api_JobState (.tmp 40) (.const (.int .i64 1)) t40 (.int .i64 1)) h22 fun t41 h23 =>
mc t41 (fun k4 => Yb (fad 1 t7) h23 fun t42 h24 =>
Yb (ld1 h24 t42) h24 fun t43 h25 =>
Yb (Yh P .sub T.int (.const (.int .i64 9)) (.tmp 43) (.int .i64 9) t43) h25 fun t44 h26 =>
k4 .normal [(0, (get tT 0)), (4, (get tT 4)), (5, (get tT 5)), (6, (get tT 6)), (7, t7), (8, t44)] h26) (fun k4 =>
k4 .normal [(0, (get tT 0)), (4, (get tT 4)), (5, (get tT 5)), (6, (get tT 6)), (7, t7), (8, (.int .i64 0))] h23) (Ys (fun tT_1 h27 =>
Yb (fad 3 (get tT_1 7)) h27 fun t45 h28 =>
Yb (ld1 h28 t45) h28 fun t46 h29 =>
Yb (Yh P .eql T.api_JobState (.tmp 46) (.const (.int .i64 2)) t46 (.int .i64 2)) h29 fun t47 h30 =>
mc t47 (fun k5 => Yb (fad 6 (get tT_1 7)) h30 fun t48 h31 =>
Yb (ld1 h31 t48) h31 fun t49 h32 =>
k5 .normal [(0, (get tT_1 0)), (4, (get tT_1 4)), (5, (get tT_1 5)), (6, (get tT_1 6)), (7, (get tT_1 7)), (8, t49)] h32) (fun k5 =>
k5 .normal [(0, (get tT_1 0)), (4, (get tT_1 4)), (5, (get tT_1 5)), (6, (get tT_1 6)), (7, (get tT_1 7)), (8, (get tT_1 8))] h30) (Ys (fun tT_2 h33 =>
Yb (ldN 3 h33 (get tT_2 4)) h33 fun t51 h34 =>
Yb (fad 3 (get tT_2 7)) h34 fun t52 h35 =>
Yb (ld1 h35 t52) h35 fun t53 h36 =>
Yg C F.law_number [t53] h36 fun t54 h37 =>
Yg C F.law_number [(get tT_2 8)] h37 fun t56 h38 =>
Yb (fad 0 (get tT_2 7)) h38 fun t57 h39 =>
Yb (ld1 h39 t57) h39 fun t58 h40 =>
Yg C F.law_number [t58] h40 fun t59 h41 =>
Yb (fad 1 (get tT_2 7)) h41 fun t60 h42 =>
Yb (ld1 h42 t60) h42 fun t61 h43 =>
Yg C F.law_number [t61] h43 fun t62 h44 =>
Yb (fad 2 (get tT_2 7)) h44 fun t63 h45 =>
Yb (ld1 h45 t63) h45 fun t64 h46 =>
Yb (W9 #[(.int .i64 0), (.int .u64 0), (.int .i64 0), (.string (mk [])), (.bool false)] [(0, 1), (1, 1), (2, 1), (3, 1), (4, 1)] [(0, (.int .i64 3)), (3, t64)]) h46 fun t65 h47 =>
Yb (fad 4 (get tT_2 7)) h47 fun t66 h48 =>
Yb (ld1 h48 t66) h48 fun t67 h49 =>
Yg C F.law_number [t67] h49 fun t68 h50 =>
Yb (fad 5 (get tT_2 7)) h50 fun t69 h51 =>
Yb (ld1 h51 t69) h51 fun t70 h52 =>
Yg C F.law_number [t70] h52 fun t71 h53 =>
Yq (V2 T.api_Cell [(.int .i64 0), (.int .u64 0), (.int .i64 0), (.string (mk [])), (.bool false)] 7 [(0, t54), (1, t56), (2, t59), (3, t62), (4, t65), (5, t68), (6, t71)] h53) fun t72 h54 =>
Yg C F.rows_Row [t51, t72] h54 fun t73 h55 =>
Yb (Yp t73 0) h55 fun t74 h56 =>
Yb (Yp t73 1) h56 fun t75 h57 =>
Yb (Yp t73 2) h57 fun t76 h58 =>
YX (okV (some true) (Ye (get tT_2 4)) h36 h37 h33 h34 && (okV (some true) none h36 h37 h37 h37 && (okV (some true) none h36 h37 h38 h39 && (okV (some true) (Ye t57) h36 h37 h39 h40 && (okV (some true) none h36 h37 h41 h42 && (okV (some true) (Ye t60) h36 h37 h42 h43 && (okV (some true) none h36 h37 h44 h45 && (okV (some true) (Ye t63) h36 h37 h45 h46 && (okV (some true) none h36 h37 h46 h47 && (okV (some true) none h36 h37 h47 h48 && (okV (some true) (Ye t66) h36 h37 h48 h49 && (okV (some true) none h36 h37 h50 h51 && (okV (some true) (Ye t69) h36 h37 h51 h52 && (okV (some true) (Ye (get tT_2 4)) h37 h38 h33 h34 && (okV (some true) none h37 h38 h38 h39 && (okV (some true) (Ye t57) h37 h38 h39 h40 && (okV (some true) none h37 h38 h41 h42 && (okV (some true) (Ye t60) h37 h38 h42 h43 && (okV (some true) none h37 h38 h44 h45 && (okV (some true) (Ye t63) h37 h38 h45 h46 && (okV (some true) none h37 h38 h46 h47 && (okV (some true) none h37 h38 h47 h48 && (okV (some true) (Ye t66) h37 h38 h48 h49 && (okV (some true) none h37 h38 h50 h51 && (okV (some true) (Ye t69) h37 h38 h51 h52 && (okV (some true) (Ye (get tT_2 4)) h40 h41 h33 h34 && (okV (some true) none h40 h41 h41 h42 && (okV (some true) (Ye t60) h40 h41 h42 h43 && (okV (some true) none h40 h41 h44 h45 && (okV (some true) (Ye t63) h40 h41 h45 h46 && (okV (some true) none h40 h41 h46 h47 && (okV (some true) none h40 h41 h47 h48 && (okV (some true) (Ye t66) h40 h41 h48 h49 && (okV (some true) none h40 h41 h50 h51 && (okV (some true) (Ye t69) h40 h41 h51 h52 && (okV (some true) (Ye (get tT_2 4)) h43 h44 h33 h34 && (okV (some true) none h43 h44 h44 h45 && (okV (some true) (Ye t63) h43 h44 h45 h46 && (okV (some true) none h43 h44 h46 h47 && (okV (some true) none h43 h44 h47 h48 && (okV (some true) (Ye t66) h43 h44 h48 h49 && (okV (some true) none h43 h44 h50 h51 && (okV (some true) (Ye t69) h43 h44 h51 h52 && (okV (some true) (Ye (get tT_2 4)) h49 h50 h33 h34 && (okV (some true) none h49 h50 h44 h45 && (okV (some true) (Ye t63) h49 h50 h45 h46 && (okV (some true) none h49 h50 h46 h47 && (okV (some true) none h49 h50 h50 h51 && (okV (some true) (Ye t69) h49 h50 h51 h52 && (okV (some true) (Ye (get tT_2 4)) h52 h53 h33 h34 && (okV (some true) none h52 h53 h44 h45 && (okV (some true) (Ye t63) h52 h53 h45 h46 && (okV (some true) none h52 h53 h46 h47 && true))))))))))))))))))))))))))))))))))))))))))))))))))))) <|
Yg C F.model_Model_Put [(get tT_2 5), t74, t75] h58 fun t80 h59 =>
k3 .normal [(0, (get tT_2 0)), (4, (get tT_2 4)), (5, (get tT_2 5)), (6, (get tT_2 6))] h59) (YB [0, 4, 5, 6] 1 k3))) (YB [0, 4, 5, 6] 1 k3))) (Ys (fun tT_3 h60 =>
Yb (Yh P .add T.int (.tmp 30) (.const (.int .i64 1)) (get tT_3 6) (.int .i64 1)) h60 fun t31 h61 =>
k .normal [(0, (get tT_3 0)), (4, (get tT_3 4)), (5, (get tT_3 5)), (6, t31)] h61) (Yn [0, 4, 5, 6] k))) (Yn [0, 4, 5, 6] k))
theorem s_law_Model_pairs_eq (M : CombL) (C : Yc) (LP : Yx) (a0 : Value) (H : AHeap) : Yw M Tryz.prog hints C LP F.law_Model_pairs [a0] H = W1 M.b.g M.c M.s Tryz.prog C (fun v0 v4 v5 v6 H k => Yv M Tryz.prog hints C LP F.law_Model_pairs 0 [(0, v0), (4, v4), (5, v5), (6, v6)] H k) a0 H (Yj Tryz.prog [.tmp 2]) := by kernel_rfl
theorem Gc (M : CombL) (C : Yc) (LP : Yx) (v0 v4 v5 v6 : Value) (H : AHeap) (k : K) : W3 M Tryz.prog hints C LP F.law_Model_pairs 0 [(0, v0), (4, v4), (5, v5), (6, v6)] H (Yn [0, 4, 5, 6] k) = XG M.b.g M.c M.s Tryz.prog C (fun v0 v4 v5 v6 H k => Yv M Tryz.prog hints C LP F.law_Model_pairs 0 [(0, v0), (4, v4), (5, v5), (6, v6)] H k) v0 v4 v5 v6 H k := by kernel_rfl
noncomputable def Wj (mg : GT) (mc : CT) (ms : ST) (P : Program) (C : Yc) (a0 a1 a2 : Value) (H : AHeap) (K0 : K) : Res :=
Yq (V2 T.string [(.string (mk []))] 1 [(0, a2)] H) fun t14 h1 =>
Yg C F.model_Model_at [a0, a1, t14] h1 fun t15 h2 =>
Yb (Yp t15 0) h2 fun t16 h3 =>
Yb (Yp t15 1) h3 fun t17 h4 =>
Yb (Yp t15 2) h4 fun t18 h5 =>
Yb (Yh P .neq T.api_Errno (.tmp 19) (.const (.int .i64 0)) t18 (.int .i64 0)) h5 fun t20 h6 =>
mc t20 (fun k1 => k1 .ret [(6, t18)] h6) (fun k1 =>
k1 .normal [(0, a0), (1, a1), (2, a2), (7, t16), (8, t17)] h6) (Ys (fun tT h7 =>
Yb (W9 #[(.string (mk [])), (.string (mk []))] [(0, 1), (1, 1)] [(0, (get tT 1)), (1, (get tT 2))]) h7 fun t27 h8 =>
Yg C F.model_Model_set [(get tT 0), (get tT 7), (get tT 8), t27] h8 fun t28 h9 =>
K0 .ret [(6, t28)] h9) K0)
theorem s_model_Model_Put_eq (M : CombL) (C : Yc) (LP : Yx) (a0 a1 a2 : Value) (H : AHeap) : Yw M Tryz.prog hints C LP F.model_Model_Put [a0, a1, a2] H = Wj M.b.g M.c M.s Tryz.prog C a0 a1 a2 H (Yj Tryz.prog [.tmp 6]) := by kernel_rfl
noncomputable def Vm (mg : GT) (mc : CT) (ms : ST) (P : Program) (C : Yc) (L0 : Value → Value → Value → AHeap → K → Res) (a0 a1 : Value) (H : AHeap) (K0 : K) : Res :=
ms (fun k1 =>
L0 a0 a1 (.int .i64 0) H (YB [] 0 k1)) (Ys (fun tT h1 =>
K0 .ret [(4, (.int .i64 (-1)))] h1) K0)
noncomputable def Wt (mg : GT) (mc : CT) (ms : ST) (P : Program) (C : Yc) (L0 : Value → Value → Value → AHeap → K → Res) (v0 v1 v5 : Value) (H : AHeap) (k : K) : Res :=
Yb (Yl v0) H fun t8 h1 =>
Yb (fad 0 t8) h1 fun t9 h2 =>
Yb (ld1 h2 t9) h2 fun t10 h3 =>
Yb (lenS t10) h3 fun t11 h4 =>
Yb (Yh P .lss T.int (.tmp 6) (.tmp 11) v5 t11) h4 fun t12 h5 =>
mc t12 (fun k2 => k2 .normal [(0, v0), (1, v1), (5, v5)] h5) (fun k2 =>
k2 (.exit 0) [(12, t12), (11, t11), (10, t10), (9, t9), (8, t8), (7, v0), (6, v5), (0, v0), (1, v1), (5, v5)] h5) (Ys (fun tT h6 =>
ms (fun k3 =>
Yb (Yl (get tT 0)) h6 fun t16 h7 =>
Yb (fad 0 t16) h7 fun t17 h8 =>
Yb (ld1 h8 t17) h8 fun t18 h9 =>
Yb (ixS 7 t18 (get tT 5)) h9 fun t20 h10 =>
Yb (fad 0 t20) h10 fun t21 h11 =>
Yb (ld1 h11 t21) h11 fun t22 h12 =>
Yb (Yh P .eql T.int (.tmp 22) (.tmp 23) t22 (get tT 1)) h12 fun t24 h13 =>
mc t24 (fun k4 => k4 .ret [(4, (get tT 5))] h13) (fun k4 =>
k4 .normal [(0, (get tT 0)), (1, (get tT 1)), (5, (get tT 5))] h13) (YB [0, 1, 5] 1 k3)) (Ys (fun tT_1 h14 =>
Yb (Yh P .add T.int (.tmp 13) (.const (.int .i64 1)) (get tT_1 5) (.int .i64 1)) h14 fun t14 h15 =>
k .normal [(0, (get tT_1 0)), (1, (get tT_1 1)), (5, t14)] h15) (Yn [0, 1, 5] k))) (Yn [0, 1, 5] k))
theorem s_law_Model_find_eq (M : CombL) (C : Yc) (LP : Yx) (a0 a1 : Value) (H : AHeap) : Yw M Tryz.prog hints C LP F.law_Model_find [a0, a1] H = Vm M.b.g M.c M.s Tryz.prog C (fun v0 v1 v5 H k => Yv M Tryz.prog hints C LP F.law_Model_find 0 [(0, v0), (1, v1), (5, v5)] H k) a0 a1 H (Yj Tryz.prog [.tmp 4]) := by kernel_rfl
theorem Gn (M : CombL) (C : Yc) (LP : Yx) (v0 v1 v5 : Value) (H : AHeap) (k : K) : W3 M Tryz.prog hints C LP F.law_Model_find 0 [(0, v0), (1, v1), (5, v5)] H (Yn [0, 1, 5] k) = Wt M.b.g M.c M.s Tryz.prog C (fun v0 v1 v5 H k => Yv M Tryz.prog hints C LP F.law_Model_find 0 [(0, v0), (1, v1), (5, v5)] H k) v0 v1 v5 H k := by kernel_rfl
noncomputable def Xh (mg : GT) (mc : CT) (ms : ST) (P : Program) (C : Yc) (a0 a1 a2 : Value) (H : AHeap) (K0 : K) : Res :=
Yg C F.law_Model_find [a0, a2] H fun t11 h1 =>
ms (fun k1 =>
Yb (Yh P .lss T.int (.tmp 13) (.const (.int .i64 1)) a1 (.int .i64 1)) h1 fun t14 h2 =>
mg t14 false (fun o2 => o2 a1 h2) h2 fun t16 h3 =>
mg t14 false (fun o3 => Yb (Yh P .gtr T.int (.tmp 16) (.const (.int .i64 1000)) t16 (.int .i64 1000)) h3 o3) h3 fun t17 h4 =>
YG t14 (.bool true) t17 fun t18 =>
mc t18 (fun k4 => k4 .ret [(6, (.int .i64 0)), (7, (.int .i64 2))] h4) (fun k4 =>
Yb (Yh P .lss T.int (.tmp 20) (.const (.int .i64 0)) t11 (.int .i64 0)) h4 fun t21 h5 =>
mc t21 (fun k5 => k5 .ret [(6, (.int .i64 0)), (7, (.int .i64 9))] h5) (fun k5 =>
Yb (Yl a0) h5 fun t24 h6 =>
Yb (fad 0 t24) h6 fun t25 h7 =>
Yb (ld1 h7 t25) h7 fun t26 h8 =>
Yb (ixS 7 t26 t11) h8 fun t28 h9 =>
Yb (fad 3 t28) h9 fun t29 h10 =>
Yb (ld1 h10 t29) h10 fun t30 h11 =>
Yb (Yh P .neq T.api_JobState (.tmp 30) (.const (.int .i64 2)) t30 (.int .i64 2)) h11 fun t31 h12 =>
mg t31 false (fun o6 => o6 a0 h12) h12 fun t33 h13 =>
mg t31 false (fun o7 => Yb (Yl t33) h13 o7) h13 fun t34 h14 =>
mg t31 false (fun o8 => Yb (fad 0 t34) h14 o8) h14 fun t35 h15 =>
mg t31 false (fun o9 => Yb (ld1 h15 t35) h15 o9) h15 fun t36 h16 =>
mg t31 false (fun o10 => o10 t11 h16) h16 fun t37 h17 =>
mg t31 false (fun o11 => Yb (ixS 7 t36 t37) h17 o11) h17 fun t38 h18 =>
mg t31 false (fun o12 => Yb (fad 5 t38) h18 o12) h18 fun t39 h19 =>
mg t31 false (fun o13 => Yb (ld1 h19 t39) h19 o13) h19 fun t40 h20 =>
mg t31 false (fun o14 => o14 a1 h20) h20 fun t41 h21 =>
mg t31 false (fun o15 => Yb (Yh P .neq T.int (.tmp 40) (.tmp 41) t40 t41) h21 o15) h21 fun t42 h22 =>
YG t31 (.bool true) t42 fun t43 =>
mc t43 (fun k16 => k16 .ret [(6, (.int .i64 0)), (7, (.int .i64 8))] h22) (fun k16 =>
k16 .normal [(8, t11)] h22) (Yn [8] k5)) (Yn [8] k4)) (YB [8] 0 k1)) (Ys (fun tT h23 =>
K0 .ret [(6, (get tT 8)), (7, (.int .i64 0))] h23) K0)
theorem s_law_Model_own_eq (M : CombL) (C : Yc) (LP : Yx) (a0 a1 a2 : Value) (H : AHeap) : Yw M Tryz.prog hints C LP F.law_Model_own [a0, a1, a2] H = Xh M.b.g M.c M.s Tryz.prog C a0 a1 a2 H (Yj Tryz.prog [.tmp 6, .tmp 7]) := by kernel_rfl
noncomputable def WB (mg : GT) (mc : CT) (ms : ST) (P : Program) (C : Yc) (a0 a1 : Value) (H : AHeap) (K0 : K) : Res :=
Yb (Yl a0) H fun t6 h1 =>
Yb (fad 0 t6) h1 fun t7 h2 =>
Yb (ld1 h2 t7) h2 fun t8 h3 =>
Yb (ixS 7 t8 a1) h3 fun t10 h4 =>
Yb (Yl t10) h4 fun t14 h5 =>
Yb (fad 3 t14) h5 fun t15 h6 =>
Yt (st1 h6 t15 (.int .i64 1)) fun _ h7 =>
Yb (Yl t10) h7 fun t16 h8 =>
Yb (fad 5 t16) h8 fun t17 h9 =>
Yt (st1 h9 t17 (.int .i64 0)) fun _ h10 =>
Yb (Yl t10) h10 fun t18 h11 =>
Yb (fad 6 t18) h11 fun t19 h12 =>
Yt (st1 h12 t19 (.int .i64 0)) fun _ h13 =>
Yb (Yl t10) h13 fun t21 h14 =>
Yb (fad 4 t21) h14 fun t22 h15 =>
Yb (ld1 h15 t22) h15 fun t23 h16 =>
Yb (Yl a0) h16 fun t25 h17 =>
Yb (fad 1 t25) h17 fun t26 h18 =>
Yb (ld1 h18 t26) h18 fun t27 h19 =>
Yb (Yh P .geq T.int (.tmp 23) (.tmp 27) t23 t27) h19 fun t28 h20 =>
YX true <|
mc t28 (fun k1 => Yb (Yl t10) h20 fun t30 h21 =>
Yb (fad 3 t30) h21 fun t31 h22 =>
Yt (st1 h22 t31 (.int .i64 3)) fun _ h23 =>
k1 .normal [] h23) (fun k1 =>
k1 .normal [] h20) K0
theorem s_law_Model_back_eq (M : CombL) (C : Yc) (LP : Yx) (a0 a1 : Value) (H : AHeap) : Yw M Tryz.prog hints C LP F.law_Model_back [a0, a1] H = WB M.b.g M.c M.s Tryz.prog C a0 a1 H (Yj Tryz.prog []) := by kernel_rfl
noncomputable def W0 (mg : GT) (mc : CT) (ms : ST) (P : Program) (C : Yc) (a0 : Value) (H : AHeap) (K0 : K) : Res :=
Yg C F.jobs_Queue_none [a0] H fun t4 h1 =>
mc t4 (fun k1 => k1 .ret [(2, (.pointer none))] h1) (fun k1 =>
k1 .normal [(0, a0)] h1) (Ys (fun tT h2 =>
Yb (Yl (get tT 0)) h2 fun t6 h3 =>
Yb (fad 0 t6) h3 fun t7 h4 =>
Yb (ld1 h4 t7) h4 fun t8 h5 =>
Yg C F.model_Model_Copy [t8] h5 fun t9 h6 =>
Yb (Yl (get tT 0)) h6 fun t11 h7 =>
Yb (fad 1 t11) h7 fun t12 h8 =>
Yb (ld1 h8 t12) h8 fun t13 h9 =>
Yg C F.maps_Clone_string [t13] h9 fun t14 h10 =>
Yb (Yl (get tT 0)) h10 fun t16 h11 =>
Yb (fad 2 t16) h11 fun t17 h12 =>
Yb (ld1 h12 t17) h12 fun t18 h13 =>
Yb (Yl (get tT 0)) h13 fun t20 h14 =>
Yb (fad 3 t20) h14 fun t21 h15 =>
Yb (ld1 h15 t21) h15 fun t22 h16 =>
Yb (Yl (get tT 0)) h16 fun t24 h17 =>
Yb (fad 4 t24) h17 fun t25 h18 =>
Yb (ld1 h18 t25) h18 fun t26 h19 =>
Yb (W9 #[(.pointer none), (.map none), (.int .i64 0), (.int .i64 0), (.int .i64 0)] [(0, 1), (1, 1), (2, 1), (3, 1), (4, 1)] [(0, t9), (1, t14), (2, t18), (3, t22), (4, t26)]) h19 fun t27 h20 =>
Yq (Xs T.jobs_Queue t27 h20) fun t28 h21 =>
YX (okV (some true) none h5 h6 h6 h6 && (okV (some true) none h5 h6 h6 h7 && (okV (some true) none h5 h6 h7 h8 && (okV (some true) (Ye t12) h5 h6 h8 h9 && (okV (some true) none h5 h6 h10 h10 && (okV (some true) none h5 h6 h10 h11 && (okV (some true) none h5 h6 h11 h12 && (okV (some true) (Ye t17) h5 h6 h12 h13 && (okV (some true) none h5 h6 h13 h13 && (okV (some true) none h5 h6 h13 h14 && (okV (some true) none h5 h6 h14 h15 && (okV (some true) (Ye t21) h5 h6 h15 h16 && (okV (some true) none h5 h6 h16 h16 && (okV (some true) none h5 h6 h16 h17 && (okV (some true) none h5 h6 h17 h18 && (okV (some true) (Ye t25) h5 h6 h18 h19 && (okV (some true) none h9 h10 h10 h10 && (okV (some true) none h9 h10 h10 h11 && (okV (some true) none h9 h10 h11 h12 && (okV (some true) (Ye t17) h9 h10 h12 h13 && (okV (some true) none h9 h10 h13 h13 && (okV (some true) none h9 h10 h13 h14 && (okV (some true) none h9 h10 h14 h15 && (okV (some true) (Ye t21) h9 h10 h15 h16 && (okV (some true) none h9 h10 h16 h16 && (okV (some true) none h9 h10 h16 h17 && (okV (some true) none h9 h10 h17 h18 && (okV (some true) (Ye t25) h9 h10 h18 h19 && true)))))))))))))))))))))))))))) <|
K0 .ret [(2, t28)] h21) K0)
theorem s_jobs_Queue_Copy_eq (M : CombL) (C : Yc) (LP : Yx) (a0 : Value) (H : AHeap) : Yw M Tryz.prog hints C LP F.jobs_Queue_Copy [a0] H = W0 M.b.g M.c M.s Tryz.prog C a0 H (Yj Tryz.prog [.tmp 2]) := by kernel_rfl
noncomputable def XD (mg : GT) (mc : CT) (ms : ST) (P : Program) (C : Yc) (a0 a1 a2 : Value) (H : AHeap) (K0 : K) : Res :=
ms (fun k1 =>
Yg C F.jobs_Queue_none [a0] H fun t11 h1 =>
mc t11 (fun k2 => k2 .ret [(6, (.int .i64 0)), (7, (.int .i64 1))] h1) (fun k2 =>
Yb (Yh P .lss T.int (.tmp 13) (.const (.int .i64 0)) a1 (.int .i64 0)) h1 fun t14 h2 =>
mg t14 false (fun o3 => o3 a1 h2) h2 fun t16 h3 =>
mg t14 false (fun o4 => Yb (Yh P .gtr T.int (.tmp 16) (.const (.int .i64 9)) t16 (.int .i64 9)) h3 o4) h3 fun t17 h4 =>
YG t14 (.bool true) t17 fun t18 =>
mc t18 (fun k5 => k5 .ret [(6, (.int .i64 0)), (7, (.int .i64 2))] h4) (fun k5 =>
Yb (lenT a2) h4 fun t21 h5 =>
Yb (Yh P .gtr T.int (.tmp 21) (.const (.int .i64 15)) t21 (.int .i64 15)) h5 fun t22 h6 =>
mc t22 (fun k6 => k6 .ret [(6, (.int .i64 0)), (7, (.int .i64 5))] h6) (fun k6 =>
k6 .normal [(0, a0), (1, a1), (2, a2)] h6) (Yn [0, 1, 2] k5)) (Yn [0, 1, 2] k2)) (YB [0, 1, 2] 0 k1)) (Ys (fun tT h7 =>
Yb (Yl (get tT 0)) h7 fun t25 h8 =>
Yb (fad 3 t25) h8 fun t26 h9 =>
Yb (ld1 h9 t26) h9 fun t27 h10 =>
Yb (Yh P .add T.int (.tmp 27) (.const (.int .i64 1)) t27 (.int .i64 1)) h10 fun t28 h11 =>
Yb (W9 #[(.int .i64 0), (.int .i64 0), (.string (mk [])), (.int .i64 0), (.int .i64 0), (.int .i64 0), (.int .i64 0)] [(0, 1), (1, 1), (2, 1), (3, 1), (4, 1), (5, 1), (6, 1)] [(0, t28), (1, (get tT 1)), (2, (get tT 2)), (3, (.int .i64 1))]) h11 fun t31 h12 =>
Yg C F.jobs_Queue_set [(get tT 0), t31] h12 fun t32 h13 =>
Yb (Yh P .neq T.api_Errno (.tmp 33) (.const (.int .i64 0)) t32 (.int .i64 0)) h13 fun t34 h14 =>
mc t34 (fun k7 => k7 .ret [(6, (.int .i64 0)), (7, t32)] h14) (fun k7 =>
k7 .normal [(0, (get tT 0))] h14) (Ys (fun tT_1 h15 =>
Yb (Yl (get tT_1 0)) h15 fun t37 h16 =>
Yb (fad 3 t37) h16 fun t38 h17 =>
Yb (ld1 h17 t38) h17 fun t39 h18 =>
Yb (Yh P .add T.int (.tmp 39) (.const (.int .i64 1)) t39 (.int .i64 1)) h18 fun t40 h19 =>
Yb (Yl (get tT_1 0)) h19 fun t41 h20 =>
Yb (fad 3 t41) h20 fun t42 h21 =>
Yt (st1 h21 t42 t40) fun _ h22 =>
Yb (Yl (get tT_1 0)) h22 fun t44 h23 =>
Yb (fad 3 t44) h23 fun t45 h24 =>
Yb (ld1 h24 t45) h24 fun t46 h25 =>
K0 .ret [(6, t46), (7, (.int .i64 0))] h25) K0)) K0)
theorem s_jobs_Queue_Put_eq (M : CombL) (C : Yc) (LP : Yx) (a0 a1 a2 : Value) (H : AHeap) : Yw M Tryz.prog hints C LP F.jobs_Queue_Put [a0, a1, a2] H = XD M.b.g M.c M.s Tryz.prog C a0 a1 a2 H (Yj Tryz.prog [.tmp 6, .tmp 7]) := by kernel_rfl
noncomputable def YZ (mg : GT) (mc : CT) (ms : ST) (P : Program) (C : Yc) (a0 a1 a2 : Value) (H : AHeap) (K0 : K) : Res :=
Yq (Xs T.api_Job (.agg #[(.int .i64 0), (.int .i64 0), (.string (mk [])), (.int .i64 0), (.int .i64 0), (.int .i64 0), (.int .i64 0)]) H) fun t6 h1 =>
ms (fun k1 =>
Yg C F.jobs_Queue_none [a0] h1 fun t13 h2 =>
mc t13 (fun k2 => Yb (W9 #[(.int .i64 0), (.int .i64 0), (.string (mk [])), (.int .i64 0), (.int .i64 0), (.int .i64 0), (.int .i64 0)] [(0, 1), (1, 1), (2, 1), (3, 1), (4, 1), (5, 1), (6, 1)] []) h2 fun t14 h3 =>
Yt (stN 7 h3 t6 t14) fun _ h4 =>
k2 .ret [(6, t6), (7, (.int .i64 1))] h4) (fun k2 =>
Yb (Yh P .lss T.int (.tmp 16) (.const (.int .i64 1)) a1 (.int .i64 1)) h2 fun t17 h5 =>
mg t17 false (fun o3 => o3 a1 h5) h5 fun t19 h6 =>
mg t17 false (fun o4 => Yb (Yh P .gtr T.int (.tmp 19) (.const (.int .i64 1000)) t19 (.int .i64 1000)) h6 o4) h6 fun t20 h7 =>
YG t17 (.bool true) t20 fun t21 =>
mg t21 false (fun o5 => o5 a2 h7) h7 fun t23 h8 =>
mg t21 false (fun o6 => Yb (Yh P .lss T.int (.tmp 23) (.const (.int .i64 1)) t23 (.int .i64 1)) h8 o6) h8 fun t24 h9 =>
YG t21 (.bool true) t24 fun t25 =>
mg t25 false (fun o7 => o7 a2 h9) h9 fun t27 h10 =>
mg t25 false (fun o8 => o8 a0 h10) h10 fun t28 h11 =>
mg t25 false (fun o9 => Yb (Yl t28) h11 o9) h11 fun t29 h12 =>
mg t25 false (fun o10 => Yb (fad 4 t29) h12 o10) h12 fun t30 h13 =>
mg t25 false (fun o11 => Yb (ld1 h13 t30) h13 o11) h13 fun t31 h14 =>
mg t25 false (fun o12 => Yb (Yh P .sub T.int (.const (.int .i64 1099511627776)) (.tmp 31) (.int .i64 1099511627776) t31) h14 o12) h14 fun t32 h15 =>
mg t25 false (fun o13 => Yb (Yh P .gtr T.int (.tmp 27) (.tmp 32) t27 t32) h15 o13) h15 fun t33 h16 =>
YG t25 (.bool true) t33 fun t34 =>
mc t34 (fun k14 => Yb (W9 #[(.int .i64 0), (.int .i64 0), (.string (mk [])), (.int .i64 0), (.int .i64 0), (.int .i64 0), (.int .i64 0)] [(0, 1), (1, 1), (2, 1), (3, 1), (4, 1), (5, 1), (6, 1)] []) h16 fun t35 h17 =>
Yt (stN 7 h17 t6 t35) fun _ h18 =>
k14 .ret [(6, t6), (7, (.int .i64 2))] h18) (fun k14 =>
k14 .normal [(0, a0), (1, a1), (2, a2), (6, t6)] h16) (Yn [0, 1, 2, 6] k2)) (YB [0, 1, 2, 6] 0 k1)) (Ys (fun tT h19 =>
Yg C F.jobs_number [(.int .i64 1)] h19 fun t37 h20 =>
Yq (V2 T.api_Cell [(.int .i64 0), (.int .u64 0), (.int .i64 0), (.string (mk [])), (.bool false)] 1 [(0, t37)] h20) fun t38 h21 =>
Yg C F.jobs_Queue_in [(get tT 0), t38] h21 fun t39 h22 =>
Yb (lenS t39) h22 fun t41 h23 =>
Yb (Yh P .eql T.int (.tmp 41) (.const (.int .i64 0)) t41 (.int .i64 0)) h23 fun t42 h24 =>
mc t42 (fun k15 => Yb (W9 #[(.int .i64 0), (.int .i64 0), (.string (mk [])), (.int .i64 0), (.int .i64 0), (.int .i64 0), (.int .i64 0)] [(0, 1), (1, 1), (2, 1), (3, 1), (4, 1), (5, 1), (6, 1)] []) h24 fun t43 h25 =>
Yt (stN 7 h25 (get tT 6) t43) fun _ h26 =>
k15 .ret [(6, (get tT 6)), (7, (.int .i64 9))] h26) (fun k15 =>
k15 .normal [(0, (get tT 0)), (1, (get tT 1)), (2, (get tT 2)), (6, (get tT 6)), (8, t39)] h24) (Ys (fun tT_1 h27 =>
Yb (ixS 7 (get tT_1 8) (.int .i64 0)) h27 fun t45 h28 =>
Yb (ldN 7 h28 t45) h28 fun t46 h29 =>
Yq (Xs T.api_Job (.agg #[(.int .i64 0), (.int .i64 0), (.string (mk [])), (.int .i64 0), (.int .i64 0), (.int .i64 0), (.int .i64 0)]) h29) fun t9 h30 =>
Yt (stN 7 h30 t9 t46) fun _ h31 =>
Yb (Yl (get tT_1 0)) h31 fun t49 h32 =>
Yb (fad 4 t49) h32 fun t50 h33 =>
Yb (ld1 h33 t50) h33 fun t51 h34 =>
Yb (Yh P .add T.int (.tmp 51) (.tmp 52) t51 (get tT_1 2)) h34 fun t53 h35 =>
Yb (fad 4 t9) h35 fun t54 h36 =>
Yb (ld1 h36 t54) h36 fun t55 h37 =>
Yb (Yh P .add T.int (.tmp 55) (.const (.int .i64 1)) t55 (.int .i64 1)) h37 fun t56 h38 =>
Yb (fad 3 t9) h38 fun t57 h39 =>
Yt (st1 h39 t57 (.int .i64 2)) fun _ h40 =>
Yb (fad 5 t9) h40 fun t58 h41 =>
Yt (st1 h41 t58 (get tT_1 1)) fun _ h42 =>
Yb (fad 6 t9) h42 fun t59 h43 =>
Yt (st1 h43 t59 t53) fun _ h44 =>
Yb (fad 4 t9) h44 fun t60 h45 =>
Yt (st1 h45 t60 t56) fun _ h46 =>
YX (okV (some true) none h39 h40 h31 h31 && (okV (some true) none h39 h40 h31 h31 && (okV (some true) none h39 h40 h31 h32 && (okV (some true) none h39 h40 h32 h33 && (okV (some true) (Ye t50) h39 h40 h33 h34 && (okV (some true) none h39 h40 h34 h34 && (okV (some true) none h39 h40 h34 h35 && (okV (some true) none h39 h40 h37 h38 && (okV (some true) none h41 h42 h31 h31 && (okV (some true) none h41 h42 h31 h32 && (okV (some true) none h41 h42 h32 h33 && (okV (some true) (Ye t50) h41 h42 h33 h34 && (okV (some true) none h41 h42 h34 h34 && (okV (some true) none h41 h42 h34 h35 && (okV (some true) none h41 h42 h37 h38 && (okV (some true) none h43 h44 h37 h38 && true)))))))))))))))) <|
Yb (ldN 7 h46 t9) h46 fun t62 h47 =>
Yg C F.jobs_Queue_set [(get tT_1 0), t62] h47 fun t63 h48 =>
Yb (Yh P .neq T.api_Errno (.tmp 64) (.const (.int .i64 0)) t63 (.int .i64 0)) h48 fun t65 h49 =>
mc t65 (fun k16 => Yb (W9 #[(.int .i64 0), (.int .i64 0), (.string (mk [])), (.int .i64 0), (.int .i64 0), (.int .i64 0), (.int .i64 0)] [(0, 1), (1, 1), (2, 1), (3, 1), (4, 1), (5, 1), (6, 1)] []) h49 fun t66 h50 =>
Yt (stN 7 h50 (get tT_1 6) t66) fun _ h51 =>
k16 .ret [(6, (get tT_1 6)), (7, t63)] h51) (fun k16 =>
k16 .normal [(6, (get tT_1 6)), (9, t9)] h49) (Ys (fun tT_2 h52 =>
Yb (ldN 7 h52 (get tT_2 9)) h52 fun t68 h53 =>
Yt (stN 7 h53 (get tT_2 6) t68) fun _ h54 =>
K0 .ret [(6, (get tT_2 6)), (7, (.int .i64 0))] h54) K0)) K0)) K0)
theorem s_jobs_Queue_Take_eq (M : CombL) (C : Yc) (LP : Yx) (a0 a1 a2 : Value) (H : AHeap) : Yw M Tryz.prog hints C LP F.jobs_Queue_Take [a0, a1, a2] H = YZ M.b.g M.c M.s Tryz.prog C a0 a1 a2 H (Yj Tryz.prog [.cell 6 T.api_Job, .tmp 7]) := by kernel_rfl
noncomputable def Y0 (mg : GT) (mc : CT) (ms : ST) (P : Program) (C : Yc) (a0 a1 a2 : Value) (H : AHeap) (K0 : K) : Res :=
Yq (Xs T.api_Job (.agg #[(.int .i64 0), (.int .i64 0), (.string (mk [])), (.int .i64 0), (.int .i64 0), (.int .i64 0), (.int .i64 0)]) H) fun t6 h1 =>
ms (fun k1 =>
Yg C F.jobs_Queue_none [a0] h1 fun t12 h2 =>
mc t12 (fun k2 => Yb (W9 #[(.int .i64 0), (.int .i64 0), (.string (mk [])), (.int .i64 0), (.int .i64 0), (.int .i64 0), (.int .i64 0)] [(0, 1), (1, 1), (2, 1), (3, 1), (4, 1), (5, 1), (6, 1)] []) h2 fun t13 h3 =>
Yt (stN 7 h3 t6 t13) fun _ h4 =>
k2 .ret [(6, t6), (7, (.int .i64 1))] h4) (fun k2 =>
Yb (Yh P .lss T.int (.tmp 15) (.const (.int .i64 1)) a1 (.int .i64 1)) h2 fun t16 h5 =>
mg t16 false (fun o3 => o3 a1 h5) h5 fun t18 h6 =>
mg t16 false (fun o4 => Yb (Yh P .gtr T.int (.tmp 18) (.const (.int .i64 1000)) t18 (.int .i64 1000)) h6 o4) h6 fun t19 h7 =>
YG t16 (.bool true) t19 fun t20 =>
mc t20 (fun k5 => Yb (W9 #[(.int .i64 0), (.int .i64 0), (.string (mk [])), (.int .i64 0), (.int .i64 0), (.int .i64 0), (.int .i64 0)] [(0, 1), (1, 1), (2, 1), (3, 1), (4, 1), (5, 1), (6, 1)] []) h7 fun t21 h8 =>
Yt (stN 7 h8 t6 t21) fun _ h9 =>
k5 .ret [(6, t6), (7, (.int .i64 2))] h9) (fun k5 =>
k5 .normal [(0, a0), (1, a1), (2, a2), (6, t6)] h7) (Yn [0, 1, 2, 6] k2)) (YB [0, 1, 2, 6] 0 k1)) (Ys (fun tT h10 =>
Yg C F.jobs_Queue_Get [(get tT 0), (get tT 2)] h10 fun t25 h11 =>
Yb (Yp t25 0) h11 fun t26 h12 =>
Yb (Yp t25 1) h12 fun t27 h13 =>
Yq (Xs T.api_Job (.agg #[(.int .i64 0), (.int .i64 0), (.string (mk [])), (.int .i64 0), (.int .i64 0), (.int .i64 0), (.int .i64 0)]) h13) fun t8 h14 =>
Yt (stN 7 h14 t8 t26) fun _ h15 =>
Yb (Yh P .neq T.api_Errno (.tmp 28) (.const (.int .i64 0)) t27 (.int .i64 0)) h15 fun t29 h16 =>
mc t29 (fun k6 => Yb (W9 #[(.int .i64 0), (.int .i64 0), (.string (mk [])), (.int .i64 0), (.int .i64 0), (.int .i64 0), (.int .i64 0)] [(0, 1), (1, 1), (2, 1), (3, 1), (4, 1), (5, 1), (6, 1)] []) h16 fun t30 h17 =>
Yt (stN 7 h17 (get tT 6) t30) fun _ h18 =>
k6 .ret [(6, (get tT 6)), (7, t27)] h18) (fun k6 =>
k6 .normal [(1, (get tT 1)), (6, (get tT 6)), (8, t8)] h16) (Ys (fun tT_1 h19 =>
Yb (fad 3 (get tT_1 8)) h19 fun t32 h20 =>
Yb (ld1 h20 t32) h20 fun t33 h21 =>
Yb (Yh P .neq T.api_JobState (.tmp 33) (.const (.int .i64 2)) t33 (.int .i64 2)) h21 fun t34 h22 =>
mg t34 false (fun o7 => Yb (fad 5 (get tT_1 8)) h22 o7) h22 fun t36 h23 =>
mg t34 false (fun o8 => Yb (ld1 h23 t36) h23 o8) h23 fun t37 h24 =>
mg t34 false (fun o9 => o9 (get tT_1 1) h24) h24 fun t38 h25 =>
mg t34 false (fun o10 => Yb (Yh P .neq T.int (.tmp 37) (.tmp 38) t37 t38) h25 o10) h25 fun t39 h26 =>
YG t34 (.bool true) t39 fun t40 =>
mc t40 (fun k11 => Yb (W9 #[(.int .i64 0), (.int .i64 0), (.string (mk [])), (.int .i64 0), (.int .i64 0), (.int .i64 0), (.int .i64 0)] [(0, 1), (1, 1), (2, 1), (3, 1), (4, 1), (5, 1), (6, 1)] []) h26 fun t41 h27 =>
Yt (stN 7 h27 (get tT_1 6) t41) fun _ h28 =>
k11 .ret [(6, (get tT_1 6)), (7, (.int .i64 8))] h28) (fun k11 =>
k11 .normal [(6, (get tT_1 6)), (8, (get tT_1 8))] h26) (Ys (fun tT_2 h29 =>
Yb (ldN 7 h29 (get tT_2 8)) h29 fun t42 h30 =>
Yt (stN 7 h30 (get tT_2 6) t42) fun _ h31 =>
K0 .ret [(6, (get tT_2 6)), (7, (.int .i64 0))] h31) K0)) K0)) K0)
theorem s_jobs_Queue_taken_eq (M : CombL) (C : Yc) (LP : Yx) (a0 a1 a2 : Value) (H : AHeap) : Yw M Tryz.prog hints C LP F.jobs_Queue_taken [a0, a1, a2] H = Y0 M.b.g M.c M.s Tryz.prog C a0 a1 a2 H (Yj Tryz.prog [.cell 6 T.api_Job, .tmp 7]) := by kernel_rfl
noncomputable def Xe (mg : GT) (mc : CT) (ms : ST) (P : Program) (C : Yc) (a0 a1 : Value) (H : AHeap) (K0 : K) : Res :=
Yg C F.model_Model_Get [a0, a1] H fun t13 h1 =>
Yb (Yp t13 0) h1 fun t14 h2 =>
Yb (Yp t13 1) h2 fun t15 h3 =>
Yb (Yh P .neq T.api_Errno (.tmp 16) (.const (.int .i64 0)) t15 (.int .i64 0)) h3 fun t17 h4 =>
mc t17 (fun k1 => k1 .ret [(4, (.string (mk []))), (5, t15)] h4) (fun k1 =>
k1 .normal [(0, a0), (1, a1), (6, t14)] h4) (Ys (fun tT h5 =>
Yg C F.model_Model_place [(get tT 0), (get tT 1)] h5 fun t22 h6 =>
Yb (Yp t22 0) h6 fun t23 h7 =>
Yb (Yp t22 1) h7 fun t24 h8 =>
Yb (Yl (get tT 0)) h8 fun t27 h9 =>
Yb (fad 0 t27) h9 fun t28 h10 =>
Yb (ld1 h10 t28) h10 fun t29 h11 =>
Yb (Yh P .add T.int (.tmp 31) (.const (.int .i64 1)) t23 (.int .i64 1)) h11 fun t32 h12 =>
Yg C F.slices_Delete_Pair [t29, t23, t32] h12 fun t33 h13 =>
Yb (Yl (get tT 0)) h13 fun t34 h14 =>
Yb (fad 0 t34) h14 fun t35 h15 =>
Yt (st1 h15 t35 t33) fun _ h16 =>
K0 .ret [(4, (get tT 6)), (5, (.int .i64 0))] h16) K0)
theorem Z8 (M : CombL) (C : Yc) (LP : Yx) (a0 a1 : Value) (H : AHeap) : Yw M Tryz.prog hints C LP F.model_Model_Delete [a0, a1] H = Xe M.b.g M.c M.s Tryz.prog C a0 a1 H (Yj Tryz.prog [.tmp 4, .tmp 5]) := by kernel_rfl
noncomputable def Wk (mg : GT) (mc : CT) (ms : ST) (P : Program) (C : Yc) (a0 a1 : Value) (H : AHeap) (K0 : K) : Res :=
Yq (Xs T.api_Job a1 H) fun t3 h1 =>
Yb (fad 3 t3) h1 fun t5 h2 =>
Yt (st1 h2 t5 (.int .i64 1)) fun _ h3 =>
Yb (fad 5 t3) h3 fun t6 h4 =>
Yt (st1 h4 t6 (.int .i64 0)) fun _ h5 =>
Yb (fad 6 t3) h5 fun t7 h6 =>
Yt (st1 h6 t7 (.int .i64 0)) fun _ h7 =>
Yb (fad 4 t3) h7 fun t8 h8 =>
Yb (ld1 h8 t8) h8 fun t9 h9 =>
Yb (Yl a0) h9 fun t11 h10 =>
Yb (fad 2 t11) h10 fun t12 h11 =>
Yb (ld1 h11 t12) h11 fun t13 h12 =>
Yb (Yh P .geq T.int (.tmp 9) (.tmp 13) t9 t13) h12 fun t14 h13 =>
YX true <|
mc t14 (fun k1 => Yb (fad 3 t3) h13 fun t15 h14 =>
Yt (st1 h14 t15 (.int .i64 3)) fun _ h15 =>
k1 .normal [(0, a0), (3, t3)] h15) (fun k1 =>
k1 .normal [(0, a0), (3, t3)] h13) (Ys (fun tT h16 =>
Yb (ldN 7 h16 (get tT 3)) h16 fun t17 h17 =>
Yg C F.jobs_Queue_set [(get tT 0), t17] h17 fun t18 h18 =>
K0 .ret [(4, t18)] h18) K0)
theorem s_jobs_Queue_back_eq (M : CombL) (C : Yc) (LP : Yx) (a0 a1 : Value) (H : AHeap) : Yw M Tryz.prog hints C LP F.jobs_Queue_back [a0, a1] H = Wk M.b.g M.c M.s Tryz.prog C a0 a1 H (Yj Tryz.prog [.tmp 4]) := by kernel_rfl
noncomputable def XT (mg : GT) (mc : CT) (ms : ST) (P : Program) (C : Yc) (a0 : Value) (H : AHeap) (K0 : K) : Res :=
Yb (Yh P .eql T.p_jobs_Queue (.tmp 3) (.const (.pointer none)) a0 (.pointer none)) H fun t4 h1 =>
mg t4 false (fun o1 => o1 a0 h1) h1 fun t6 h2 =>
mg t4 false (fun o2 => Yb (Yl t6) h2 o2) h2 fun t7 h3 =>
mg t4 false (fun o3 => Yb (fad 0 t7) h3 o3) h3 fun t8 h4 =>
mg t4 false (fun o4 => Yb (ld1 h4 t8) h4 o4) h4 fun t9 h5 =>
mg t4 false (fun o5 => Yb (Yh P .eql T.p_model_Model (.tmp 9) (.const (.pointer none)) t9 (.pointer none)) h5 o5) h5 fun t10 h6 =>
YG t4 (.bool true) t10 fun t11 =>
K0 .ret [(2, t11)] h6
theorem s_jobs_Queue_none_eq (M : CombL) (C : Yc) (LP : Yx) (a0 : Value) (H : AHeap) : Yw M Tryz.prog hints C LP F.jobs_Queue_none [a0] H = XT M.b.g M.c M.s Tryz.prog C a0 H (Yj Tryz.prog [.tmp 2]) := by kernel_rfl
noncomputable def VE (mg : GT) (mc : CT) (ms : ST) (P : Program) (C : Yc) (L0 : Value → Value → Value → Value → Value → Value → AHeap → K → Res) (a0 a1 : Value) (H : AHeap) (K0 : K) : Res :=
Yg C F.jobs_table [] H fun t14 h1 =>
Yg C F.rows_Span [t14, a1] h1 fun t16 h2 =>
Yb (Yp t16 0) h2 fun t17 h3 =>
Yb (Yp t16 1) h3 fun t18 h4 =>
Yb (Yp t16 2) h4 fun t19 h5 =>
Yb (Yl a0) h5 fun t21 h6 =>
Yb (fad 0 t21) h6 fun t22 h7 =>
Yb (ld1 h7 t22) h7 fun t23 h8 =>
Yg C F.model_Model_Pairs [t23] h8 fun t24 h9 =>
Yb (lenS t24) h9 fun t25 h10 =>
ms (fun k1 =>
L0 t17 t18 (.slice none 0 0) t24 t25 (.int .i64 0) h10 (YB [8] 0 k1)) (Ys (fun tT h11 =>
K0 .ret [(4, (get tT 8))] h11) K0)
noncomputable def XA (mg : GT) (mc : CT) (ms : ST) (P : Program) (C : Yc) (L0 : Value → Value → Value → Value → Value → Value → AHeap → K → Res) (v5 v6 v8 v24 v25 v26 : Value) (H : AHeap) (k : K) : Res :=
Yb (Yh P .lss T.int (.tmp 26) (.tmp 25) v26 v25) H fun t27 h11 =>
mc t27 (fun k2 => k2 .normal [(5, v5), (6, v6), (8, v8), (24, v24), (25, v25), (26, v26)] h11) (fun k2 =>
k2 (.exit 0) [(27, t27), (5, v5), (6, v6), (8, v8), (24, v24), (25, v25), (26, v26)] h11) (Ys (fun tT h12 =>
ms (fun k3 =>
Yb (ixS 2 (get tT 24) (get tT 26)) h12 fun t28 h13 =>
Yb (ldN 2 h13 t28) h13 fun t29 h14 =>
Yq (Xs T.api_Pair (.agg #[(.string (mk [])), (.string (mk []))]) h14) fun t10 h15 =>
Yt (stN 2 h15 t10 t29) fun _ h16 =>
Yb (fad 0 t10) h16 fun t30 h17 =>
Yb (ld1 h17 t30) h17 fun t31 h18 =>
Yb (Yh P .lss T.string (.tmp 31) (.tmp 32) t31 (get tT 5)) h18 fun t33 h19 =>
mg t33 false (fun o4 => o4 (get tT 6) h19) h19 fun t35 h20 =>
mg t33 false (fun o5 => Yb (Yh P .neq T.string (.tmp 35) (.const (.string (mk []))) t35 (.string (mk []))) h20 o5) h20 fun t36 h21 =>
mg t33 false (fun o6 => o6 t36 h21) h21 fun t37 h22 =>
mg t37 true (fun o7 => Yb (fad 0 t10) h22 o7) h22 fun t38 h23 =>
mg t37 true (fun o8 => Yb (ld1 h23 t38) h23 o8) h23 fun t39 h24 =>
mg t37 true (fun o9 => o9 (get tT 6) h24) h24 fun t40 h25 =>
mg t37 true (fun o10 => Yb (Yh P .geq T.string (.tmp 39) (.tmp 40) t39 t40) h25 o10) h25 fun t41 h26 =>
mg t33 false (fun o11 => YG t37 t41 (.bool false) fun v => o11 v h26) h26 fun t42 h27 =>
YG t33 (.bool true) t42 fun t43 =>
mc t43 (fun k12 => k12 (.exit 1) ((43, t43) :: (42, t42) :: (41, t41) :: (40, t40) :: (39, t39) :: (38, t38) :: (37, t37) :: (36, t36) :: (35, t35) :: (34, t33) :: (33, t33) :: (32, (get tT 5)) :: (31, t31) :: (30, t30) :: (10, t10) :: (29, t29) :: (28, t28) :: tT) h27) (fun k12 =>
k12 .normal [(5, (get tT 5)), (6, (get tT 6)), (8, (get tT 8)), (10, t10), (24, (get tT 24)), (25, (get tT 25)), (26, (get tT 26))] h27) (Ys (fun tT_1 h28 =>
Yg C F.jobs_table [] h28 fun t45 h29 =>
Yb (fad 0 (get tT_1 10)) h29 fun t46 h30 =>
Yb (ld1 h30 t46) h30 fun t47 h31 =>
Yb (fad 1 (get tT_1 10)) h31 fun t48 h32 =>
Yb (ld1 h32 t48) h32 fun t49 h33 =>
Yg C F.rows_Read [t45, t47, t49] h33 fun t50 h34 =>
Yb (Yp t50 0) h34 fun t51 h35 =>
Yb (Yp t50 1) h35 fun t52 h36 =>
YX (okV (some true) none h28 h29 h29 h30 && (okV (some true) (Ye t46) h28 h29 h30 h31 && (okV (some true) none h28 h29 h31 h32 && (okV (some true) (Ye t48) h28 h29 h32 h33 && true)))) <|
Yb (Yh P .eql T.api_Errno (.tmp 53) (.const (.int .i64 0)) t52 (.int .i64 0)) h36 fun t54 h37 =>
mc t54 (fun k13 => Yg C F.jobs_job [t51] h37 fun t57 h38 =>
Yq (V2 T.api_Job [(.int .i64 0), (.int .i64 0), (.string (mk [])), (.int .i64 0), (.int .i64 0), (.int .i64 0), (.int .i64 0)] 1 [(0, t57)] h38) fun t58 h39 =>
Yq (app T.api_Job 7 64 (get tT_1 8) (Wi 7 t58 h39) h39) fun t59 h40 =>
k13 .normal [(5, (get tT_1 5)), (6, (get tT_1 6)), (8, t59), (24, (get tT_1 24)), (25, (get tT_1 25)), (26, (get tT_1 26))] h40) (fun k13 =>
k13 .normal [(5, (get tT_1 5)), (6, (get tT_1 6)), (8, (get tT_1 8)), (24, (get tT_1 24)), (25, (get tT_1 25)), (26, (get tT_1 26))] h37) (YB [5, 6, 8, 24, 25, 26] 1 k3)) (YB [5, 6, 8, 24, 25, 26] 1 k3))) (Ys (fun tT_2 h41 =>
Yb (Yh P .add T.int (.tmp 26) (.const (.int .i64 1)) (get tT_2 26) (.int .i64 1)) h41 fun t60 h42 =>
k .normal [(5, (get tT_2 5)), (6, (get tT_2 6)), (8, (get tT_2 8)), (24, (get tT_2 24)), (25, (get tT_2 25)), (26, t60)] h42) (Yn [5, 6, 8, 24, 25, 26] k))) (Yn [5, 6, 8, 24, 25, 26] k))
theorem s_jobs_Queue_in_eq (M : CombL) (C : Yc) (LP : Yx) (a0 a1 : Value) (H : AHeap) : Yw M Tryz.prog hints C LP F.jobs_Queue_in [a0, a1] H = VE M.b.g M.c M.s Tryz.prog C (fun v5 v6 v8 v24 v25 v26 H k => Yv M Tryz.prog hints C LP F.jobs_Queue_in 0 [(5, v5), (6, v6), (8, v8), (24, v24), (25, v25), (26, v26)] H k) a0 a1 H (Yj Tryz.prog [.tmp 4]) := by kernel_rfl
theorem s_jobs_Queue_in_b0_eq (M : CombL) (C : Yc) (LP : Yx) (v5 v6 v8 v24 v25 v26 : Value) (H : AHeap) (k : K) : W3 M Tryz.prog hints C LP F.jobs_Queue_in 0 [(5, v5), (6, v6), (8, v8), (24, v24), (25, v25), (26, v26)] H (Yn [5, 6, 8, 24, 25, 26] k) = XA M.b.g M.c M.s Tryz.prog C (fun v5 v6 v8 v24 v25 v26 H k => Yv M Tryz.prog hints C LP F.jobs_Queue_in 0 [(5, v5), (6, v6), (8, v8), (24, v24), (25, v25), (26, v26)] H k) v5 v6 v8 v24 v25 v26 H k := by kernel_rfl
noncomputable def Uu (mg : GT) (mc : CT) (ms : ST) (P : Program) (C : Yc) (a0 : Value) (H : AHeap) (K0 : K) : Res :=
Yq (Xs T.api_Cell (.agg #[(.int .i64 0), (.int .u64 0), (.int .i64 0), (.string (mk [])), (.bool false)]) H) fun t2 h1 =>
Yq (YR P T.int T.uint64 a0 h1) fun t4 h2 =>
Yb (W9 #[(.int .i64 0), (.int .u64 0), (.int .i64 0), (.string (mk [])), (.bool false)] [(0, 1), (1, 1), (2, 1), (3, 1), (4, 1)] [(0, (.int .i64 1)), (1, t4)]) h2 fun t5 h3 =>
Yt (stN 5 h3 t2 t5) fun _ h4 =>
K0 .ret [(2, t2)] h4
theorem s_jobs_number_eq (M : CombL) (C : Yc) (LP : Yx) (a0 : Value) (H : AHeap) : Yw M Tryz.prog hints C LP F.jobs_number [a0] H = Uu M.b.g M.c M.s Tryz.prog C a0 H (Yj Tryz.prog [.cell 2 T.api_Cell]) := by kernel_rfl
noncomputable def WD (mg : GT) (mc : CT) (ms : ST) (P : Program) (C : Yc) (a0 a1 : Value) (H : AHeap) (K0 : K) : Res :=
Yq (Xs T.api_Job (.agg #[(.int .i64 0), (.int .i64 0), (.string (mk [])), (.int .i64 0), (.int .i64 0), (.int .i64 0), (.int .i64 0)]) H) fun t4 h1 =>
Yg C F.jobs_Queue_none [a0] h1 fun t12 h2 =>
mc t12 (fun k1 => Yb (W9 #[(.int .i64 0), (.int .i64 0), (.string (mk [])), (.int .i64 0), (.int .i64 0), (.int .i64 0), (.int .i64 0)] [(0, 1), (1, 1), (2, 1), (3, 1), (4, 1), (5, 1), (6, 1)] []) h2 fun t13 h3 =>
Yt (stN 7 h3 t4 t13) fun _ h4 =>
k1 .ret [(4, t4), (5, (.int .i64 1))] h4) (fun k1 =>
k1 .normal [(0, a0), (1, a1), (4, t4)] h2) (Ys (fun tT h5 =>
Yb (Yl (get tT 0)) h5 fun t16 h6 =>
Yb (fad 1 t16) h6 fun t17 h7 =>
Yb (ld1 h7 t17) h7 fun t18 h8 =>
Yb (Wb P T.map_int_string t18 (get tT 1) true h8) h8 fun t20 h9 =>
Yb (Yp t20 0) h9 fun t21 h10 =>
Yb (Yp t20 1) h10 fun t22 h11 =>
Yb (xun P .not t22) h11 fun t24 h12 =>
mc t24 (fun k2 => Yb (W9 #[(.int .i64 0), (.int .i64 0), (.string (mk [])), (.int .i64 0), (.int .i64 0), (.int .i64 0), (.int .i64 0)] [(0, 1), (1, 1), (2, 1), (3, 1), (4, 1), (5, 1), (6, 1)] []) h12 fun t25 h13 =>
Yt (stN 7 h13 (get tT 4) t25) fun _ h14 =>
k2 .ret [(4, (get tT 4)), (5, (.int .i64 9))] h14) (fun k2 =>
k2 .normal [(0, (get tT 0)), (4, (get tT 4)), (6, t21)] h12) (Ys (fun tT_1 h15 =>
Yb (Yl (get tT_1 0)) h15 fun t28 h16 =>
Yb (fad 0 t28) h16 fun t29 h17 =>
Yb (ld1 h17 t29) h17 fun t30 h18 =>
Yg C F.model_Model_Get [t30, (get tT_1 6)] h18 fun t32 h19 =>
Yb (Yp t32 0) h19 fun t33 h20 =>
Yb (Yp t32 1) h20 fun t34 h21 =>
Yb (Yh P .neq T.api_Errno (.tmp 35) (.const (.int .i64 0)) t34 (.int .i64 0)) h21 fun t36 h22 =>
mc t36 (fun k3 => Yb (W9 #[(.int .i64 0), (.int .i64 0), (.string (mk [])), (.int .i64 0), (.int .i64 0), (.int .i64 0), (.int .i64 0)] [(0, 1), (1, 1), (2, 1), (3, 1), (4, 1), (5, 1), (6, 1)] []) h22 fun t37 h23 =>
Yt (stN 7 h23 (get tT_1 4) t37) fun _ h24 =>
k3 .ret [(4, (get tT_1 4)), (5, t34)] h24) (fun k3 =>
k3 .normal [(4, (get tT_1 4)), (6, (get tT_1 6)), (8, t33)] h22) (Ys (fun tT_2 h25 =>
Yg C F.jobs_table [] h25 fun t40 h26 =>
Yg C F.rows_Read [t40, (get tT_2 6), (get tT_2 8)] h26 fun t43 h27 =>
Yb (Yp t43 0) h27 fun t44 h28 =>
Yb (Yp t43 1) h28 fun t45 h29 =>
Yb (Yh P .neq T.api_Errno (.tmp 46) (.const (.int .i64 0)) t45 (.int .i64 0)) h29 fun t47 h30 =>
mc t47 (fun k4 => Yb (W9 #[(.int .i64 0), (.int .i64 0), (.string (mk [])), (.int .i64 0), (.int .i64 0), (.int .i64 0), (.int .i64 0)] [(0, 1), (1, 1), (2, 1), (3, 1), (4, 1), (5, 1), (6, 1)] []) h30 fun t48 h31 =>
Yt (stN 7 h31 (get tT_2 4) t48) fun _ h32 =>
k4 .ret [(4, (get tT_2 4)), (5, t45)] h32) (fun k4 =>
k4 .normal [(4, (get tT_2 4)), (10, t44)] h30) (Ys (fun tT_3 h33 =>
Yg C F.jobs_job [(get tT_3 10)] h33 fun t51 h34 =>
Yt (stN 7 h34 (get tT_3 4) t51) fun _ h35 =>
K0 .ret [(4, (get tT_3 4)), (5, (.int .i64 0))] h35) K0)) K0)) K0)) K0)
theorem s_jobs_Queue_Get_eq (M : CombL) (C : Yc) (LP : Yx) (a0 a1 : Value) (H : AHeap) : Yw M Tryz.prog hints C LP F.jobs_Queue_Get [a0, a1] H = WD M.b.g M.c M.s Tryz.prog C a0 a1 H (Yj Tryz.prog [.cell 4 T.api_Job, .tmp 5]) := by kernel_rfl
noncomputable def XC (mg : GT) (mc : CT) (ms : ST) (P : Program) (C : Yc) (a0 a1 : Value) (H : AHeap) (K0 : K) : Res :=
Yq (Xs T.api_Job a1 H) fun t3 h1 =>
Yg C F.jobs_table [] h1 fun t12 h2 =>
Yb (ldN 7 h2 t3) h2 fun t13 h3 =>
Yg C F.jobs_row [t13] h3 fun t14 h4 =>
Yg C F.rows_Row [t12, t14] h4 fun t15 h5 =>
Yb (Yp t15 0) h5 fun t16 h6 =>
Yb (Yp t15 1) h6 fun t17 h7 =>
Yb (Yp t15 2) h7 fun t18 h8 =>
YX (okV (some true) (Ye t3) h1 h2 h2 h3 && true) <|
Yb (Yh P .neq T.api_Errno (.tmp 19) (.const (.int .i64 0)) t18 (.int .i64 0)) h8 fun t20 h9 =>
mc t20 (fun k1 => k1 .ret [(4, t18)] h9) (fun k1 =>
k1 .normal [(0, a0), (3, t3), (5, t16), (6, t17)] h9) (Ys (fun tT h10 =>
Yb (Yl (get tT 0)) h10 fun t24 h11 =>
Yb (fad 1 t24) h11 fun t25 h12 =>
Yb (ld1 h12 t25) h12 fun t26 h13 =>
Yb (fad 0 (get tT 3)) h13 fun t27 h14 =>
Yb (ld1 h14 t27) h14 fun t28 h15 =>
Yb (Wb P T.map_int_string t26 t28 true h15) h15 fun t29 h16 =>
Yb (Yp t29 0) h16 fun t30 h17 =>
Yb (Yp t29 1) h17 fun t31 h18 =>
YX true <|
mc t31 (fun k2 => Yb (Yl (get tT 0)) h18 fun t34 h19 =>
Yb (fad 0 t34) h19 fun t35 h20 =>
Yb (ld1 h20 t35) h20 fun t36 h21 =>
Yg C F.model_Model_Delete [t36, t30] h21 fun t38 h22 =>
k2 .normal [(0, (get tT 0)), (3, (get tT 3)), (5, (get tT 5)), (6, (get tT 6))] h22) (fun k2 =>
k2 .normal [(0, (get tT 0)), (3, (get tT 3)), (5, (get tT 5)), (6, (get tT 6))] h18) (Ys (fun tT_1 h23 =>
Yb (Yl (get tT_1 0)) h23 fun t40 h24 =>
Yb (fad 0 t40) h24 fun t41 h25 =>
Yb (ld1 h25 t41) h25 fun t42 h26 =>
Yg C F.model_Model_Put [t42, (get tT_1 5), (get tT_1 6)] h26 fun t45 h27 =>
Yb (Yh P .neq T.api_Errno (.tmp 46) (.const (.int .i64 0)) t45 (.int .i64 0)) h27 fun t47 h28 =>
mc t47 (fun k3 => k3 .ret [(4, t45)] h28) (fun k3 =>
k3 .normal [(0, (get tT_1 0)), (3, (get tT_1 3)), (5, (get tT_1 5))] h28) (Ys (fun tT_2 h29 =>
Yb (Yl (get tT_2 0)) h29 fun t50 h30 =>
Yb (fad 1 t50) h30 fun t51 h31 =>
Yb (ld1 h31 t51) h31 fun t52 h32 =>
Yb (fad 0 (get tT_2 3)) h32 fun t53 h33 =>
Yb (ld1 h33 t53) h33 fun t54 h34 =>
Yt (Wn P T.map_int_string t52 t54 (get tT_2 5) h34) fun _ h35 =>
YX true <|
K0 .ret [(4, (.int .i64 0))] h35) K0)) K0)) K0)
theorem s_jobs_Queue_set_eq (M : CombL) (C : Yc) (LP : Yx) (a0 a1 : Value) (H : AHeap) : Yw M Tryz.prog hints C LP F.jobs_Queue_set [a0, a1] H = XC M.b.g M.c M.s Tryz.prog C a0 a1 H (Yj Tryz.prog [.tmp 4]) := by kernel_rfl
noncomputable def Wc (mg : GT) (mc : CT) (ms : ST) (P : Program) (C : Yc) (a0 a1 : Value) (H : AHeap) (K0 : K) : Res :=
Yq (Xs T.api_Job a0 H) fun t2 h1 =>
Yq (Xs T.api_Job a1 h1) fun t3 h2 =>
Yb (fad 3 t2) h2 fun t5 h3 =>
Yb (ld1 h3 t5) h3 fun t6 h4 =>
Yb (fad 3 t3) h4 fun t7 h5 =>
Yb (ld1 h5 t7) h5 fun t8 h6 =>
Yb (Yh P .neq T.api_JobState (.tmp 6) (.tmp 8) t6 t8) h6 fun t9 h7 =>
mc t9 (fun k1 => Yb (fad 3 t2) h7 fun t10 h8 =>
Yb (ld1 h8 t10) h8 fun t11 h9 =>
Yb (fad 3 t3) h9 fun t12 h10 =>
Yb (ld1 h10 t12) h10 fun t13 h11 =>
Yb (Yh P .lss T.api_JobState (.tmp 11) (.tmp 13) t11 t13) h11 fun t14 h12 =>
k1 .ret [(4, t14)] h12) (fun k1 =>
k1 .normal [(2, t2), (3, t3)] h7) (Ys (fun tT h13 =>
Yb (fad 3 (get tT 2)) h13 fun t15 h14 =>
Yb (ld1 h14 t15) h14 fun t16 h15 =>
Yb (Yh P .eql T.api_JobState (.tmp 16) (.const (.int .i64 1)) t16 (.int .i64 1)) h15 fun t17 h16 =>
mg t17 true (fun o2 => Yb (fad 1 (get tT 2)) h16 o2) h16 fun t19 h17 =>
mg t17 true (fun o3 => Yb (ld1 h17 t19) h17 o3) h17 fun t20 h18 =>
mg t17 true (fun o4 => Yb (fad 1 (get tT 3)) h18 o4) h18 fun t21 h19 =>
mg t17 true (fun o5 => Yb (ld1 h19 t21) h19 o5) h19 fun t22 h20 =>
mg t17 true (fun o6 => Yb (Yh P .neq T.int (.tmp 20) (.tmp 22) t20 t22) h20 o6) h20 fun t23 h21 =>
YG t17 t23 (.bool false) fun t24 =>
mc t24 (fun k7 => Yb (fad 1 (get tT 2)) h21 fun t25 h22 =>
Yb (ld1 h22 t25) h22 fun t26 h23 =>
Yb (fad 1 (get tT 3)) h23 fun t27 h24 =>
Yb (ld1 h24 t27) h24 fun t28 h25 =>
Yb (Yh P .gtr T.int (.tmp 26) (.tmp 28) t26 t28) h25 fun t29 h26 =>
k7 .ret [(4, t29)] h26) (fun k7 =>
k7 .normal [(2, (get tT 2)), (3, (get tT 3))] h21) (Ys (fun tT_1 h27 =>
Yb (fad 3 (get tT_1 2)) h27 fun t30 h28 =>
Yb (ld1 h28 t30) h28 fun t31 h29 =>
Yb (Yh P .eql T.api_JobState (.tmp 31) (.const (.int .i64 2)) t31 (.int .i64 2)) h29 fun t32 h30 =>
mg t32 true (fun o8 => Yb (fad 6 (get tT_1 2)) h30 o8) h30 fun t34 h31 =>
mg t32 true (fun o9 => Yb (ld1 h31 t34) h31 o9) h31 fun t35 h32 =>
mg t32 true (fun o10 => Yb (fad 6 (get tT_1 3)) h32 o10) h32 fun t36 h33 =>
mg t32 true (fun o11 => Yb (ld1 h33 t36) h33 o11) h33 fun t37 h34 =>
mg t32 true (fun o12 => Yb (Yh P .neq T.int (.tmp 35) (.tmp 37) t35 t37) h34 o12) h34 fun t38 h35 =>
YG t32 t38 (.bool false) fun t39 =>
mc t39 (fun k13 => Yb (fad 6 (get tT_1 2)) h35 fun t40 h36 =>
Yb (ld1 h36 t40) h36 fun t41 h37 =>
Yb (fad 6 (get tT_1 3)) h37 fun t42 h38 =>
Yb (ld1 h38 t42) h38 fun t43 h39 =>
Yb (Yh P .lss T.int (.tmp 41) (.tmp 43) t41 t43) h39 fun t44 h40 =>
k13 .ret [(4, t44)] h40) (fun k13 =>
k13 .normal [(2, (get tT_1 2)), (3, (get tT_1 3))] h35) (Ys (fun tT_2 h41 =>
Yb (fad 0 (get tT_2 2)) h41 fun t45 h42 =>
Yb (ld1 h42 t45) h42 fun t46 h43 =>
Yb (fad 0 (get tT_2 3)) h43 fun t47 h44 =>
Yb (ld1 h44 t47) h44 fun t48 h45 =>
Yb (Yh P .lss T.int (.tmp 46) (.tmp 48) t46 t48) h45 fun t49 h46 =>
K0 .ret [(4, t49)] h46) K0)) K0)) K0)
theorem s_law_before_eq (M : CombL) (C : Yc) (LP : Yx) (a0 a1 : Value) (H : AHeap) : Yw M Tryz.prog hints C LP F.law_before [a0, a1] H = Wc M.b.g M.c M.s Tryz.prog C a0 a1 H (Yj Tryz.prog [.tmp 4]) := by kernel_rfl
noncomputable def WJ (mg : GT) (mc : CT) (ms : ST) (P : Program) (C : Yc) (a0 : Value) (H : AHeap) (K0 : K) : Res :=
Yb (Yh P .eql T.p_model_Model (.tmp 3) (.const (.pointer none)) a0 (.pointer none)) H fun t4 h1 =>
mc t4 (fun k1 => k1 .ret [(2, (.pointer none))] h1) (fun k1 =>
k1 .normal [(0, a0)] h1) (Ys (fun tT h2 =>
Yb (Yl (get tT 0)) h2 fun t6 h3 =>
Yb (fad 0 t6) h3 fun t7 h4 =>
Yb (ld1 h4 t7) h4 fun t8 h5 =>
Yg C F.slices_Clone_Pair [t8] h5 fun t9 h6 =>
Yb (W9 #[(.slice none 0 0)] [(0, 1)] [(0, t9)]) h6 fun t10 h7 =>
Yq (Xs T.model_Model t10 h7) fun t11 h8 =>
K0 .ret [(2, t11)] h8) K0)
theorem s_model_Model_Copy_eq (M : CombL) (C : Yc) (LP : Yx) (a0 : Value) (H : AHeap) : Yw M Tryz.prog hints C LP F.model_Model_Copy [a0] H = WJ M.b.g M.c M.s Tryz.prog C a0 H (Yj Tryz.prog [.tmp 2]) := by kernel_rfl
noncomputable def WX (mg : GT) (mc : CT) (ms : ST) (P : Program) (C : Yc) (a0 : Value) (H : AHeap) (K0 : K) : Res :=
Yb (Yh P .eql T.p_model_Model (.tmp 3) (.const (.pointer none)) a0 (.pointer none)) H fun t4 h1 =>
mc t4 (fun k1 => k1 .ret [(2, (.int .i64 0))] h1) (fun k1 =>
k1 .normal [(0, a0)] h1) (Ys (fun tT h2 =>
Yb (Yl (get tT 0)) h2 fun t6 h3 =>
Yb (fad 0 t6) h3 fun t7 h4 =>
Yb (ld1 h4 t7) h4 fun t8 h5 =>
Yb (lenS t8) h5 fun t9 h6 =>
K0 .ret [(2, t9)] h6) K0)
theorem s_model_Model_Len_eq (M : CombL) (C : Yc) (LP : Yx) (a0 : Value) (H : AHeap) : Yw M Tryz.prog hints C LP F.model_Model_Len [a0] H = WX M.b.g M.c M.s Tryz.prog C a0 H (Yj Tryz.prog [.tmp 2]) := by kernel_rfl
noncomputable def XV (mg : GT) (mc : CT) (ms : ST) (P : Program) (C : Yc) (L0 : Value → Value → Value → Value → AHeap → K → Res) (a0 a1 : Value) (H : AHeap) (K0 : K) : Res :=
Yb (lenS a0) H fun t7 h1 =>
Yb (lenS a1) h1 fun t9 h2 =>
Yb (Yh P .neq T.int (.tmp 7) (.tmp 9) t7 t9) h2 fun t10 h3 =>
mc t10 (fun k1 => k1 .ret [(4, (.bool false))] h3) (fun k1 =>
k1 .normal [(0, a0), (1, a1)] h3) (Ys (fun tT h4 =>
Yb (lenS (get tT 0)) h4 fun t12 h5 =>
ms (fun k2 =>
L0 (get tT 0) (get tT 1) t12 (.int .i64 0) h5 (YB [] 0 k2)) (Ys (fun tT_1 h6 =>
K0 .ret [(4, (.bool true))] h6) K0)) K0)
noncomputable def XN (mg : GT) (mc : CT) (ms : ST) (P : Program) (C : Yc) (L0 : Value → Value → Value → Value → AHeap → K → Res) (v0 v1 v12 v13 : Value) (H : AHeap) (k : K) : Res :=
Yb (Yh P .lss T.int (.tmp 13) (.tmp 12) v13 v12) H fun t14 h6 =>
mc t14 (fun k3 => k3 .normal [(0, v0), (1, v1), (12, v12), (13, v13)] h6) (fun k3 =>
k3 (.exit 0) [(14, t14), (0, v0), (1, v1), (12, v12), (13, v13)] h6) (Ys (fun tT h7 =>
ms (fun k4 =>
Yb (ixS 2 (get tT 0) (get tT 13)) h7 fun t18 h8 =>
Yb (ldN 2 h8 t18) h8 fun t19 h9 =>
Yb (ixS 2 (get tT 1) (get tT 13)) h9 fun t22 h10 =>
Yb (ldN 2 h10 t22) h10 fun t23 h11 =>
Yb (Yh P .neq T.api_Pair (.tmp 19) (.tmp 23) t19 t23) h11 fun t24 h12 =>
YX true <|
mc t24 (fun k5 => k5 .ret [(4, (.bool false))] h12) (fun k5 =>
k5 .normal [(0, (get tT 0)), (1, (get tT 1)), (12, (get tT 12)), (13, (get tT 13))] h12) (YB [0, 1, 12, 13] 1 k4)) (Ys (fun tT_1 h13 =>
Yb (Yh P .add T.int (.tmp 13) (.const (.int .i64 1)) (get tT_1 13) (.int .i64 1)) h13 fun t25 h14 =>
k .normal [(0, (get tT_1 0)), (1, (get tT_1 1)), (12, (get tT_1 12)), (13, t25)] h14) (Yn [0, 1, 12, 13] k))) (Yn [0, 1, 12, 13] k))
theorem Gk (M : CombL) (C : Yc) (LP : Yx) (a0 a1 : Value) (H : AHeap) : Yw M Tryz.prog hints C LP F.slices_Equal_Pair [a0, a1] H = XV M.b.g M.c M.s Tryz.prog C (fun v0 v1 v12 v13 H k => Yv M Tryz.prog hints C LP F.slices_Equal_Pair 0 [(0, v0), (1, v1), (12, v12), (13, v13)] H k) a0 a1 H (Yj Tryz.prog [.tmp 4]) := by kernel_rfl
theorem Zr (M : CombL) (C : Yc) (LP : Yx) (v0 v1 v12 v13 : Value) (H : AHeap) (k : K) : W3 M Tryz.prog hints C LP F.slices_Equal_Pair 0 [(0, v0), (1, v1), (12, v12), (13, v13)] H (Yn [0, 1, 12, 13] k) = XN M.b.g M.c M.s Tryz.prog C (fun v0 v1 v12 v13 H k => Yv M Tryz.prog hints C LP F.slices_Equal_Pair 0 [(0, v0), (1, v1), (12, v12), (13, v13)] H k) v0 v1 v12 v13 H k := by kernel_rfl
noncomputable def Wv (mg : GT) (mc : CT) (ms : ST) (P : Program) (C : Yc) (a0 : Value) (H : AHeap) (K0 : K) : Res :=
Yb (Yh P .eql T.p_model_Model (.tmp 3) (.const (.pointer none)) a0 (.pointer none)) H fun t4 h1 =>
mc t4 (fun k1 => k1 .ret [(2, (.slice none 0 0))] h1) (fun k1 =>
k1 .normal [(0, a0)] h1) (Ys (fun tT h2 =>
Yb (Yl (get tT 0)) h2 fun t6 h3 =>
Yb (fad 0 t6) h3 fun t7 h4 =>
Yb (ld1 h4 t7) h4 fun t8 h5 =>
Yg C F.slices_Clone_Pair [t8] h5 fun t9 h6 =>
K0 .ret [(2, t9)] h6) K0)
theorem Gj (M : CombL) (C : Yc) (LP : Yx) (a0 : Value) (H : AHeap) : Yw M Tryz.prog hints C LP F.model_Model_Pairs [a0] H = Wv M.b.g M.c M.s Tryz.prog C a0 H (Yj Tryz.prog [.tmp 2]) := by kernel_rfl
noncomputable def VB (mg : GT) (mc : CT) (ms : ST) (P : Program) (C : Yc) (a0 a1 : Value) (H : AHeap) (K0 : K) : Res :=
Yq (Xs T.api_Table a0 H) fun t2 h1 =>
Yb (ldN 3 h1 t2) h1 fun t7 h2 =>
Yg C F.rows_Valid [t7] h2 fun t8 h3 =>
Yb (xun P .not t8) h3 fun t9 h4 =>
mg t9 false (fun o1 => o1 a1 h4) h4 fun t11 h5 =>
mg t9 false (fun o2 => Yb (fad 1 t2) h5 o2) h5 fun t12 h6 =>
mg t9 false (fun o3 => Yb (ld1 h6 t12) h6 o3) h6 fun t13 h7 =>
mg t9 false (fun o4 => Yb (fad 2 t2) h7 o4) h7 fun t14 h8 =>
mg t9 false (fun o5 => Yb (ld1 h8 t14) h8 o5) h8 fun t15 h9 =>
mg t9 false (fun o6 => Yq (V2 T.sl_api_CellKind [(.slice none 0 0)] 2 [(0, t13), (1, t15)] h9) o6) h9 fun t16 h10 =>
mg t9 false (fun o7 => Yg C F.slices_Concat_CellKind [t16] h10 o7) h10 fun t17 h11 =>
mg t9 false (fun o8 => Yg C F.rows_are [t11, t17] h11 o8) h11 fun t18 h12 =>
mg t9 false (fun o9 => Yb (xun P .not t18) h12 o9) h12 fun t19 h13 =>
YG t9 (.bool true) t19 fun t20 =>
mc t20 (fun k10 => k10 .ret [(4, (.string (mk []))), (5, (.string (mk []))), (6, (.int .i64 2))] h13) (fun k10 =>
k10 .normal [(1, a1), (2, t2)] h13) (Ys (fun tT h14 =>
Yb (fad 0 (get tT 2)) h14 fun t21 h15 =>
Yb (ld1 h15 t21) h15 fun t22 h16 =>
Yq (YR P T.int T.uint8 t22 h16) fun t23 h17 =>
Yq (V2 T.uint8 [(.int .u8 0)] 1 [(0, t23)] h17) fun t24 h18 =>
Yb (fad 1 (get tT 2)) h18 fun t26 h19 =>
Yb (ld1 h19 t26) h19 fun t27 h20 =>
Yb (lenS t27) h20 fun t28 h21 =>
Yb (slS T.api_Cell 5 (get tT 1) none (some t28) none h21) h21 fun t29 h22 =>
Yg C F.rows_puts [t24, t29] h22 fun t30 h23 =>
Yb (fad 1 (get tT 2)) h23 fun t32 h24 =>
Yb (ld1 h24 t32) h24 fun t33 h25 =>
Yb (lenS t33) h25 fun t34 h26 =>
Yb (slS T.api_Cell 5 (get tT 1) (some t34) none none h26) h26 fun t35 h27 =>
Yg C F.rows_puts [(.slice none 0 0), t35] h27 fun t36 h28 =>
YX (okV (some true) none h22 h23 h23 h23 && (okV (some true) none h22 h23 h23 h24 && (okV (some true) (Ye t32) h22 h23 h24 h25 && (okV (some true) none h22 h23 h25 h26 && (okV (some true) (Ye (get tT 1)) h22 h23 h26 h27 && true))))) <|
Yb (lenT t30) h28 fun t38 h29 =>
Yb (Yh P .gtr T.int (.tmp 38) (.const (.int .i64 24)) t38 (.int .i64 24)) h29 fun t39 h30 =>
mg t39 false (fun o11 => o11 t36 h30) h30 fun t41 h31 =>
mg t39 false (fun o12 => Yb (lenT t41) h31 o12) h31 fun t42 h32 =>
mg t39 false (fun o13 => Yb (Yh P .gtr T.int (.tmp 42) (.const (.int .i64 40)) t42 (.int .i64 40)) h32 o13) h32 fun t43 h33 =>
YG t39 (.bool true) t43 fun t44 =>
mc t44 (fun k14 => k14 .ret [(4, (.string (mk []))), (5, (.string (mk []))), (6, (.int .i64 5))] h33) (fun k14 =>
k14 .normal [(4, t30), (5, t36)] h33) (Ys (fun tT_1 h34 =>
K0 .ret [(4, (get tT_1 4)), (5, (get tT_1 5)), (6, (.int .i64 0))] h34) K0)) K0)
theorem s_rows_Row_eq (M : CombL) (C : Yc) (LP : Yx) (a0 a1 : Value) (H : AHeap) : Yw M Tryz.prog hints C LP F.rows_Row [a0, a1] H = VB M.b.g M.c M.s Tryz.prog C a0 a1 H (Yj Tryz.prog [.tmp 4, .tmp 5, .tmp 6]) := by kernel_rfl
noncomputable def UV (mg : GT) (mc : CT) (ms : ST) (P : Program) (C : Yc) (a0 : Value) (H : AHeap) (K0 : K) : Res :=
Yq (Xs T.api_Cell (.agg #[(.int .i64 0), (.int .u64 0), (.int .i64 0), (.string (mk [])), (.bool false)]) H) fun t2 h1 =>
Yq (YR P T.int T.uint64 a0 h1) fun t4 h2 =>
Yb (W9 #[(.int .i64 0), (.int .u64 0), (.int .i64 0), (.string (mk [])), (.bool false)] [(0, 1), (1, 1), (2, 1), (3, 1), (4, 1)] [(0, (.int .i64 1)), (1, t4)]) h2 fun t5 h3 =>
Yt (stN 5 h3 t2 t5) fun _ h4 =>
K0 .ret [(2, t2)] h4
theorem s_law_number_eq (M : CombL) (C : Yc) (LP : Yx) (a0 : Value) (H : AHeap) : Yw M Tryz.prog hints C LP F.law_number [a0] H = UV M.b.g M.c M.s Tryz.prog C a0 H (Yj Tryz.prog [.cell 2 T.api_Cell]) := by kernel_rfl
noncomputable def WE (mg : GT) (mc : CT) (ms : ST) (P : Program) (C : Yc) (a0 a1 a2 : Value) (H : AHeap) (K0 : K) : Res :=
Yb (Yh P .eql T.p_model_Model (.tmp 13) (.const (.pointer none)) a0 (.pointer none)) H fun t14 h1 =>
mc t14 (fun k1 => k1 .ret [(6, (.int .i64 0)), (7, (.bool false)), (8, (.int .i64 1))] h1) (fun k1 =>
k1 .normal [(0, a0), (1, a1), (2, a2)] h1) (Ys (fun tT h2 =>
Yg C F.model_check [(get tT 1), (get tT 2)] h2 fun t17 h3 =>
Yb (Yh P .neq T.api_Errno (.tmp 18) (.const (.int .i64 0)) t17 (.int .i64 0)) h3 fun t19 h4 =>
mc t19 (fun k2 => k2 .ret [(6, (.int .i64 0)), (7, (.bool false)), (8, t17)] h4) (fun k2 =>
k2 .normal [(0, (get tT 0)), (1, (get tT 1))] h4) (Ys (fun tT_1 h5 =>
UL P C (.func (.func F.model_Model_place) #[(get tT_1 0)] #[]) [(get tT_1 1)] h5 fun t26 h6 =>
Yb (Yp t26 0) h6 fun t27 h7 =>
Yb (Yp t26 1) h7 fun t28 h8 =>
K0 .ret [(6, t27), (7, t28), (8, (.int .i64 0))] h8) K0)) K0)
theorem s_model_Model_at_eq (M : CombL) (C : Yc) (LP : Yx) (a0 a1 a2 : Value) (H : AHeap) : Yw M Tryz.prog hints C LP F.model_Model_at [a0, a1, a2] H = WE M.b.g M.c M.s Tryz.prog C a0 a1 a2 H (Yj Tryz.prog [.tmp 6, .tmp 7, .tmp 8]) := by kernel_rfl
noncomputable def XR (mg : GT) (mc : CT) (ms : ST) (P : Program) (C : Yc) (a0 a1 a2 a3 : Value) (H : AHeap) (K0 : K) : Res :=
Yq (Xs T.api_Pair a3 H) fun t7 h1 =>
ms (fun k1 =>
mc a2 (fun k2 => Yb (Yl a0) h1 fun t23 h2 =>
Yb (fad 0 t23) h2 fun t24 h3 =>
Yb (ld1 h3 t24) h3 fun t25 h4 =>
Yb (ldN 2 h4 t7) h4 fun t27 h5 =>
Yb (ixS 2 t25 a1) h5 fun t28 h6 =>
Yt (stN 2 h6 t28 t27) fun _ h7 =>
YX true <|
k2 .normal [] h7) (fun k2 =>
Yb (Yl a0) h1 fun t31 h8 =>
Yb (fad 0 t31) h8 fun t32 h9 =>
Yb (ld1 h9 t32) h9 fun t33 h10 =>
Yb (lenS t33) h10 fun t34 h11 =>
Yb (Yh P .eql T.int (.tmp 34) (.const (.int .i64 20000)) t34 (.int .i64 20000)) h11 fun t35 h12 =>
mc t35 (fun k3 => k3 .ret [(8, (.int .i64 7))] h12) (fun k3 =>
Yb (Yl a0) h12 fun t11 h13 =>
Yb (fad 0 t11) h13 fun t12 h14 =>
Yb (ld1 h14 t12) h14 fun t13 h15 =>
Yb (ldN 2 h15 t7) h15 fun t15 h16 =>
Yq (V2 T.api_Pair [(.string (mk [])), (.string (mk []))] 1 [(0, t15)] h16) fun t16 h17 =>
Yg C F.slices_Insert_Pair [t13, a1, t16] h17 fun t17 h18 =>
Yb (Yl a0) h18 fun t18 h19 =>
Yb (fad 0 t18) h19 fun t19 h20 =>
Yt (st1 h20 t19 t17) fun _ h21 =>
YX (okV (some true) none h17 h18 h12 h12 && true) <|
k3 .normal [] h21) (Yn [] k2)) (YB [] 0 k1)) (Ys (fun tT h22 =>
K0 .ret [(8, (.int .i64 0))] h22) K0)
theorem s_model_Model_set_eq (M : CombL) (C : Yc) (LP : Yx) (a0 a1 a2 a3 : Value) (H : AHeap) : Yw M Tryz.prog hints C LP F.model_Model_set [a0, a1, a2, a3] H = XR M.b.g M.c M.s Tryz.prog C a0 a1 a2 a3 H (Yj Tryz.prog [.tmp 8]) := by kernel_rfl
noncomputable def XQ (mg : GT) (mc : CT) (ms : ST) (P : Program) (C : Yc) (a0 a1 : Value) (H : AHeap) (K0 : K) : Res :=
Yg C F.model_Model_at [a0, a1, (.slice none 0 0)] H fun t12 h1 =>
Yb (Yp t12 0) h1 fun t13 h2 =>
Yb (Yp t12 1) h2 fun t14 h3 =>
Yb (Yp t12 2) h3 fun t15 h4 =>
ms (fun k1 =>
Yb (Yh P .neq T.api_Errno (.tmp 17) (.const (.int .i64 0)) t15 (.int .i64 0)) h4 fun t18 h5 =>
mc t18 (fun k2 => k2 .ret [(4, (.string (mk []))), (5, t15)] h5) (fun k2 =>
Yb (xun P .not t14) h5 fun t22 h6 =>
mc t22 (fun k3 => k3 .ret [(4, (.string (mk []))), (5, (.int .i64 9))] h6) (fun k3 =>
k3 .normal [(0, a0), (6, t13)] h6) (Yn [0, 6] k2)) (YB [0, 6] 0 k1)) (Ys (fun tT h7 =>
Yb (Yl (get tT 0)) h7 fun t24 h8 =>
Yb (fad 0 t24) h8 fun t25 h9 =>
Yb (ld1 h9 t25) h9 fun t26 h10 =>
Yb (ixS 2 t26 (get tT 6)) h10 fun t28 h11 =>
Yb (fad 1 t28) h11 fun t29 h12 =>
Yb (ld1 h12 t29) h12 fun t30 h13 =>
K0 .ret [(4, t30), (5, (.int .i64 0))] h13) K0)
theorem s_model_Model_Get_eq (M : CombL) (C : Yc) (LP : Yx) (a0 a1 : Value) (H : AHeap) : Yw M Tryz.prog hints C LP F.model_Model_Get [a0, a1] H = XQ M.b.g M.c M.s Tryz.prog C a0 a1 H (Yj Tryz.prog [.tmp 4, .tmp 5]) := by kernel_rfl
noncomputable def Wu (mg : GT) (mc : CT) (ms : ST) (P : Program) (C : Yc) (a0 a1 : Value) (H : AHeap) (K0 : K) : Res :=
Yb (Yl a0) H fun t7 h1 =>
Yb (fad 0 t7) h1 fun t8 h2 =>
Yb (ld1 h2 t8) h2 fun t9 h3 =>
Yg C F.slices_BinarySearchFunc_string [t9, a1, (.func (.func F.model_Model_place_1) #[] #[])] h3 fun t11 h4 =>
Yb (Yp t11 0) h4 fun t12 h5 =>
Yb (Yp t11 1) h5 fun t13 h6 =>
K0 .ret [(4, t12), (5, t13)] h6
theorem Gl (M : CombL) (C : Yc) (LP : Yx) (a0 a1 : Value) (H : AHeap) : Yw M Tryz.prog hints C LP F.model_Model_place [a0, a1] H = Wu M.b.g M.c M.s Tryz.prog C a0 a1 H (Yj Tryz.prog [.tmp 4, .tmp 5]) := by kernel_rfl
noncomputable def Wg (mg : GT) (mc : CT) (ms : ST) (P : Program) (C : Yc) (a0 a1 a2 : Value) (H : AHeap) (K0 : K) : Res :=
Yb (lenS a0) H fun t12 h1 =>
Yb (slS T.api_Pair 2 a0 (some a1) (some a2) (some t12) h1) h1 fun t13 h2 =>
Yb (Yh P .eql T.int (.tmp 14) (.tmp 15) a1 a2) h2 fun t16 h3 =>
mc t16 (fun k1 => k1 .ret [(6, a0)] h3) (fun k1 =>
k1 .normal [(0, a0), (1, a1), (2, a2)] h3) (Ys (fun tT h4 =>
Yb (lenS (get tT 0)) h4 fun t19 h5 =>
Yb (slS T.api_Pair 2 (get tT 0) none (some (get tT 1)) none h5) h5 fun t22 h6 =>
Yb (slS T.api_Pair 2 (get tT 0) (some (get tT 2)) none none h6) h6 fun t25 h7 =>
Yq (app T.api_Pair 2 32 t22 (Wi 2 t25 h7) h7) fun t26 h8 =>
YX true <|
Yb (lenS t26) h8 fun t29 h9 =>
Yb (slS T.api_Pair 2 t26 (some t29) (some t19) none h9) h9 fun t31 h10 =>
Yq (xclear P [T.sl_api_Pair] t31 h10) fun _ h11 =>
K0 .ret [(6, t26)] h11) K0)
theorem ZW (M : CombL) (C : Yc) (LP : Yx) (a0 a1 a2 : Value) (H : AHeap) : Yw M Tryz.prog hints C LP F.slices_Delete_Pair [a0, a1, a2] H = Wg M.b.g M.c M.s Tryz.prog C a0 a1 a2 H (Yj Tryz.prog [.tmp 6]) := by kernel_rfl
noncomputable def VZ (mg : GT) (mc : CT) (ms : ST) (P : Program) (C : Yc) (L0 : Value → Value → AHeap → K → Res) (a0 a1 : Value) (H : AHeap) (K0 : K) : Res :=
Yq (Xs T.api_Table a0 H) fun t2 h1 =>
Yb (ldN 3 h1 t2) h1 fun t8 h2 =>
Yg C F.rows_Valid [t8] h2 fun t9 h3 =>
Yb (xun P .not t9) h3 fun t10 h4 =>
mg t10 false (fun o1 => o1 a1 h4) h4 fun t12 h5 =>
mg t10 false (fun o2 => Yb (lenS t12) h5 o2) h5 fun t13 h6 =>
mg t10 false (fun o3 => Yb (fad 1 t2) h6 o3) h6 fun t14 h7 =>
mg t10 false (fun o4 => Yb (ld1 h7 t14) h7 o4) h7 fun t15 h8 =>
mg t10 false (fun o5 => Yb (lenS t15) h8 o5) h8 fun t16 h9 =>
mg t10 false (fun o6 => Yb (Yh P .gtr T.int (.tmp 13) (.tmp 16) t13 t16) h9 o6) h9 fun t17 h10 =>
YG t10 (.bool true) t17 fun t18 =>
mg t18 false (fun o7 => o7 a1 h10) h10 fun t20 h11 =>
mg t18 false (fun o8 => Yb (fad 1 t2) h11 o8) h11 fun t21 h12 =>
mg t18 false (fun o9 => Yb (ld1 h12 t21) h12 o9) h12 fun t22 h13 =>
mg t18 false (fun o10 => o10 a1 h13) h13 fun t23 h14 =>
mg t18 false (fun o11 => Yb (lenS t23) h14 o11) h14 fun t24 h15 =>
mg t18 false (fun o12 => Yb (slS T.api_CellKind 1 t22 none (some t24) none h15) h15 o12) h15 fun t25 h16 =>
mg t18 false (fun o13 => Yg C F.rows_are [t20, t25] h16 o13) h16 fun t26 h17 =>
mg t18 false (fun o14 => Yb (xun P .not t26) h17 o14) h17 fun t27 h18 =>
YG t18 (.bool true) t27 fun t28 =>
mc t28 (fun k15 => k15 .ret [(4, (.string (mk []))), (5, (.string (mk []))), (6, (.int .i64 2))] h18) (fun k15 =>
k15 .normal [(1, a1), (2, t2)] h18) (Ys (fun tT h19 =>
Yb (fad 0 (get tT 2)) h19 fun t29 h20 =>
Yb (ld1 h20 t29) h20 fun t30 h21 =>
Yq (YR P T.int T.uint8 t30 h21) fun t31 h22 =>
Yq (V2 T.uint8 [(.int .u8 0)] 1 [(0, t31)] h22) fun t32 h23 =>
Yg C F.rows_puts [t32, (get tT 1)] h23 fun t34 h24 =>
Yb (lenT t34) h24 fun t36 h25 =>
Yb (Yh P .gtr T.int (.tmp 36) (.const (.int .i64 24)) t36 (.int .i64 24)) h25 fun t37 h26 =>
mc t37 (fun k16 => k16 .ret [(4, (.string (mk []))), (5, (.string (mk []))), (6, (.int .i64 5))] h26) (fun k16 =>
k16 .normal [(4, t34)] h26) (Ys (fun tT_1 h27 =>
Yq (YR P T.string T.sl_uint8 (get tT_1 4) h27) fun t39 h28 =>
ms (fun k17 =>
L0 (get tT_1 4) t39 h28 (YB [4, 7] 0 k17)) (Ys (fun tT_2 h29 =>
Yb (lenS (get tT_2 7)) h29 fun t58 h30 =>
Yb (Yh P .gtr T.int (.tmp 58) (.const (.int .i64 0)) t58 (.int .i64 0)) h30 fun t59 h31 =>
mc t59 (fun k18 => Yb (lenS (get tT_2 7)) h31 fun t62 h32 =>
Yb (Yh P .sub T.int (.tmp 62) (.const (.int .i64 1)) t62 (.int .i64 1)) h32 fun t63 h33 =>
Yb (ixS 1 (get tT_2 7) t63) h33 fun t64 h34 =>
Yb (ld1 h34 t64) h34 fun t65 h35 =>
Yb (Yh P .add T.uint8 (.tmp 65) (.const (.int .u8 1)) t65 (.int .u8 1)) h35 fun t66 h36 =>
Yb (ixS 1 (get tT_2 7) t63) h36 fun t67 h37 =>
Yt (st1 h37 t67 t66) fun _ h38 =>
k18 .normal [(4, (get tT_2 4)), (7, (get tT_2 7))] h38) (fun k18 =>
k18 .normal [(4, (get tT_2 4)), (7, (get tT_2 7))] h31) (Ys (fun tT_3 h39 =>
Yq (YR P T.sl_uint8 T.string (get tT_3 7) h39) fun t70 h40 =>
YX true <|
K0 .ret [(4, (get tT_3 4)), (5, t70), (6, (.int .i64 0))] h40) K0)) K0)) K0)) K0)
noncomputable def VV (mg : GT) (mc : CT) (ms : ST) (P : Program) (C : Yc) (L0 : Value → Value → AHeap → K → Res) (v4 v7 : Value) (H : AHeap) (k : K) : Res :=
Yb (lenS v7) H fun t41 h29 =>
Yb (Yh P .gtr T.int (.tmp 41) (.const (.int .i64 0)) t41 (.int .i64 0)) h29 fun t42 h30 =>
mg t42 true (fun o18 => o18 v7 h30) h30 fun t44 h31 =>
mg t42 true (fun o19 => o19 v7 h31) h31 fun t45 h32 =>
mg t42 true (fun o20 => Yb (lenS t45) h32 o20) h32 fun t46 h33 =>
mg t42 true (fun o21 => Yb (Yh P .sub T.int (.tmp 46) (.const (.int .i64 1)) t46 (.int .i64 1)) h33 o21) h33 fun t47 h34 =>
mg t42 true (fun o22 => Yb (ixS 1 t44 t47) h34 o22) h34 fun t48 h35 =>
mg t42 true (fun o23 => Yb (ld1 h35 t48) h35 o23) h35 fun t49 h36 =>
mg t42 true (fun o24 => Yb (Yh P .eql T.uint8 (.tmp 49) (.const (.int .u8 255)) t49 (.int .u8 255)) h36 o24) h36 fun t50 h37 =>
YG t42 t50 (.bool false) fun t51 =>
mc t51 (fun k25 => k25 .normal [(4, v4), (7, v7)] h37) (fun k25 =>
k25 (.exit 0) [(51, t51), (50, t50), (49, t49), (48, t48), (47, t47), (46, t46), (45, t45), (44, t44), (43, t42), (42, t42), (41, t41), (40, v7), (4, v4), (7, v7)] h37) (Ys (fun tT h38 =>
ms (fun k26 =>
Yb (lenS (get tT 7)) h38 fun t54 h39 =>
Yb (Yh P .sub T.int (.tmp 54) (.const (.int .i64 1)) t54 (.int .i64 1)) h39 fun t55 h40 =>
Yb (slS T.uint8 1 (get tT 7) none (some t55) none h40) h40 fun t56 h41 =>
k26 .normal [(4, (get tT 4)), (7, t56)] h41) (Yn [4, 7] k)) (Yn [4, 7] k))
theorem s_rows_Span_eq (M : CombL) (C : Yc) (LP : Yx) (a0 a1 : Value) (H : AHeap) : Yw M Tryz.prog hints C LP F.rows_Span [a0, a1] H = VZ M.b.g M.c M.s Tryz.prog C (fun v4 v7 H k => Yv M Tryz.prog hints C LP F.rows_Span 0 [(4, v4), (7, v7)] H k) a0 a1 H (Yj Tryz.prog [.tmp 4, .tmp 5, .tmp 6]) := by kernel_rfl
theorem s_rows_Span_b0_eq (M : CombL) (C : Yc) (LP : Yx) (v4 v7 : Value) (H : AHeap) (k : K) : W3 M Tryz.prog hints C LP F.rows_Span 0 [(4, v4), (7, v7)] H (Yn [4, 7] k) = VV M.b.g M.c M.s Tryz.prog C (fun v4 v7 H k => Yv M Tryz.prog hints C LP F.rows_Span 0 [(4, v4), (7, v7)] H k) v4 v7 H k := by kernel_rfl
noncomputable def U1 (mg : GT) (mc : CT) (ms : ST) (P : Program) (C : Yc) (H : AHeap) (K0 : K) : Res :=
Yq (Xs T.api_Table (.agg #[(.int .i64 0), (.slice none 0 0), (.slice none 0 0)]) H) fun t0 h1 =>
Yq (V2 T.api_CellKind [(.int .i64 0)] 3 [(0, (.int .i64 1)), (1, (.int .i64 1)), (2, (.int .i64 1))] h1) fun t5 h2 =>
Yq (V2 T.api_CellKind [(.int .i64 0)] 4 [(0, (.int .i64 1)), (1, (.int .i64 3)), (2, (.int .i64 1)), (3, (.int .i64 1))] h2) fun t9 h3 =>
Yb (W9 #[(.int .i64 0), (.slice none 0 0), (.slice none 0 0)] [(0, 1), (1, 1), (2, 1)] [(0, (.int .i64 1)), (1, t5), (2, t9)]) h3 fun t10 h4 =>
Yt (stN 3 h4 t0 t10) fun _ h5 =>
K0 .ret [(0, t0)] h5
theorem s_jobs_table_eq (M : CombL) (C : Yc) (LP : Yx) (H : AHeap) : Yw M Tryz.prog hints C LP F.jobs_table [] H = U1 M.b.g M.c M.s Tryz.prog C H (Yj Tryz.prog [.cell 0 T.api_Table]) := by kernel_rfl
noncomputable def XY (mg : GT) (mc : CT) (ms : ST) (P : Program) (C : Yc) (L0 : Value → Value → Value → Value → Value → Value → Value → AHeap → K → Res) (L1 : Value → Value → Value → Value → Value → Value → Value → Value → Value → Value → Value → AHeap → K → Res) (a0 a1 a2 : Value) (H : AHeap) (K0 : K) : Res :=
Yq (Xs T.api_Table a0 H) fun t3 h1 =>
Yb (ldN 3 h1 t3) h1 fun t19 h2 =>
Yg C F.rows_Valid [t19] h2 fun t20 h3 =>
Yb (xun P .not t20) h3 fun t21 h4 =>
mc t21 (fun k1 => k1 .ret [(6, (.slice none 0 0)), (7, (.int .i64 2))] h4) (fun k1 =>
k1 .normal [(1, a1), (2, a2), (3, t3)] h4) (Ys (fun tT h5 =>
Yb (Yh P .eql T.string (.tmp 22) (.const (.string (mk []))) (get tT 1) (.string (mk []))) h5 fun t23 h6 =>
mc t23 (fun k2 => k2 .ret [(6, (.slice none 0 0)), (7, (.int .i64 12))] h6) (fun k2 =>
k2 .normal [(1, (get tT 1)), (2, (get tT 2)), (3, (get tT 3))] h6) (Ys (fun tT_1 h7 =>
Yb (slT (get tT_1 1) (some (.int .i64 1)) none) h7 fun t25 h8 =>
Yq (V2 T.string [(.string (mk []))] 2 [(0, t25), (1, (get tT_1 2))] h8) fun t27 h9 =>
Yb (lenS t27) h9 fun t28 h10 =>
ms (fun k3 =>
L0 (get tT_1 1) (get tT_1 2) (get tT_1 3) (.slice none 0 0) t27 t28 (.int .i64 0) h10 (YB [1, 2, 3, 8] 0 k3)) (Ys (fun tT_2 h11 =>
Yb (ldN 3 h11 (get tT_2 3)) h11 fun t64 h12 =>
Yg C F.rows_Row [t64, (get tT_2 8)] h12 fun t66 h13 =>
Yb (Yp t66 0) h13 fun t67 h14 =>
Yb (Yp t66 1) h14 fun t68 h15 =>
Yb (Yp t66 2) h15 fun t69 h16 =>
Yb (Yh P .neq T.api_Errno (.tmp 70) (.const (.int .i64 0)) t69 (.int .i64 0)) h16 fun t71 h17 =>
mg t71 false (fun o4 => o4 t67 h17) h17 fun t73 h18 =>
mg t71 false (fun o5 => o5 (get tT_2 1) h18) h18 fun t74 h19 =>
mg t71 false (fun o6 => Yb (Yh P .neq T.string (.tmp 73) (.tmp 74) t73 t74) h19 o6) h19 fun t75 h20 =>
YG t71 (.bool true) t75 fun t76 =>
mg t76 false (fun o7 => o7 t68 h20) h20 fun t78 h21 =>
mg t76 false (fun o8 => o8 (get tT_2 2) h21) h21 fun t79 h22 =>
mg t76 false (fun o9 => Yb (Yh P .neq T.string (.tmp 78) (.tmp 79) t78 t79) h22 o9) h22 fun t80 h23 =>
YG t76 (.bool true) t80 fun t81 =>
mc t81 (fun k10 => k10 .ret [(6, (.slice none 0 0)), (7, (.int .i64 12))] h23) (fun k10 =>
k10 .normal [(8, (get tT_2 8))] h23) (Ys (fun tT_3 h24 =>
K0 .ret [(6, (get tT_3 8)), (7, (.int .i64 0))] h24) K0)) K0)) K0)) K0)
noncomputable def Wh (mg : GT) (mc : CT) (ms : ST) (P : Program) (C : Yc) (L0 : Value → Value → Value → Value → Value → Value → Value → AHeap → K → Res) (L1 : Value → Value → Value → Value → Value → Value → Value → Value → Value → Value → Value → AHeap → K → Res) (v1 v2 v3 v8 v27 v28 v29 : Value) (H : AHeap) (k : K) : Res :=
Yb (Yh P .lss T.int (.tmp 29) (.tmp 28) v29 v28) H fun t30 h11 =>
mc t30 (fun k4 => k4 .normal [(1, v1), (2, v2), (3, v3), (8, v8), (27, v27), (28, v28), (29, v29)] h11) (fun k4 =>
k4 (.exit 0) [(30, t30), (1, v1), (2, v2), (3, v3), (8, v8), (27, v27), (28, v28), (29, v29)] h11) (Ys (fun tT h12 =>
ms (fun k5 =>
Yb (ixS 1 (get tT 27) (get tT 29)) h12 fun t32 h13 =>
Yb (ld1 h13 t32) h13 fun t33 h14 =>
Yb (fad 1 (get tT 3)) h14 fun t34 h15 =>
Yb (ld1 h15 t34) h15 fun t35 h16 =>
Yb (fad 2 (get tT 3)) h16 fun t36 h17 =>
Yb (ld1 h17 t36) h17 fun t37 h18 =>
Yq (V2 T.sl_api_CellKind [(.slice none 0 0)] 2 [(0, t35), (1, t37)] h18) fun t38 h19 =>
Yb (ixS 1 t38 (get tT 29)) h19 fun t40 h20 =>
Yb (ld1 h20 t40) h20 fun t41 h21 =>
Yb (lenS t41) h21 fun t42 h22 =>
ms (fun k6 =>
L1 (get tT 1) (get tT 2) (get tT 3) (get tT 8) t33 (get tT 27) (get tT 28) (get tT 29) t41 t42 (.int .i64 0) h22 (YB [1, 2, 3, 8, 27, 28, 29] 2 k6)) (YB [1, 2, 3, 8, 27, 28, 29] 1 k5)) (Ys (fun tT_1 h23 =>
Yb (Yh P .add T.int (.tmp 29) (.const (.int .i64 1)) (get tT_1 29) (.int .i64 1)) h23 fun t62 h24 =>
k .normal [(1, (get tT_1 1)), (2, (get tT_1 2)), (3, (get tT_1 3)), (8, (get tT_1 8)), (27, (get tT_1 27)), (28, (get tT_1 28)), (29, t62)] h24) (Yn [1, 2, 3, 8, 27, 28, 29] k))) (Yn [1, 2, 3, 8, 27, 28, 29] k))
noncomputable def Ve (mg : GT) (mc : CT) (ms : ST) (P : Program) (C : Yc) (L0 : Value → Value → Value → Value → Value → Value → Value → AHeap → K → Res) (L1 : Value → Value → Value → Value → Value → Value → Value → Value → Value → Value → Value → AHeap → K → Res) (v1 v2 v3 v8 v10 v27 v28 v29 v41 v42 v43 : Value) (H : AHeap) (k : K) : Res :=
Yb (Yh P .lss T.int (.tmp 43) (.tmp 42) v43 v42) H fun t44 h23 =>
mc t44 (fun k7 => k7 .normal [(1, v1), (2, v2), (3, v3), (8, v8), (10, v10), (27, v27), (28, v28), (29, v29), (41, v41), (42, v42), (43, v43)] h23) (fun k7 =>
k7 (.exit 2) [(44, t44), (1, v1), (2, v2), (3, v3), (8, v8), (10, v10), (27, v27), (28, v28), (29, v29), (41, v41), (42, v42), (43, v43)] h23) (Ys (fun tT h24 =>
ms (fun k8 =>
Yb (ixS 1 (get tT 41) (get tT 43)) h24 fun t45 h25 =>
Yb (ld1 h25 t45) h25 fun t46 h26 =>
Yg C F.rows_take [(get tT 10), t46] h26 fun t50 h27 =>
Yb (Yp t50 0) h27 fun t51 h28 =>
Yb (Yp t50 1) h28 fun t52 h29 =>
Yb (Yp t50 2) h29 fun t53 h30 =>
Yq (Xs T.api_Cell (.agg #[(.int .i64 0), (.int .u64 0), (.int .i64 0), (.string (mk [])), (.bool false)]) h30) fun t13 h31 =>
Yt (stN 5 h31 t13 t51) fun _ h32 =>
Yb (xun P .not t53) h32 fun t55 h33 =>
mc t55 (fun k9 => k9 .ret [(6, (.slice none 0 0)), (7, (.int .i64 12))] h33) (fun k9 =>
k9 .normal [(1, (get tT 1)), (2, (get tT 2)), (3, (get tT 3)), (8, (get tT 8)), (13, t13), (14, t52), (27, (get tT 27)), (28, (get tT 28)), (29, (get tT 29)), (41, (get tT 41)), (42, (get tT 42)), (43, (get tT 43))] h33) (Ys (fun tT_1 h34 =>
Yb (ldN 5 h34 (get tT_1 13)) h34 fun t57 h35 =>
Yq (V2 T.api_Cell [(.int .i64 0), (.int .u64 0), (.int .i64 0), (.string (mk [])), (.bool false)] 1 [(0, t57)] h35) fun t58 h36 =>
Yq (app T.api_Cell 5 48 (get tT_1 8) (Wi 5 t58 h36) h36) fun t59 h37 =>
k8 .normal [(1, (get tT_1 1)), (2, (get tT_1 2)), (3, (get tT_1 3)), (8, t59), (10, (get tT_1 14)), (27, (get tT_1 27)), (28, (get tT_1 28)), (29, (get tT_1 29)), (41, (get tT_1 41)), (42, (get tT_1 42)), (43, (get tT_1 43))] h37) (YB [1, 2, 3, 8, 10, 27, 28, 29, 41, 42, 43] 3 k8))) (Ys (fun tT_2 h38 =>
Yb (Yh P .add T.int (.tmp 43) (.const (.int .i64 1)) (get tT_2 43) (.int .i64 1)) h38 fun t61 h39 =>
k .normal [(1, (get tT_2 1)), (2, (get tT_2 2)), (3, (get tT_2 3)), (8, (get tT_2 8)), (10, (get tT_2 10)), (27, (get tT_2 27)), (28, (get tT_2 28)), (29, (get tT_2 29)), (41, (get tT_2 41)), (42, (get tT_2 42)), (43, t61)] h39) (Yn [1, 2, 3, 8, 10, 27, 28, 29, 41, 42, 43] k))) (Yn [1, 2, 3, 8, 10, 27, 28, 29, 41, 42, 43] k))
theorem s_rows_Read_eq (M : CombL) (C : Yc) (LP : Yx) (a0 a1 a2 : Value) (H : AHeap) : Yw M Tryz.prog hints C LP F.rows_Read [a0, a1, a2] H = XY M.b.g M.c M.s Tryz.prog C (fun v1 v2 v3 v8 v27 v28 v29 H k => Yv M Tryz.prog hints C LP F.rows_Read 0 [(1, v1), (2, v2), (3, v3), (8, v8), (27, v27), (28, v28), (29, v29)] H k) (fun v1 v2 v3 v8 v10 v27 v28 v29 v41 v42 v43 H k => Yv M Tryz.prog hints C LP F.rows_Read 1 [(1, v1), (2, v2), (3, v3), (8, v8), (10, v10), (27, v27), (28, v28), (29, v29), (41, v41), (42, v42), (43, v43)] H k) a0 a1 a2 H (Yj Tryz.prog [.tmp 6, .tmp 7]) := by kernel_rfl
theorem s_rows_Read_b0_eq (M : CombL) (C : Yc) (LP : Yx) (v1 v2 v3 v8 v27 v28 v29 : Value) (H : AHeap) (k : K) : W3 M Tryz.prog hints C LP F.rows_Read 0 [(1, v1), (2, v2), (3, v3), (8, v8), (27, v27), (28, v28), (29, v29)] H (Yn [1, 2, 3, 8, 27, 28, 29] k) = Wh M.b.g M.c M.s Tryz.prog C (fun v1 v2 v3 v8 v27 v28 v29 H k => Yv M Tryz.prog hints C LP F.rows_Read 0 [(1, v1), (2, v2), (3, v3), (8, v8), (27, v27), (28, v28), (29, v29)] H k) (fun v1 v2 v3 v8 v10 v27 v28 v29 v41 v42 v43 H k => Yv M Tryz.prog hints C LP F.rows_Read 1 [(1, v1), (2, v2), (3, v3), (8, v8), (10, v10), (27, v27), (28, v28), (29, v29), (41, v41), (42, v42), (43, v43)] H k) v1 v2 v3 v8 v27 v28 v29 H k := by kernel_rfl
theorem s_rows_Read_b1_eq (M : CombL) (C : Yc) (LP : Yx) (v1 v2 v3 v8 v10 v27 v28 v29 v41 v42 v43 : Value) (H : AHeap) (k : K) : W3 M Tryz.prog hints C LP F.rows_Read 1 [(1, v1), (2, v2), (3, v3), (8, v8), (10, v10), (27, v27), (28, v28), (29, v29), (41, v41), (42, v42), (43, v43)] H (Yn [1, 2, 3, 8, 10, 27, 28, 29, 41, 42, 43] k) = Ve M.b.g M.c M.s Tryz.prog C (fun v1 v2 v3 v8 v27 v28 v29 H k => Yv M Tryz.prog hints C LP F.rows_Read 0 [(1, v1), (2, v2), (3, v3), (8, v8), (27, v27), (28, v28), (29, v29)] H k) (fun v1 v2 v3 v8 v10 v27 v28 v29 v41 v42 v43 H k => Yv M Tryz.prog hints C LP F.rows_Read 1 [(1, v1), (2, v2), (3, v3), (8, v8), (10, v10), (27, v27), (28, v28), (29, v29), (41, v41), (42, v42), (43, v43)] H k) v1 v2 v3 v8 v10 v27 v28 v29 v41 v42 v43 H k := by kernel_rfl
noncomputable def Qo (mg : GT) (mc : CT) (ms : ST) (P : Program) (C : Yc) (a0 : Value) (H : AHeap) (K0 : K) : Res :=
Yq (Xs T.api_Job (.agg #[(.int .i64 0), (.int .i64 0), (.string (mk [])), (.int .i64 0), (.int .i64 0), (.int .i64 0), (.int .i64 0)]) H) fun t2 h1 =>
Yb (ixS 5 a0 (.int .i64 2)) h1 fun t5 h2 =>
Yb (fad 1 t5) h2 fun t6 h3 =>
Yb (ld1 h3 t6) h3 fun t7 h4 =>
Yq (YR P T.uint64 T.int t7 h4) fun t8 h5 =>
Yb (ixS 5 a0 (.int .i64 3)) h5 fun t10 h6 =>
Yb (fad 1 t10) h6 fun t11 h7 =>
Yb (ld1 h7 t11) h7 fun t12 h8 =>
Yq (YR P T.uint64 T.int t12 h8) fun t13 h9 =>
Yb (ixS 5 a0 (.int .i64 4)) h9 fun t15 h10 =>
Yb (fad 3 t15) h10 fun t16 h11 =>
Yb (ld1 h11 t16) h11 fun t17 h12 =>
Yb (ixS 5 a0 (.int .i64 0)) h12 fun t19 h13 =>
Yb (fad 1 t19) h13 fun t20 h14 =>
Yb (ld1 h14 t20) h14 fun t21 h15 =>
Yq (YR P T.uint64 T.api_JobState t21 h15) fun t22 h16 =>
Yb (ixS 5 a0 (.int .i64 5)) h16 fun t24 h17 =>
Yb (fad 1 t24) h17 fun t25 h18 =>
Yb (ld1 h18 t25) h18 fun t26 h19 =>
Yq (YR P T.uint64 T.int t26 h19) fun t27 h20 =>
Yb (ixS 5 a0 (.int .i64 6)) h20 fun t29 h21 =>
Yb (fad 1 t29) h21 fun t30 h22 =>
Yb (ld1 h22 t30) h22 fun t31 h23 =>
Yq (YR P T.uint64 T.int t31 h23) fun t32 h24 =>
Yb (W9 #[(.int .i64 0), (.int .i64 0), (.string (mk [])), (.int .i64 0), (.int .i64 0), (.int .i64 0), (.int .i64 0)] [(0, 1), (1, 1), (2, 1), (3, 1), (4, 1), (5, 1), (6, 1)] [(0, t8), (1, t13), (2, t17), (3, t22), (4, t27), (5, t32)]) h24 fun t33 h25 =>
Yq (Xs T.api_Job (.agg #[(.int .i64 0), (.int .i64 0), (.string (mk [])), (.int .i64 0), (.int .i64 0), (.int .i64 0), (.int .i64 0)]) h25) fun t3 h26 =>
Yt (stN 7 h26 t3 t33) fun _ h27 =>
YX true <|
Yb (fad 3 t3) h27 fun t34 h28 =>
Yb (ld1 h28 t34) h28 fun t35 h29 =>
Yb (Yh P .eql T.api_JobState (.tmp 35) (.const (.int .i64 2)) t35 (.int .i64 2)) h29 fun t36 h30 =>
mc t36 (fun k1 => Yb (ixS 5 a0 (.int .i64 1)) h30 fun t38 h31 =>
Yb (fad 1 t38) h31 fun t39 h32 =>
Yb (ld1 h32 t39) h32 fun t40 h33 =>
Yq (YR P T.uint64 T.int t40 h33) fun t41 h34 =>
Yb (fad 6 t3) h34 fun t42 h35 =>
Yt (st1 h35 t42 t41) fun _ h36 =>
k1 .normal [(2, t2), (3, t3)] h36) (fun k1 =>
k1 .normal [(2, t2), (3, t3)] h30) (Ys (fun tT h37 =>
Yb (ldN 7 h37 (get tT 3)) h37 fun t43 h38 =>
Yt (stN 7 h38 (get tT 2) t43) fun _ h39 =>
K0 .ret [(2, (get tT 2))] h39) K0)
theorem s_jobs_job_eq (M : CombL) (C : Yc) (LP : Yx) (a0 : Value) (H : AHeap) : Yw M Tryz.prog hints C LP F.jobs_job [a0] H = Qo M.b.g M.c M.s Tryz.prog C a0 H (Yj Tryz.prog [.cell 2 T.api_Job]) := by kernel_rfl
noncomputable def Uz (mg : GT) (mc : CT) (ms : ST) (P : Program) (C : Yc) (a0 : Value) (H : AHeap) (K0 : K) : Res :=
Yq (Xs T.api_Job a0 H) fun t1 h1 =>
Yb (fad 3 t1) h1 fun t4 h2 =>
Yb (ld1 h2 t4) h2 fun t5 h3 =>
ms (fun k1 =>
Yb (Yh P .eql T.api_JobState (.tmp 5) (.const (.int .i64 1)) t5 (.int .i64 1)) h3 fun t7 h4 =>
mc t7 (fun k2 => Yb (fad 1 t1) h4 fun t8 h5 =>
Yb (ld1 h5 t8) h5 fun t9 h6 =>
Yb (Yh P .sub T.int (.const (.int .i64 9)) (.tmp 9) (.int .i64 9) t9) h6 fun t10 h7 =>
k2 .normal [(1, t1), (3, t10)] h7) (fun k2 =>
Yb (Yh P .eql T.api_JobState (.tmp 5) (.const (.int .i64 2)) t5 (.int .i64 2)) h4 fun t12 h8 =>
mc t12 (fun k3 => Yb (fad 6 t1) h8 fun t13 h9 =>
Yb (ld1 h9 t13) h9 fun t14 h10 =>
k3 .normal [(1, t1), (3, t14)] h10) (fun k3 =>
k3 .normal [(1, t1), (3, (.int .i64 0))] h8) (Yn [1, 3] k2)) (YB [1, 3] 0 k1)) (Ys (fun tT h11 =>
Yb (fad 3 (get tT 1)) h11 fun t15 h12 =>
Yb (ld1 h12 t15) h12 fun t16 h13 =>
Yg C F.jobs_number [t16] h13 fun t17 h14 =>
Yg C F.jobs_number [(get tT 3)] h14 fun t19 h15 =>
Yb (fad 0 (get tT 1)) h15 fun t20 h16 =>
Yb (ld1 h16 t20) h16 fun t21 h17 =>
Yg C F.jobs_number [t21] h17 fun t22 h18 =>
Yb (fad 1 (get tT 1)) h18 fun t23 h19 =>
Yb (ld1 h19 t23) h19 fun t24 h20 =>
Yg C F.jobs_number [t24] h20 fun t25 h21 =>
Yb (fad 2 (get tT 1)) h21 fun t26 h22 =>
Yb (ld1 h22 t26) h22 fun t27 h23 =>
Yb (W9 #[(.int .i64 0), (.int .u64 0), (.int .i64 0), (.string (mk [])), (.bool false)] [(0, 1), (1, 1), (2, 1), (3, 1), (4, 1)] [(0, (.int .i64 3)), (3, t27)]) h23 fun t28 h24 =>
Yb (fad 4 (get tT 1)) h24 fun t29 h25 =>
Yb (ld1 h25 t29) h25 fun t30 h26 =>
Yg C F.jobs_number [t30] h26 fun t31 h27 =>
Yb (fad 5 (get tT 1)) h27 fun t32 h28 =>
Yb (ld1 h28 t32) h28 fun t33 h29 =>
Yg C F.jobs_number [t33] h29 fun t34 h30 =>
Yq (V2 T.api_Cell [(.int .i64 0), (.int .u64 0), (.int .i64 0), (.string (mk [])), (.bool false)] 7 [(0, t17), (1, t19), (2, t22), (3, t25), (4, t28), (5, t31), (6, t34)] h30) fun t35 h31 =>
YX (okV (some true) none h13 h14 h14 h14 && (okV (some true) none h13 h14 h15 h16 && (okV (some true) (Ye t20) h13 h14 h16 h17 && (okV (some true) none h13 h14 h18 h19 && (okV (some true) (Ye t23) h13 h14 h19 h20 && (okV (some true) none h13 h14 h21 h22 && (okV (some true) (Ye t26) h13 h14 h22 h23 && (okV (some true) none h13 h14 h23 h24 && (okV (some true) none h13 h14 h24 h25 && (okV (some true) (Ye t29) h13 h14 h25 h26 && (okV (some true) none h13 h14 h27 h28 && (okV (some true) (Ye t32) h13 h14 h28 h29 && (okV (some true) none h14 h15 h15 h16 && (okV (some true) (Ye t20) h14 h15 h16 h17 && (okV (some true) none h14 h15 h18 h19 && (okV (some true) (Ye t23) h14 h15 h19 h20 && (okV (some true) none h14 h15 h21 h22 && (okV (some true) (Ye t26) h14 h15 h22 h23 && (okV (some true) none h14 h15 h23 h24 && (okV (some true) none h14 h15 h24 h25 && (okV (some true) (Ye t29) h14 h15 h25 h26 && (okV (some true) none h14 h15 h27 h28 && (okV (some true) (Ye t32) h14 h15 h28 h29 && (okV (some true) none h17 h18 h18 h19 && (okV (some true) (Ye t23) h17 h18 h19 h20 && (okV (some true) none h17 h18 h21 h22 && (okV (some true) (Ye t26) h17 h18 h22 h23 && (okV (some true) none h17 h18 h23 h24 && (okV (some true) none h17 h18 h24 h25 && (okV (some true) (Ye t29) h17 h18 h25 h26 && (okV (some true) none h17 h18 h27 h28 && (okV (some true) (Ye t32) h17 h18 h28 h29 && (okV (some true) none h20 h21 h21 h22 && (okV (some true) (Ye t26) h20 h21 h22 h23 && (okV (some true) none h20 h21 h23 h24 && (okV (some true) none h20 h21 h24 h25 && (okV (some true) (Ye t29) h20 h21 h25 h26 && (okV (some true) none h20 h21 h27 h28 && (okV (some true) (Ye t32) h20 h21 h28 h29 && (okV (some true) none h26 h27 h21 h22 && (okV (some true) (Ye t26) h26 h27 h22 h23 && (okV (some true) none h26 h27 h23 h24 && (okV (some true) none h26 h27 h27 h28 && (okV (some true) (Ye t32) h26 h27 h28 h29 && (okV (some true) none h29 h30 h21 h22 && (okV (some true) (Ye t26) h29 h30 h22 h23 && (okV (some true) none h29 h30 h23 h24 && true))))))))))))))))))))))))))))))))))))))))))))))) <|
K0 .ret [(2, t35)] h31) K0)
theorem s_jobs_row_eq (M : CombL) (C : Yc) (LP : Yx) (a0 : Value) (H : AHeap) : Yw M Tryz.prog hints C LP F.jobs_row [a0] H = Uz M.b.g M.c M.s Tryz.prog C a0 H (Yj Tryz.prog [.tmp 2]) := by kernel_rfl
noncomputable def Xn (mg : GT) (mc : CT) (ms : ST) (P : Program) (C : Yc) (a0 : Value) (H : AHeap) (K0 : K) : Res :=
Yb (Yh P .eql T.sl_api_Pair (.tmp 3) (.const (.slice none 0 0)) a0 (.slice none 0 0)) H fun t4 h1 =>
mc t4 (fun k1 => k1 .ret [(2, (.slice none 0 0))] h1) (fun k1 =>
k1 .normal [(0, a0)] h1) (Ys (fun tT h2 =>
Yq (V2 T.api_Pair [(.string (mk [])), (.string (mk []))] 0 [] h2) fun t5 h3 =>
Yq (app T.api_Pair 2 32 t5 (Wi 2 (get tT 0) h3) h3) fun t7 h4 =>
K0 .ret [(2, t7)] h4) K0)
theorem Gw (M : CombL) (C : Yc) (LP : Yx) (a0 : Value) (H : AHeap) : Yw M Tryz.prog hints C LP F.slices_Clone_Pair [a0] H = Xn M.b.g M.c M.s Tryz.prog C a0 H (Yj Tryz.prog [.tmp 2]) := by kernel_rfl
noncomputable def Wa (mg : GT) (mc : CT) (ms : ST) (P : Program) (C : Yc) (a0 : Value) (H : AHeap) (K0 : K) : Res :=
Yq (Xs T.api_Table a0 H) fun t1 h1 =>
Yb (fad 0 t1) h1 fun t3 h2 =>
Yb (ld1 h2 t3) h2 fun t4 h3 =>
Yb (Yh P .geq T.int (.tmp 4) (.const (.int .i64 1)) t4 (.int .i64 1)) h3 fun t5 h4 =>
mg t5 true (fun o1 => Yb (fad 0 t1) h4 o1) h4 fun t7 h5 =>
mg t5 true (fun o2 => Yb (ld1 h5 t7) h5 o2) h5 fun t8 h6 =>
mg t5 true (fun o3 => Yb (Yh P .leq T.int (.tmp 8) (.const (.int .i64 255)) t8 (.int .i64 255)) h6 o3) h6 fun t9 h7 =>
YG t5 t9 (.bool false) fun t10 =>
mg t10 true (fun o4 => Yb (fad 1 t1) h7 o4) h7 fun t12 h8 =>
mg t10 true (fun o5 => Yb (ld1 h8 t12) h8 o5) h8 fun t13 h9 =>
mg t10 true (fun o6 => Yb (lenS t13) h9 o6) h9 fun t14 h10 =>
mg t10 true (fun o7 => Yb (Yh P .geq T.int (.tmp 14) (.const (.int .i64 1)) t14 (.int .i64 1)) h10 o7) h10 fun t15 h11 =>
YG t10 t15 (.bool false) fun t16 =>
mg t16 true (fun o8 => Yb (fad 1 t1) h11 o8) h11 fun t18 h12 =>
mg t16 true (fun o9 => Yb (ld1 h12 t18) h12 o9) h12 fun t19 h13 =>
mg t16 true (fun o10 => Yb (lenS t19) h13 o10) h13 fun t20 h14 =>
mg t16 true (fun o11 => Yb (Yh P .leq T.int (.tmp 20) (.const (.int .i64 8)) t20 (.int .i64 8)) h14 o11) h14 fun t21 h15 =>
YG t16 t21 (.bool false) fun t22 =>
mg t22 true (fun o12 => Yb (fad 2 t1) h15 o12) h15 fun t24 h16 =>
mg t22 true (fun o13 => Yb (ld1 h16 t24) h16 o13) h16 fun t25 h17 =>
mg t22 true (fun o14 => Yb (lenS t25) h17 o14) h17 fun t26 h18 =>
mg t22 true (fun o15 => Yb (Yh P .leq T.int (.tmp 26) (.const (.int .i64 8)) t26 (.int .i64 8)) h18 o15) h18 fun t27 h19 =>
YG t22 t27 (.bool false) fun t28 =>
mg t28 true (fun o16 => Yb (fad 1 t1) h19 o16) h19 fun t30 h20 =>
mg t28 true (fun o17 => Yb (ld1 h20 t30) h20 o17) h20 fun t31 h21 =>
mg t28 true (fun o18 => Yb (fad 2 t1) h21 o18) h21 fun t32 h22 =>
mg t28 true (fun o19 => Yb (ld1 h22 t32) h22 o19) h22 fun t33 h23 =>
mg t28 true (fun o20 => Yq (V2 T.sl_api_CellKind [(.slice none 0 0)] 2 [(0, t31), (1, t33)] h23) o20) h23 fun t34 h24 =>
mg t28 true (fun o21 => Yg C F.slices_Concat_CellKind [t34] h24 o21) h24 fun t35 h25 =>
mg t28 true (fun o22 => Yg C F.slices_ContainsFunc_CellKind [t35, (.func (.func F.rows_Valid_1) #[] #[])] h25 o22) h25 fun t36 h26 =>
mg t28 true (fun o23 => Yb (xun P .not t36) h26 o23) h26 fun t37 h27 =>
YG t28 t37 (.bool false) fun t38 =>
K0 .ret [(2, t38)] h27
theorem s_rows_Valid_eq (M : CombL) (C : Yc) (LP : Yx) (a0 : Value) (H : AHeap) : Yw M Tryz.prog hints C LP F.rows_Valid [a0] H = Wa M.b.g M.c M.s Tryz.prog C a0 H (Yj Tryz.prog [.tmp 2]) := by kernel_rfl
noncomputable def UA (mg : GT) (mc : CT) (ms : ST) (P : Program) (C : Yc) (L0 : Value → Value → Value → Value → AHeap → K → Res) (a0 a1 : Value) (H : AHeap) (K0 : K) : Res :=
Yb (lenS a0) H fun t8 h1 =>
Yb (lenS a1) h1 fun t10 h2 =>
Yb (Yh P .neq T.int (.tmp 8) (.tmp 10) t8 t10) h2 fun t11 h3 =>
mc t11 (fun k1 => k1 .ret [(4, (.bool false))] h3) (fun k1 =>
k1 .normal [(0, a0), (1, a1)] h3) (Ys (fun tT h4 =>
Yb (lenS (get tT 0)) h4 fun t13 h5 =>
ms (fun k2 =>
L0 (get tT 1) (get tT 0) t13 (.int .i64 0) h5 (YB [] 0 k2)) (Ys (fun tT_1 h6 =>
K0 .ret [(4, (.bool true))] h6) K0)) K0)
noncomputable def VG (mg : GT) (mc : CT) (ms : ST) (P : Program) (C : Yc) (L0 : Value → Value → Value → Value → AHeap → K → Res) (v1 v12 v13 v14 : Value) (H : AHeap) (k : K) : Res :=
Yb (Yh P .lss T.int (.tmp 14) (.tmp 13) v14 v13) H fun t15 h6 =>
mc t15 (fun k3 => k3 .normal [(1, v1), (12, v12), (13, v13), (14, v14)] h6) (fun k3 =>
k3 (.exit 0) [(15, t15), (1, v1), (12, v12), (13, v13), (14, v14)] h6) (Ys (fun tT h7 =>
ms (fun k4 =>
Yb (ixS 5 (get tT 12) (get tT 14)) h7 fun t17 h8 =>
Yb (ldN 5 h8 t17) h8 fun t18 h9 =>
Yq (Xs T.api_Cell (.agg #[(.int .i64 0), (.int .u64 0), (.int .i64 0), (.string (mk [])), (.bool false)]) h9) fun t6 h10 =>
Yt (stN 5 h10 t6 t18) fun _ h11 =>
Yb (ldN 5 h11 t6) h11 fun t19 h12 =>
Yb (ixS 1 (get tT 1) (get tT 14)) h12 fun t22 h13 =>
Yb (ld1 h13 t22) h13 fun t23 h14 =>
Yg C F.rows_proper [t19, t23] h14 fun t24 h15 =>
Yb (xun P .not t24) h15 fun t25 h16 =>
YX true <|
mc t25 (fun k5 => k5 .ret [(4, (.bool false))] h16) (fun k5 =>
k5 .normal [(1, (get tT 1)), (12, (get tT 12)), (13, (get tT 13)), (14, (get tT 14))] h16) (YB [1, 12, 13, 14] 1 k4)) (Ys (fun tT_1 h17 =>
Yb (Yh P .add T.int (.tmp 14) (.const (.int .i64 1)) (get tT_1 14) (.int .i64 1)) h17 fun t26 h18 =>
k .normal [(1, (get tT_1 1)), (12, (get tT_1 12)), (13, (get tT_1 13)), (14, t26)] h18) (Yn [1, 12, 13, 14] k))) (Yn [1, 12, 13, 14] k))
theorem s_rows_are_eq (M : CombL) (C : Yc) (LP : Yx) (a0 a1 : Value) (H : AHeap) : Yw M Tryz.prog hints C LP F.rows_are [a0, a1] H = UA M.b.g M.c M.s Tryz.prog C (fun v1 v12 v13 v14 H k => Yv M Tryz.prog hints C LP F.rows_are 0 [(1, v1), (12, v12), (13, v13), (14, v14)] H k) a0 a1 H (Yj Tryz.prog [.tmp 4]) := by kernel_rfl
theorem s_rows_are_b0_eq (M : CombL) (C : Yc) (LP : Yx) (v1 v12 v13 v14 : Value) (H : AHeap) (k : K) : W3 M Tryz.prog hints C LP F.rows_are 0 [(1, v1), (12, v12), (13, v13), (14, v14)] H (Yn [1, 12, 13, 14] k) = VG M.b.g M.c M.s Tryz.prog C (fun v1 v12 v13 v14 H k => Yv M Tryz.prog hints C LP F.rows_are 0 [(1, v1), (12, v12), (13, v13), (14, v14)] H k) v1 v12 v13 v14 H k := by kernel_rfl
noncomputable def Xz (mg : GT) (mc : CT) (ms : ST) (P : Program) (C : Yc) (L0 : Value → Value → Value → Value → Value → AHeap → K → Res) (L1 : Value → Value → Value → Value → AHeap → K → Res) (a0 : Value) (H : AHeap) (K0 : K) : Res :=
Yb (lenS a0) H fun t10 h1 =>
ms (fun k1 =>
L0 a0 (.int .i64 0) a0 t10 (.int .i64 0) h1 (YB [0, 3] 0 k1)) (Ys (fun tT h2 =>
Yg C F.slices_Grow_CellKind [(.slice none 0 0), (get tT 3)] h2 fun t24 h3 =>
Yb (lenS (get tT 0)) h3 fun t26 h4 =>
ms (fun k2 =>
L1 t24 (get tT 0) t26 (.int .i64 0) h4 (YB [6] 2 k2)) (Ys (fun tT_1 h5 =>
K0 .ret [(2, (get tT_1 6))] h5) K0)) K0)
noncomputable def Xc (mg : GT) (mc : CT) (ms : ST) (P : Program) (C : Yc) (L0 : Value → Value → Value → Value → Value → AHeap → K → Res) (L1 : Value → Value → Value → Value → AHeap → K → Res) (v0 v3 v9 v10 v11 : Value) (H : AHeap) (k : K) : Res :=
Yb (Yh P .lss T.int (.tmp 11) (.tmp 10) v11 v10) H fun t12 h2 =>
mc t12 (fun k2 => k2 .normal [(0, v0), (3, v3), (9, v9), (10, v10), (11, v11)] h2) (fun k2 =>
k2 (.exit 0) [(12, t12), (0, v0), (3, v3), (9, v9), (10, v10), (11, v11)] h2) (Ys (fun tT h3 =>
ms (fun k3 =>
Yb (ixS 1 (get tT 9) (get tT 11)) h3 fun t13 h4 =>
Yb (ld1 h4 t13) h4 fun t14 h5 =>
Yb (lenS t14) h5 fun t17 h6 =>
Yb (Yh P .add T.int (.tmp 15) (.tmp 17) (get tT 3) t17) h6 fun t18 h7 =>
Yb (Yh P .lss T.int (.tmp 19) (.const (.int .i64 0)) t18 (.int .i64 0)) h7 fun t20 h8 =>
mc t20 (fun k4 => none) (fun k4 =>
k4 .normal [(0, (get tT 0)), (3, t18), (9, (get tT 9)), (10, (get tT 10)), (11, (get tT 11))] h8) (YB [0, 3, 9, 10, 11] 1 k3)) (Ys (fun tT_1 h9 =>
Yb (Yh P .add T.int (.tmp 11) (.const (.int .i64 1)) (get tT_1 11) (.int .i64 1)) h9 fun t22 h10 =>
k .normal [(0, (get tT_1 0)), (3, (get tT_1 3)), (9, (get tT_1 9)), (10, (get tT_1 10)), (11, t22)] h10) (Yn [0, 3, 9, 10, 11] k))) (Yn [0, 3, 9, 10, 11] k))
noncomputable def Xd (mg : GT) (mc : CT) (ms : ST) (P : Program) (C : Yc) (L0 : Value → Value → Value → Value → Value → AHeap → K → Res) (L1 : Value → Value → Value → Value → AHeap → K → Res) (v6 v25 v26 v27 : Value) (H : AHeap) (k : K) : Res :=
Yb (Yh P .lss T.int (.tmp 27) (.tmp 26) v27 v26) H fun t28 h5 =>
mc t28 (fun k3 => k3 .normal [(6, v6), (25, v25), (26, v26), (27, v27)] h5) (fun k3 =>
k3 (.exit 2) [(28, t28), (6, v6), (25, v25), (26, v26), (27, v27)] h5) (Ys (fun tT h6 =>
ms (fun k4 =>
Yb (ixS 1 (get tT 25) (get tT 27)) h6 fun t29 h7 =>
Yb (ld1 h7 t29) h7 fun t30 h8 =>
Yq (app T.api_CellKind 1 8 (get tT 6) (Wi 1 t30 h8) h8) fun t33 h9 =>
k4 .normal [(6, t33), (25, (get tT 25)), (26, (get tT 26)), (27, (get tT 27))] h9) (Ys (fun tT_1 h10 =>
Yb (Yh P .add T.int (.tmp 27) (.const (.int .i64 1)) (get tT_1 27) (.int .i64 1)) h10 fun t34 h11 =>
k .normal [(6, (get tT_1 6)), (25, (get tT_1 25)), (26, (get tT_1 26)), (27, t34)] h11) (Yn [6, 25, 26, 27] k))) (Yn [6, 25, 26, 27] k))
theorem Q7 (M : CombL) (C : Yc) (LP : Yx) (a0 : Value) (H : AHeap) : Yw M Tryz.prog hints C LP F.slices_Concat_CellKind [a0] H = Xz M.b.g M.c M.s Tryz.prog C (fun v0 v3 v9 v10 v11 H k => Yv M Tryz.prog hints C LP F.slices_Concat_CellKind 0 [(0, v0), (3, v3), (9, v9), (10, v10), (11, v11)] H k) (fun v6 v25 v26 v27 H k => Yv M Tryz.prog hints C LP F.slices_Concat_CellKind 1 [(6, v6), (25, v25), (26, v26), (27, v27)] H k) a0 H (Yj Tryz.prog [.tmp 2]) := by kernel_rfl
theorem Qj (M : CombL) (C : Yc) (LP : Yx) (v0 v3 v9 v10 v11 : Value) (H : AHeap) (k : K) : W3 M Tryz.prog hints C LP F.slices_Concat_CellKind 0 [(0, v0), (3, v3), (9, v9), (10, v10), (11, v11)] H (Yn [0, 3, 9, 10, 11] k) = Xc M.b.g M.c M.s Tryz.prog C (fun v0 v3 v9 v10 v11 H k => Yv M Tryz.prog hints C LP F.slices_Concat_CellKind 0 [(0, v0), (3, v3), (9, v9), (10, v10), (11, v11)] H k) (fun v6 v25 v26 v27 H k => Yv M Tryz.prog hints C LP F.slices_Concat_CellKind 1 [(6, v6), (25, v25), (26, v26), (27, v27)] H k) v0 v3 v9 v10 v11 H k := by kernel_rfl
theorem Ql (M : CombL) (C : Yc) (LP : Yx) (v6 v25 v26 v27 : Value) (H : AHeap) (k : K) : W3 M Tryz.prog hints C LP F.slices_Concat_CellKind 1 [(6, v6), (25, v25), (26, v26), (27, v27)] H (Yn [6, 25, 26, 27] k) = Xd M.b.g M.c M.s Tryz.prog C (fun v0 v3 v9 v10 v11 H k => Yv M Tryz.prog hints C LP F.slices_Concat_CellKind 0 [(0, v0), (3, v3), (9, v9), (10, v10), (11, v11)] H k) (fun v6 v25 v26 v27 H k => Yv M Tryz.prog hints C LP F.slices_Concat_CellKind 1 [(6, v6), (25, v25), (26, v26), (27, v27)] H k) v6 v25 v26 v27 H k := by kernel_rfl
noncomputable def UO (mg : GT) (mc : CT) (ms : ST) (P : Program) (C : Yc) (L0 : Value → Value → Value → Value → AHeap → K → Res) (a0 a1 : Value) (H : AHeap) (K0 : K) : Res :=
Yb (lenS a1) H fun t8 h1 =>
ms (fun k1 =>
L0 a0 a1 t8 (.int .i64 0) h1 (YB [0] 0 k1)) (Ys (fun tT h2 =>
Yq (YR P T.sl_uint8 T.string (get tT 0) h2) fun t18 h3 =>
K0 .ret [(4, t18)] h3) K0)
noncomputable def U4 (mg : GT) (mc : CT) (ms : ST) (P : Program) (C : Yc) (L0 : Value → Value → Value → Value → AHeap → K → Res) (v0 v7 v8 v9 : Value) (H : AHeap) (k : K) : Res :=
Yb (Yh P .lss T.int (.tmp 9) (.tmp 8) v9 v8) H fun t10 h2 =>
mc t10 (fun k2 => k2 .normal [(0, v0), (7, v7), (8, v8), (9, v9)] h2) (fun k2 =>
k2 (.exit 0) [(10, t10), (0, v0), (7, v7), (8, v8), (9, v9)] h2) (Ys (fun tT h3 =>
ms (fun k3 =>
Yb (ixS 5 (get tT 7) (get tT 9)) h3 fun t11 h4 =>
Yb (ldN 5 h4 t11) h4 fun t12 h5 =>
Yq (Xs T.api_Cell (.agg #[(.int .i64 0), (.int .u64 0), (.int .i64 0), (.string (mk [])), (.bool false)]) h5) fun t6 h6 =>
Yt (stN 5 h6 t6 t12) fun _ h7 =>
Yb (ldN 5 h7 t6) h7 fun t14 h8 =>
Yg C F.rows_put [(get tT 0), t14] h8 fun t15 h9 =>
k3 .normal [(0, t15), (7, (get tT 7)), (8, (get tT 8)), (9, (get tT 9))] h9) (Ys (fun tT_1 h10 =>
Yb (Yh P .add T.int (.tmp 9) (.const (.int .i64 1)) (get tT_1 9) (.int .i64 1)) h10 fun t16 h11 =>
k .normal [(0, (get tT_1 0)), (7, (get tT_1 7)), (8, (get tT_1 8)), (9, t16)] h11) (Yn [0, 7, 8, 9] k))) (Yn [0, 7, 8, 9] k))
theorem s_rows_puts_eq (M : CombL) (C : Yc) (LP : Yx) (a0 a1 : Value) (H : AHeap) : Yw M Tryz.prog hints C LP F.rows_puts [a0, a1] H = UO M.b.g M.c M.s Tryz.prog C (fun v0 v7 v8 v9 H k => Yv M Tryz.prog hints C LP F.rows_puts 0 [(0, v0), (7, v7), (8, v8), (9, v9)] H k) a0 a1 H (Yj Tryz.prog [.tmp 4]) := by kernel_rfl
theorem s_rows_puts_b0_eq (M : CombL) (C : Yc) (LP : Yx) (v0 v7 v8 v9 : Value) (H : AHeap) (k : K) : W3 M Tryz.prog hints C LP F.rows_puts 0 [(0, v0), (7, v7), (8, v8), (9, v9)] H (Yn [0, 7, 8, 9] k) = U4 M.b.g M.c M.s Tryz.prog C (fun v0 v7 v8 v9 H k => Yv M Tryz.prog hints C LP F.rows_puts 0 [(0, v0), (7, v7), (8, v8), (9, v9)] H k) v0 v7 v8 v9 H k := by kernel_rfl
noncomputable def Wy (mg : GT) (mc : CT) (ms : ST) (P : Program) (C : Yc) (a0 a1 : Value) (H : AHeap) (K0 : K) : Res :=
ms (fun k1 =>
Yb (Yh P .eql T.string (.tmp 6) (.const (.string (mk []))) a0 (.string (mk []))) H fun t7 h1 =>
mc t7 (fun k2 => k2 .ret [(4, (.int .i64 2))] h1) (fun k2 =>
Yb (lenT a0) h1 fun t10 h2 =>
Yb (Yh P .gtr T.int (.tmp 10) (.const (.int .i64 24)) t10 (.int .i64 24)) h2 fun t11 h3 =>
mg t11 false (fun o3 => o3 a1 h3) h3 fun t13 h4 =>
mg t11 false (fun o4 => Yg C F.slices_ContainsFunc_string [t13, (.func (.func F.model_check_1) #[] #[])] h4 o4) h4 fun t14 h5 =>
YG t11 (.bool true) t14 fun t15 =>
mc t15 (fun k5 => k5 .ret [(4, (.int .i64 5))] h5) (fun k5 =>
k5 .normal [] h5) (Yn [] k2)) (YB [] 0 k1)) (Ys (fun tT h6 =>
K0 .ret [(4, (.int .i64 0))] h6) K0)
theorem s_model_check_eq (M : CombL) (C : Yc) (LP : Yx) (a0 a1 : Value) (H : AHeap) : Yw M Tryz.prog hints C LP F.model_check [a0, a1] H = Wy M.b.g M.c M.s Tryz.prog C a0 a1 H (Yj Tryz.prog [.tmp 4]) := by kernel_rfl
noncomputable def We (mg : GT) (mc : CT) (ms : ST) (P : Program) (C : Yc) (a0 a1 a2 : Value) (H : AHeap) (K0 : K) : Res :=
Yb (slS T.api_Pair 2 a0 (some a1) none none H) H fun t12 h1 =>
Yb (lenS a2) h1 fun t14 h2 =>
Yb (Yh P .eql T.int (.tmp 15) (.const (.int .i64 0)) t14 (.int .i64 0)) h2 fun t16 h3 =>
mc t16 (fun k1 => k1 .ret [(6, a0)] h3) (fun k1 =>
k1 .normal [(0, a0), (1, a1), (2, a2), (7, t14)] h3) (Ys (fun tT h4 =>
Yb (lenS (get tT 0)) h4 fun t19 h5 =>
Yb (Yh P .eql T.int (.tmp 20) (.tmp 21) (get tT 1) t19) h5 fun t22 h6 =>
mc t22 (fun k2 => Yq (app T.api_Pair 2 32 (get tT 0) (Wi 2 (get tT 2) h6) h6) fun t25 h7 =>
k2 .ret [(6, t25)] h7) (fun k2 =>
k2 .normal [(0, (get tT 0)), (1, (get tT 1)), (2, (get tT 2)), (7, (get tT 7)), (8, t19)] h6) (Ys (fun tT_1 h8 =>
Yb (Yh P .add T.int (.tmp 26) (.tmp 27) (get tT_1 8) (get tT_1 7)) h8 fun t28 h9 =>
Vn C h9 (YQ P .cap [T.sl_api_Pair] [(get tT_1 0)] h9) fun t30 h10 =>
Yb (Yh P .gtr T.int (.tmp 28) (.tmp 30) t28 t30) h10 fun t31 h11 =>
mc t31 (fun k3 => Yb (slS T.api_Pair 2 (get tT_1 0) none (some (get tT_1 1)) none h11) h11 fun t34 h12 =>
Yb (Yh P .add T.int (.tmp 35) (.tmp 36) (get tT_1 8) (get tT_1 7)) h12 fun t37 h13 =>
Yb (Yh P .sub T.int (.tmp 37) (.tmp 38) t37 (get tT_1 1)) h13 fun t39 h14 =>
Yq (app T.api_Pair 2 32 t34 (srcZ [(.string (mk [])), (.string (mk []))] 32 t39) h14) fun t40 h15 =>
Yb (slS T.api_Pair 2 t40 (some (get tT_1 1)) none none h15) h15 fun t43 h16 =>
Yq (cpy 2 t43 (get tT_1 2) h16) fun t45 h17 =>
Yb (Yh P .add T.int (.tmp 47) (.tmp 48) (get tT_1 1) (get tT_1 7)) h17 fun t49 h18 =>
Yb (slS T.api_Pair 2 t40 (some t49) none none h18) h18 fun t50 h19 =>
Yb (slS T.api_Pair 2 (get tT_1 0) (some (get tT_1 1)) none none h19) h19 fun t53 h20 =>
Yq (cpy 2 t50 t53 h20) fun t54 h21 =>
YX true <|
k3 .ret [(6, t40)] h21) (fun k3 =>
k3 .normal [(0, (get tT_1 0)), (1, (get tT_1 1)), (2, (get tT_1 2)), (7, (get tT_1 7)), (8, (get tT_1 8))] h11) (Ys (fun tT_2 h22 =>
Yb (Yh P .add T.int (.tmp 57) (.tmp 58) (get tT_2 8) (get tT_2 7)) h22 fun t59 h23 =>
Yb (slS T.api_Pair 2 (get tT_2 0) none (some t59) none h23) h23 fun t60 h24 =>
Yb (Yh P .add T.int (.tmp 63) (.tmp 64) (get tT_2 1) (get tT_2 7)) h24 fun t65 h25 =>
Yb (slS T.api_Pair 2 t60 (some t65) none none h25) h25 fun t66 h26 =>
Yb (xext P Tryz.f76 [(get tT_2 2), t66] h26) h26 fun t67 h27 =>
Yb (xun P .not t67) h27 fun t68 h28 =>
mc t68 (fun k4 => Yb (Yh P .add T.int (.tmp 70) (.tmp 71) (get tT_2 1) (get tT_2 7)) h28 fun t72 h29 =>
Yb (slS T.api_Pair 2 t60 (some t72) none none h29) h29 fun t73 h30 =>
Yb (slS T.api_Pair 2 t60 (some (get tT_2 1)) none none h30) h30 fun t76 h31 =>
Yq (cpy 2 t73 t76 h31) fun t77 h32 =>
YX true <|
Yb (slS T.api_Pair 2 t60 (some (get tT_2 1)) none none h32) h32 fun t80 h33 =>
Yq (cpy 2 t80 (get tT_2 2) h33) fun t82 h34 =>
k4 .ret [(6, t60)] h34) (fun k4 =>
k4 .normal [(0, t60), (1, (get tT_2 1)), (2, (get tT_2 2)), (7, (get tT_2 7)), (8, (get tT_2 8))] h28) (Ys (fun tT_3 h35 =>
Yb (slS T.api_Pair 2 (get tT_3 0) (some (get tT_3 8)) none none h35) h35 fun t86 h36 =>
Yq (cpy 2 t86 (get tT_3 2) h36) fun t88 h37 =>
Yb (slS T.api_Pair 2 (get tT_3 0) (some (get tT_3 1)) none none h37) h37 fun t91 h38 =>
Yg C F.slices_rotateRight_Pair [t91, (get tT_3 7)] h38 fun t93 h39 =>
K0 .ret [(6, (get tT_3 0))] h39) K0)) K0)) K0)) K0)
theorem UP (M : CombL) (C : Yc) (LP : Yx) (a0 a1 a2 : Value) (H : AHeap) : Yw M Tryz.prog hints C LP F.slices_Insert_Pair [a0, a1, a2] H = We M.b.g M.c M.s Tryz.prog C a0 a1 a2 H (Yj Tryz.prog [.tmp 6]) := by kernel_rfl
noncomputable def YN (mg : GT) (mc : CT) (ms : ST) (P : Program) (C : Yc) (L0 : Value → Value → Value → Value → Value → Value → AHeap → K → Res) (a0 a1 a2 : Value) (H : AHeap) (K0 : K) : Res :=
Yb (lenS a0) H fun t13 h1 =>
ms (fun k1 =>
L0 a0 a1 a2 t13 (.int .i64 0) t13 h1 (YB [0, 1, 2, 8, 9] 0 k1)) (Ys (fun tT h2 =>
Yb (Yh P .lss T.int (.tmp 36) (.tmp 37) (get tT 9) (get tT 8)) h2 fun t38 h3 =>
mg t38 true (fun o2 => o2 (get tT 2) h3) h3 fun t40 h4 =>
mg t38 true (fun o3 => o3 (get tT 0) h4) h4 fun t41 h5 =>
mg t38 true (fun o4 => o4 (get tT 9) h5) h5 fun t42 h6 =>
mg t38 true (fun o5 => Yb (ixS 2 t41 t42) h6 o5) h6 fun t43 h7 =>
mg t38 true (fun o6 => Yb (ldN 2 h7 t43) h7 o6) h7 fun t44 h8 =>
mg t38 true (fun o7 => o7 (get tT 1) h8) h8 fun t45 h9 =>
mg t38 true (fun o8 => UL P C t40 [t44, t45] h9 o8) h9 fun t46 h10 =>
mg t38 true (fun o9 => Yb (Yh P .eql T.int (.tmp 46) (.const (.int .i64 0)) t46 (.int .i64 0)) h10 o9) h10 fun t47 h11 =>
YG t38 t47 (.bool false) fun t48 =>
K0 .ret [(6, (get tT 9)), (7, t48)] h11) K0)
noncomputable def YT (mg : GT) (mc : CT) (ms : ST) (P : Program) (C : Yc) (L0 : Value → Value → Value → Value → Value → Value → AHeap → K → Res) (v0 v1 v2 v8 v9 v10 : Value) (H : AHeap) (k : K) : Res :=
Yb (Yh P .lss T.int (.tmp 15) (.tmp 16) v9 v10) H fun t17 h2 =>
mc t17 (fun k2 => k2 .normal [(0, v0), (1, v1), (2, v2), (8, v8), (9, v9), (10, v10)] h2) (fun k2 =>
k2 (.exit 0) [(17, t17), (16, v10), (15, v9), (0, v0), (1, v1), (2, v2), (8, v8), (9, v9), (10, v10)] h2) (Ys (fun tT h3 =>
ms (fun k3 =>
Yb (Yh P .add T.int (.tmp 18) (.tmp 19) (get tT 9) (get tT 10)) h3 fun t20 h4 =>
Yq (YR P T.int T.uint t20 h4) fun t21 h5 =>
Yb (Yh P .shr T.uint (.tmp 21) (.const (.int .u64 1)) t21 (.int .u64 1)) h5 fun t22 h6 =>
Yq (YR P T.uint T.int t22 h6) fun t23 h7 =>
Yb (ixS 2 (get tT 0) t23) h7 fun t27 h8 =>
Yb (ldN 2 h8 t27) h8 fun t28 h9 =>
UL P C (get tT 2) [t28, (get tT 1)] h9 fun t30 h10 =>
Yb (Yh P .lss T.int (.tmp 30) (.const (.int .i64 0)) t30 (.int .i64 0)) h10 fun t31 h11 =>
mc t31 (fun k4 => Yb (Yh P .add T.int (.tmp 32) (.const (.int .i64 1)) t23 (.int .i64 1)) h11 fun t33 h12 =>
k4 .normal [(0, (get tT 0)), (1, (get tT 1)), (2, (get tT 2)), (8, (get tT 8)), (9, t33), (10, (get tT 10))] h12) (fun k4 =>
k4 .normal [(0, (get tT 0)), (1, (get tT 1)), (2, (get tT 2)), (8, (get tT 8)), (9, (get tT 9)), (10, t23)] h11) (YB [0, 1, 2, 8, 9, 10] 1 k3)) (Yn [0, 1, 2, 8, 9, 10] k)) (Yn [0, 1, 2, 8, 9, 10] k))
theorem Ur (M : CombL) (C : Yc) (LP : Yx) (a0 a1 a2 : Value) (H : AHeap) : Yw M Tryz.prog hints C LP F.slices_BinarySearchFunc_string [a0, a1, a2] H = YN M.b.g M.c M.s Tryz.prog C (fun v0 v1 v2 v8 v9 v10 H k => Yv M Tryz.prog hints C LP F.slices_BinarySearchFunc_string 0 [(0, v0), (1, v1), (2, v2), (8, v8), (9, v9), (10, v10)] H k) a0 a1 a2 H (Yj Tryz.prog [.tmp 6, .tmp 7]) := by kernel_rfl
theorem VX (M : CombL) (C : Yc) (LP : Yx) (v0 v1 v2 v8 v9 v10 : Value) (H : AHeap) (k : K) : W3 M Tryz.prog hints C LP F.slices_BinarySearchFunc_string 0 [(0, v0), (1, v1), (2, v2), (8, v8), (9, v9), (10, v10)] H (Yn [0, 1, 2, 8, 9, 10] k) = YT M.b.g M.c M.s Tryz.prog C (fun v0 v1 v2 v8 v9 v10 H k => Yv M Tryz.prog hints C LP F.slices_BinarySearchFunc_string 0 [(0, v0), (1, v1), (2, v2), (8, v8), (9, v9), (10, v10)] H k) v0 v1 v2 v8 v9 v10 H k := by kernel_rfl
noncomputable def X3 (mg : GT) (mc : CT) (ms : ST) (P : Program) (C : Yc) (a0 a1 : Value) (H : AHeap) (K0 : K) : Res :=
Yq (Xs T.api_Pair a0 H) fun t2 h1 =>
Yb (fad 0 t2) h1 fun t5 h2 =>
Yb (ld1 h2 t5) h2 fun t6 h3 =>
Yg C F.keys_Compare [t6, a1] h3 fun t8 h4 =>
K0 .ret [(4, t8)] h4
theorem ZO (M : CombL) (C : Yc) (LP : Yx) (a0 a1 : Value) (H : AHeap) : Yw M Tryz.prog hints C LP F.model_Model_place_1 [a0, a1] H = X3 M.b.g M.c M.s Tryz.prog C a0 a1 H (Yj Tryz.prog [.tmp 4]) := by kernel_rfl
noncomputable def Ub (mg : GT) (mc : CT) (ms : ST) (P : Program) (C : Yc) (a0 a1 : Value) (H : AHeap) (K0 : K) : Res :=
Yg C F.strings_Compare [a0, a1] H fun t7 h1 =>
K0 .ret [(4, t7)] h1
theorem s_keys_Compare_eq (M : CombL) (C : Yc) (LP : Yx) (a0 a1 : Value) (H : AHeap) : Yw M Tryz.prog hints C LP F.keys_Compare [a0, a1] H = Ub M.b.g M.c M.s Tryz.prog C a0 a1 H (Yj Tryz.prog [.tmp 4]) := by kernel_rfl
noncomputable def Wf (mg : GT) (mc : CT) (ms : ST) (P : Program) (C : Yc) (a0 a1 : Value) (H : AHeap) (K0 : K) : Res :=
Yq (Xs T.api_Cell (.agg #[(.int .i64 0), (.int .u64 0), (.int .i64 0), (.string (mk [])), (.bool false)]) H) fun t4 h1 =>
Yb (W9 #[(.int .i64 0), (.int .u64 0), (.int .i64 0), (.string (mk [])), (.bool false)] [(0, 1), (1, 1), (2, 1), (3, 1), (4, 1)] [(0, a1)]) h1 fun t14 h2 =>
Yq (Xs T.api_Cell (.agg #[(.int .i64 0), (.int .u64 0), (.int .i64 0), (.string (mk [])), (.bool false)]) h2) fun t7 h3 =>
Yt (stN 5 h3 t7 t14) fun _ h4 =>
Yb (Yh P .eql T.string (.tmp 15) (.const (.string (mk []))) a0 (.string (mk []))) h4 fun t16 h5 =>
mc t16 (fun k1 => Yb (ldN 5 h5 t7) h5 fun t17 h6 =>
Yt (stN 5 h6 t4 t17) fun _ h7 =>
k1 .ret [(4, t4), (5, (.string (mk []))), (6, (.bool false))] h7) (fun k1 =>
k1 .normal [(0, a0), (1, a1), (4, t4), (7, t7)] h5) (Ys (fun tT h8 =>
Yb (UC P T.string (get tT 0) (.int .i64 0)) h8 fun t19 h9 =>
Yq (YR P T.uint8 T.int t19 h9) fun t20 h10 =>
ms (fun k2 =>
Yb (Yh P .eql T.api_CellKind (.tmp 21) (.const (.int .i64 1)) (get tT 1) (.int .i64 1)) h10 fun t23 h11 =>
mc t23 (fun k3 => Yb (slT (get tT 0) (some (.int .i64 1)) none) h11 fun t26 h12 =>
Yg C F.rows_number [t26, t20, (.bool false)] h12 fun t28 h13 =>
Yb (Yp t28 0) h13 fun t29 h14 =>
Yb (Yp t28 1) h14 fun t30 h15 =>
Yb (Yp t28 2) h15 fun t31 h16 =>
Yb (fad 1 (get tT 7)) h16 fun t32 h17 =>
Yt (st1 h17 t32 t29) fun _ h18 =>
Yb (ldN 5 h18 (get tT 7)) h18 fun t33 h19 =>
Yt (stN 5 h19 (get tT 4) t33) fun _ h20 =>
k3 .ret [(4, (get tT 4)), (5, t30), (6, t31)] h20) (fun k3 =>
Yb (Yh P .eql T.api_CellKind (.tmp 21) (.const (.int .i64 2)) (get tT 1) (.int .i64 2)) h11 fun t37 h21 =>
mc t37 (fun k4 => Yb (Yh P .geq T.int (.tmp 38) (.const (.int .i64 128)) t20 (.int .i64 128)) h21 fun t39 h22 =>
mc t39 (fun k5 => Yb (slT (get tT 0) (some (.int .i64 1)) none) h22 fun t42 h23 =>
Yb (Yh P .sub T.int (.tmp 43) (.const (.int .i64 128)) t20 (.int .i64 128)) h23 fun t44 h24 =>
Yg C F.rows_number [t42, t44, (.bool false)] h24 fun t45 h25 =>
Yb (Yp t45 0) h25 fun t46 h26 =>
Yb (Yp t45 1) h26 fun t47 h27 =>
Yb (Yp t45 2) h27 fun t48 h28 =>
Yq (YR P T.uint64 T.int t46 h28) fun t50 h29 =>
Yb (fad 2 (get tT 7)) h29 fun t51 h30 =>
Yt (st1 h30 t51 t50) fun _ h31 =>
k5 .normal [(4, (get tT 4)), (7, (get tT 7)), (9, t48), (11, t47)] h31) (fun k5 =>
Yb (slT (get tT 0) (some (.int .i64 1)) none) h22 fun t54 h32 =>
Yb (Yh P .sub T.int (.const (.int .i64 127)) (.tmp 55) (.int .i64 127) t20) h32 fun t56 h33 =>
Yg C F.rows_number [t54, t56, (.bool true)] h33 fun t57 h34 =>
Yb (Yp t57 0) h34 fun t58 h35 =>
Yb (Yp t57 1) h35 fun t59 h36 =>
Yb (Yp t57 2) h36 fun t60 h37 =>
Yq (YR P T.uint64 T.int t58 h37) fun t62 h38 =>
Yb (xun P .neg t62) h38 fun t63 h39 =>
Yb (Yh P .sub T.int (.tmp 63) (.const (.int .i64 1)) t63 (.int .i64 1)) h39 fun t64 h40 =>
Yb (fad 2 (get tT 7)) h40 fun t65 h41 =>
Yt (st1 h41 t65 t64) fun _ h42 =>
k5 .normal [(4, (get tT 4)), (7, (get tT 7)), (9, t60), (11, t59)] h42) (Ys (fun tT_1 h43 =>
Yb (ldN 5 h43 (get tT_1 7)) h43 fun t66 h44 =>
Yt (stN 5 h44 (get tT_1 4) t66) fun _ h45 =>
k4 .ret [(4, (get tT_1 4)), (5, (get tT_1 11)), (6, (get tT_1 9))] h45) (Yn [0, 4, 7, 8] k4))) (fun k4 =>
Yb (Yh P .eql T.api_CellKind (.tmp 21) (.const (.int .i64 3)) (get tT 1) (.int .i64 3)) h21 fun t70 h46 =>
mc t70 (fun k6 => Yg C F.strings_Index [(get tT 0), (.string (mk [0, 1]))] h46 fun t72 h47 =>
Yb (Yh P .lss T.int (.tmp 73) (.const (.int .i64 0)) t72 (.int .i64 0)) h47 fun t74 h48 =>
mc t74 (fun k7 => Yb (ldN 5 h48 (get tT 7)) h48 fun t75 h49 =>
Yt (stN 5 h49 (get tT 4) t75) fun _ h50 =>
k7 .ret [(4, (get tT 4)), (5, (.string (mk []))), (6, (.bool false))] h50) (fun k7 =>
k7 .normal [(0, (get tT 0)), (4, (get tT 4)), (7, (get tT 7)), (12, t72)] h48) (Ys (fun tT_2 h51 =>
Yb (slT (get tT_2 0) none (some (get tT_2 12))) h51 fun t78 h52 =>
Yg C F.strings_ReplaceAll [t78, (.string (mk [0, 255])), (.string (mk [0]))] h52 fun t79 h53 =>
Yb (fad 3 (get tT_2 7)) h53 fun t80 h54 =>
Yt (st1 h54 t80 t79) fun _ h55 =>
Yb (ldN 5 h55 (get tT_2 7)) h55 fun t81 h56 =>
Yb (Yh P .add T.int (.tmp 83) (.const (.int .i64 2)) (get tT_2 12) (.int .i64 2)) h56 fun t84 h57 =>
Yb (slT (get tT_2 0) (some t84) none) h57 fun t85 h58 =>
Yt (stN 5 h58 (get tT_2 4) t81) fun _ h59 =>
YX (okV (some true) none h58 h59 h56 h56 && (okV (some true) none h58 h59 h56 h56 && (okV (some true) none h58 h59 h56 h57 && (okV (some true) (Ye (get tT_2 0)) h58 h59 h57 h58 && true)))) <|
k6 .ret [(4, (get tT_2 4)), (5, t85), (6, (.bool true))] h59) (Yn [0, 4, 7, 8] k6))) (fun k6 =>
k6 .normal [(0, (get tT 0)), (4, (get tT 4)), (7, (get tT 7)), (8, t20)] h46) (Yn [0, 4, 7, 8] k4)) (Yn [0, 4, 7, 8] k3)) (YB [0, 4, 7, 8] 0 k2)) (Ys (fun tT_3 h60 =>
Yb (Yh P .eql T.int (.tmp 86) (.const (.int .i64 1)) (get tT_3 8) (.int .i64 1)) h60 fun t87 h61 =>
Yb (fad 4 (get tT_3 7)) h61 fun t88 h62 =>
Yt (st1 h62 t88 t87) fun _ h63 =>
Yb (ldN 5 h63 (get tT_3 7)) h63 fun t89 h64 =>
Yb (slT (get tT_3 0) (some (.int .i64 1)) none) h64 fun t91 h65 =>
Yt (stN 5 h65 (get tT_3 4) t89) fun _ h66 =>
YX (okV (some true) none h65 h66 h64 h64 && (okV (some true) (Ye (get tT_3 0)) h65 h66 h64 h65 && true)) <|
K0 .ret [(4, (get tT_3 4)), (5, t91), (6, (.bool true))] h66) K0)) K0)
theorem s_rows_take_eq (M : CombL) (C : Yc) (LP : Yx) (a0 a1 : Value) (H : AHeap) : Yw M Tryz.prog hints C LP F.rows_take [a0, a1] H = Wf M.b.g M.c M.s Tryz.prog C a0 a1 H (Yj Tryz.prog [.cell 4 T.api_Cell, .tmp 5, .tmp 6]) := by kernel_rfl
noncomputable def YW (mg : GT) (mc : CT) (ms : ST) (P : Program) (C : Yc) (a0 a1 : Value) (H : AHeap) (K0 : K) : Res :=
Yg C F.slices_IndexFunc_CellKind [a0, a1] H fun t7 h1 =>
Yb (Yh P .geq T.int (.tmp 7) (.const (.int .i64 0)) t7 (.int .i64 0)) h1 fun t8 h2 =>
K0 .ret [(4, t8)] h2
theorem UQ (M : CombL) (C : Yc) (LP : Yx) (a0 a1 : Value) (H : AHeap) : Yw M Tryz.prog hints C LP F.slices_ContainsFunc_CellKind [a0, a1] H = YW M.b.g M.c M.s Tryz.prog C a0 a1 H (Yj Tryz.prog [.tmp 4]) := by kernel_rfl
noncomputable def V0 (mg : GT) (mc : CT) (ms : ST) (P : Program) (C : Yc) (a0 : Value) (H : AHeap) (K0 : K) : Res :=
Yg C F.rows_kind [a0] H fun t4 h1 =>
Yb (xun P .not t4) h1 fun t5 h2 =>
K0 .ret [(2, t5)] h2
theorem s_rows_Valid_1_eq (M : CombL) (C : Yc) (LP : Yx) (a0 : Value) (H : AHeap) : Yw M Tryz.prog hints C LP F.rows_Valid_1 [a0] H = V0 M.b.g M.c M.s Tryz.prog C a0 H (Yj Tryz.prog [.tmp 2]) := by kernel_rfl
noncomputable def UJ (mg : GT) (mc : CT) (ms : ST) (P : Program) (C : Yc) (a0 : Value) (H : AHeap) (K0 : K) : Res :=
Yb (Yh P .geq T.api_CellKind (.tmp 3) (.const (.int .i64 1)) a0 (.int .i64 1)) H fun t4 h1 =>
mg t4 true (fun o1 => o1 a0 h1) h1 fun t6 h2 =>
mg t4 true (fun o2 => Yb (Yh P .leq T.api_CellKind (.tmp 6) (.const (.int .i64 4)) t6 (.int .i64 4)) h2 o2) h2 fun t7 h3 =>
YG t4 t7 (.bool false) fun t8 =>
K0 .ret [(2, t8)] h3
theorem s_rows_kind_eq (M : CombL) (C : Yc) (LP : Yx) (a0 : Value) (H : AHeap) : Yw M Tryz.prog hints C LP F.rows_kind [a0] H = UJ M.b.g M.c M.s Tryz.prog C a0 H (Yj Tryz.prog [.tmp 2]) := by kernel_rfl
noncomputable def X9 (mg : GT) (mc : CT) (ms : ST) (P : Program) (C : Yc) (a0 a1 : Value) (H : AHeap) (K0 : K) : Res :=
Yq (Xs T.api_Cell a0 H) fun t2 h1 =>
Yb (W9 #[(.int .i64 0), (.int .u64 0), (.int .i64 0), (.string (mk [])), (.bool false)] [(0, 1), (1, 1), (2, 1), (3, 1), (4, 1)] [(0, a1)]) h1 fun t7 h2 =>
Yq (Xs T.api_Cell (.agg #[(.int .i64 0), (.int .u64 0), (.int .i64 0), (.string (mk [])), (.bool false)]) h2) fun t5 h3 =>
Yt (stN 5 h3 t5 t7) fun _ h4 =>
ms (fun k1 =>
Yb (Yh P .eql T.api_CellKind (.tmp 8) (.const (.int .i64 1)) a1 (.int .i64 1)) h4 fun t10 h5 =>
mc t10 (fun k2 => Yb (fad 1 t2) h5 fun t11 h6 =>
Yb (ld1 h6 t11) h6 fun t12 h7 =>
Yb (fad 1 t5) h7 fun t13 h8 =>
Yt (st1 h8 t13 t12) fun _ h9 =>
k2 .normal [(2, t2), (5, t5)] h9) (fun k2 =>
Yb (Yh P .eql T.api_CellKind (.tmp 8) (.const (.int .i64 2)) a1 (.int .i64 2)) h5 fun t15 h10 =>
mc t15 (fun k3 => Yb (fad 2 t2) h10 fun t16 h11 =>
Yb (ld1 h11 t16) h11 fun t17 h12 =>
Yb (fad 2 t5) h12 fun t18 h13 =>
Yt (st1 h13 t18 t17) fun _ h14 =>
k3 .normal [(2, t2), (5, t5)] h14) (fun k3 =>
Yb (Yh P .eql T.api_CellKind (.tmp 8) (.const (.int .i64 3)) a1 (.int .i64 3)) h10 fun t20 h15 =>
mc t20 (fun k4 => Yb (fad 3 t2) h15 fun t21 h16 =>
Yb (ld1 h16 t21) h16 fun t22 h17 =>
Yb (fad 3 t5) h17 fun t23 h18 =>
Yt (st1 h18 t23 t22) fun _ h19 =>
k4 .normal [(2, t2), (5, t5)] h19) (fun k4 =>
Yb (Yh P .eql T.api_CellKind (.tmp 8) (.const (.int .i64 4)) a1 (.int .i64 4)) h15 fun t25 h20 =>
mc t25 (fun k5 => Yb (fad 4 t2) h20 fun t26 h21 =>
Yb (ld1 h21 t26) h21 fun t27 h22 =>
Yb (fad 4 t5) h22 fun t28 h23 =>
Yt (st1 h23 t28 t27) fun _ h24 =>
k5 .normal [(2, t2), (5, t5)] h24) (fun k5 =>
k5 .normal [(2, t2), (5, t5)] h20) (Yn [2, 5] k4)) (Yn [2, 5] k3)) (Yn [2, 5] k2)) (YB [2, 5] 0 k1)) (Ys (fun tT h25 =>
Yb (ldN 5 h25 (get tT 5)) h25 fun t29 h26 =>
Yb (ldN 5 h26 (get tT 2)) h26 fun t30 h27 =>
Yb (Yh P .eql T.api_Cell (.tmp 29) (.tmp 30) t29 t30) h27 fun t31 h28 =>
K0 .ret [(4, t31)] h28) K0)
theorem s_rows_proper_eq (M : CombL) (C : Yc) (LP : Yx) (a0 a1 : Value) (H : AHeap) : Yw M Tryz.prog hints C LP F.rows_proper [a0, a1] H = X9 M.b.g M.c M.s Tryz.prog C a0 a1 H (Yj Tryz.prog [.tmp 4]) := by kernel_rfl
noncomputable def XJ (mg : GT) (mc : CT) (ms : ST) (P : Program) (C : Yc) (a0 a1 : Value) (H : AHeap) (K0 : K) : Res :=
Yb (Yh P .lss T.int (.tmp 5) (.const (.int .i64 0)) a1 (.int .i64 0)) H fun t6 h1 =>
mc t6 (fun k1 => none) (fun k1 =>
k1 .normal [(0, a0), (1, a1)] h1) (Ys (fun tT h2 =>
Vn C h2 (YQ P .cap [T.sl_api_CellKind] [(get tT 0)] h2) fun t10 h3 =>
Yb (lenS (get tT 0)) h3 fun t12 h4 =>
Yb (Yh P .sub T.int (.tmp 10) (.tmp 12) t10 t12) h4 fun t13 h5 =>
Yb (Yh P .sub T.int (.tmp 8) (.tmp 13) (get tT 1) t13) h5 fun t14 h6 =>
Yb (Yh P .gtr T.int (.tmp 15) (.const (.int .i64 0)) t14 (.int .i64 0)) h6 fun t16 h7 =>
mc t16 (fun k2 => Vn C h7 (YQ P .cap [T.sl_api_CellKind] [(get tT 0)] h7) fun t19 h8 =>
Yb (slS T.api_CellKind 1 (get tT 0) none (some t19) none h8) h8 fun t20 h9 =>
Yq (app T.api_CellKind 1 8 t20 (srcZ [(.int .i64 0)] 8 t14) h9) fun t22 h10 =>
Yb (lenS (get tT 0)) h10 fun t24 h11 =>
Yb (slS T.api_CellKind 1 t22 none (some t24) none h11) h11 fun t25 h12 =>
k2 .normal [(0, t25)] h12) (fun k2 =>
k2 .normal [(0, (get tT 0))] h7) (Ys (fun tT_1 h13 =>
K0 .ret [(4, (get tT_1 0))] h13) K0)) K0)
theorem Zs (M : CombL) (C : Yc) (LP : Yx) (a0 a1 : Value) (H : AHeap) : Yw M Tryz.prog hints C LP F.slices_Grow_CellKind [a0, a1] H = XJ M.b.g M.c M.s Tryz.prog C a0 a1 H (Yj Tryz.prog [.tmp 4]) := by kernel_rfl
noncomputable def Vb (mg : GT) (mc : CT) (ms : ST) (P : Program) (C : Yc) (L0 : Value → Value → Value → Value → AHeap → K → Res) (a0 a1 : Value) (H : AHeap) (K0 : K) : Res :=
Yq (Xs T.api_Cell a1 H) fun t3 h1 =>
Yb (fad 0 t3) h1 fun t9 h2 =>
Yb (ld1 h2 t9) h2 fun t10 h3 =>
ms (fun k1 =>
Yb (Yh P .eql T.api_CellKind (.tmp 10) (.const (.int .i64 1)) t10 (.int .i64 1)) h3 fun t12 h4 =>
mc t12 (fun k2 => Yb (fad 1 t3) h4 fun t13 h5 =>
Yb (ld1 h5 t13) h5 fun t14 h6 =>
Yg C F.rows_digits [t14] h6 fun t15 h7 =>
Yb (lenS t15) h7 fun t18 h8 =>
Yq (YR P T.int T.uint8 t18 h8) fun t19 h9 =>
Yq (V2 T.uint8 [(.int .u8 0)] 1 [(0, t19)] h9) fun t20 h10 =>
Yq (app T.uint8 1 1 a0 (Wi 1 t20 h10) h10) fun t21 h11 =>
Yq (app T.uint8 1 1 t21 (Wi 1 t15 h11) h11) fun t23 h12 =>
k2 .ret [(4, t23)] h12) (fun k2 =>
Yb (Yh P .eql T.api_CellKind (.tmp 10) (.const (.int .i64 2)) t10 (.int .i64 2)) h4 fun t25 h13 =>
mc t25 (fun k3 => Yb (fad 2 t3) h13 fun t26 h14 =>
Yb (ld1 h14 t26) h14 fun t27 h15 =>
Yb (Yh P .geq T.int (.tmp 27) (.const (.int .i64 0)) t27 (.int .i64 0)) h15 fun t28 h16 =>
mc t28 (fun k4 => Yb (fad 2 t3) h16 fun t29 h17 =>
Yb (ld1 h17 t29) h17 fun t30 h18 =>
Yq (YR P T.int T.uint64 t30 h18) fun t31 h19 =>
Yg C F.rows_digits [t31] h19 fun t32 h20 =>
Yb (lenS t32) h20 fun t35 h21 =>
Yb (Yh P .add T.int (.const (.int .i64 128)) (.tmp 35) (.int .i64 128) t35) h21 fun t36 h22 =>
Yq (YR P T.int T.uint8 t36 h22) fun t37 h23 =>
Yq (V2 T.uint8 [(.int .u8 0)] 1 [(0, t37)] h23) fun t38 h24 =>
Yq (app T.uint8 1 1 a0 (Wi 1 t38 h24) h24) fun t39 h25 =>
Yq (app T.uint8 1 1 t39 (Wi 1 t32 h25) h25) fun t41 h26 =>
k4 .ret [(4, t41)] h26) (fun k4 =>
k4 .normal [(0, a0), (3, t3)] h16) (Ys (fun tT h27 =>
Yb (fad 2 (get tT 3)) h27 fun t42 h28 =>
Yb (ld1 h28 t42) h28 fun t43 h29 =>
Yb (Yh P .add T.int (.tmp 43) (.const (.int .i64 1)) t43 (.int .i64 1)) h29 fun t44 h30 =>
Yb (xun P .neg t44) h30 fun t45 h31 =>
Yq (YR P T.int T.uint64 t45 h31) fun t46 h32 =>
Yg C F.rows_digits [t46] h32 fun t47 h33 =>
Yb (lenS t47) h33 fun t49 h34 =>
ms (fun k5 =>
L0 (get tT 0) t47 t49 (.int .i64 0) h34 (YB [0, 7] 1 k5)) (Ys (fun tT_1 h35 =>
Yb (lenS (get tT_1 7)) h35 fun t64 h36 =>
Yb (Yh P .sub T.int (.const (.int .i64 127)) (.tmp 64) (.int .i64 127) t64) h36 fun t65 h37 =>
Yq (YR P T.int T.uint8 t65 h37) fun t66 h38 =>
Yq (V2 T.uint8 [(.int .u8 0)] 1 [(0, t66)] h38) fun t67 h39 =>
Yq (app T.uint8 1 1 (get tT_1 0) (Wi 1 t67 h39) h39) fun t68 h40 =>
Yq (app T.uint8 1 1 t68 (Wi 1 (get tT_1 7) h40) h40) fun t70 h41 =>
k3 .ret [(4, t70)] h41) (Yn [0, 3] k3))) (Yn [0, 3] k3))) (fun k3 =>
Yb (Yh P .eql T.api_CellKind (.tmp 10) (.const (.int .i64 3)) t10 (.int .i64 3)) h13 fun t72 h42 =>
mc t72 (fun k6 => Yb (fad 3 t3) h42 fun t74 h43 =>
Yb (ld1 h43 t74) h43 fun t75 h44 =>
Yg C F.strings_ReplaceAll [t75, (.string (mk [0])), (.string (mk [0, 255]))] h44 fun t76 h45 =>
Yq (app T.uint8 1 1 a0 (srcT t76) h45) fun t77 h46 =>
Yq (V2 T.uint8 [(.int .u8 0)] 2 [(0, (.int .u8 0)), (1, (.int .u8 1))] h46) fun t78 h47 =>
Yq (app T.uint8 1 1 t77 (Wi 1 t78 h47) h47) fun t79 h48 =>
k6 .ret [(4, t79)] h48) (fun k6 =>
k6 .normal [(0, a0), (3, t3)] h42) (Yn [0, 3] k3)) (Yn [0, 3] k2)) (YB [0, 3] 0 k1)) (Ys (fun tT_2 h49 =>
Yb (fad 4 (get tT_2 3)) h49 fun t80 h50 =>
Yb (ld1 h50 t80) h50 fun t81 h51 =>
mc t81 (fun k7 => Yq (V2 T.uint8 [(.int .u8 0)] 1 [(0, (.int .u8 1))] h51) fun t83 h52 =>
Yq (app T.uint8 1 1 (get tT_2 0) (Wi 1 t83 h52) h52) fun t84 h53 =>
k7 .ret [(4, t84)] h53) (fun k7 =>
k7 .normal [(0, (get tT_2 0))] h51) (Ys (fun tT_3 h54 =>
Yq (V2 T.uint8 [(.int .u8 0)] 1 [(0, (.int .u8 0))] h54) fun t86 h55 =>
Yq (app T.uint8 1 1 (get tT_3 0) (Wi 1 t86 h55) h55) fun t87 h56 =>
K0 .ret [(4, t87)] h56) K0)) K0)
noncomputable def Qs (mg : GT) (mc : CT) (ms : ST) (P : Program) (C : Yc) (L0 : Value → Value → Value → Value → AHeap → K → Res) (v0 v7 v49 v50 : Value) (H : AHeap) (k : K) : Res :=
Yb (Yh P .lss T.int (.tmp 50) (.tmp 49) v50 v49) H fun t51 h35 =>
mc t51 (fun k6 => k6 .normal [(0, v0), (7, v7), (49, v49), (50, v50)] h35) (fun k6 =>
k6 (.exit 1) [(51, t51), (0, v0), (7, v7), (49, v49), (50, v50)] h35) (Ys (fun tT h36 =>
ms (fun k7 =>
Yb (ixS 1 (get tT 7) (get tT 50)) h36 fun t57 h37 =>
Yb (ld1 h37 t57) h37 fun t58 h38 =>
Yb (Yh P .sub T.uint8 (.const (.int .u8 255)) (.tmp 58) (.int .u8 255) t58) h38 fun t59 h39 =>
Yb (ixS 1 (get tT 7) (get tT 50)) h39 fun t60 h40 =>
Yt (st1 h40 t60 t59) fun _ h41 =>
k7 .normal [(0, (get tT 0)), (7, (get tT 7)), (49, (get tT 49)), (50, (get tT 50))] h41) (Ys (fun tT_1 h42 =>
Yb (Yh P .add T.int (.tmp 50) (.const (.int .i64 1)) (get tT_1 50) (.int .i64 1)) h42 fun t61 h43 =>
k .normal [(0, (get tT_1 0)), (7, (get tT_1 7)), (49, (get tT_1 49)), (50, t61)] h43) (Yn [0, 7, 49, 50] k))) (Yn [0, 7, 49, 50] k))
theorem s_rows_put_eq (M : CombL) (C : Yc) (LP : Yx) (a0 a1 : Value) (H : AHeap) : Yw M Tryz.prog hints C LP F.rows_put [a0, a1] H = Vb M.b.g M.c M.s Tryz.prog C (fun v0 v7 v49 v50 H k => Yv M Tryz.prog hints C LP F.rows_put 0 [(0, v0), (7, v7), (49, v49), (50, v50)] H k) a0 a1 H (Yj Tryz.prog [.tmp 4]) := by kernel_rfl
theorem s_rows_put_b0_eq (M : CombL) (C : Yc) (LP : Yx) (v0 v7 v49 v50 : Value) (H : AHeap) (k : K) : W3 M Tryz.prog hints C LP F.rows_put 0 [(0, v0), (7, v7), (49, v49), (50, v50)] H (Yn [0, 7, 49, 50] k) = Qs M.b.g M.c M.s Tryz.prog C (fun v0 v7 v49 v50 H k => Yv M Tryz.prog hints C LP F.rows_put 0 [(0, v0), (7, v7), (49, v49), (50, v50)] H k) v0 v7 v49 v50 H k := by kernel_rfl
noncomputable def Y9 (mg : GT) (mc : CT) (ms : ST) (P : Program) (C : Yc) (a0 a1 : Value) (H : AHeap) (K0 : K) : Res :=
Yg C F.slices_IndexFunc_string [a0, a1] H fun t7 h1 =>
Yb (Yh P .geq T.int (.tmp 7) (.const (.int .i64 0)) t7 (.int .i64 0)) h1 fun t8 h2 =>
K0 .ret [(4, t8)] h2
theorem Qd (M : CombL) (C : Yc) (LP : Yx) (a0 a1 : Value) (H : AHeap) : Yw M Tryz.prog hints C LP F.slices_ContainsFunc_string [a0, a1] H = Y9 M.b.g M.c M.s Tryz.prog C a0 a1 H (Yj Tryz.prog [.tmp 4]) := by kernel_rfl
noncomputable def VD (mg : GT) (mc : CT) (ms : ST) (P : Program) (C : Yc) (a0 : Value) (H : AHeap) (K0 : K) : Res :=
Yb (lenT a0) H fun t4 h1 =>
Yb (Yh P .gtr T.int (.tmp 4) (.const (.int .i64 40)) t4 (.int .i64 40)) h1 fun t5 h2 =>
K0 .ret [(2, t5)] h2
theorem s_model_check_1_eq (M : CombL) (C : Yc) (LP : Yx) (a0 : Value) (H : AHeap) : Yw M Tryz.prog hints C LP F.model_check_1 [a0] H = VD M.b.g M.c M.s Tryz.prog C a0 H (Yj Tryz.prog [.tmp 2]) := by kernel_rfl
noncomputable def W4 (mg : GT) (mc : CT) (ms : ST) (P : Program) (C : Yc) (a0 a1 : Value) (H : AHeap) (K0 : K) : Res :=
Yg C F.internal_bytealg_CompareString [a0, a1] H fun t7 h1 =>
K0 .ret [(4, t7)] h1
theorem s_strings_Compare_eq (M : CombL) (C : Yc) (LP : Yx) (a0 a1 : Value) (H : AHeap) : Yw M Tryz.prog hints C LP F.strings_Compare [a0, a1] H = W4 M.b.g M.c M.s Tryz.prog C a0 a1 H (Yj Tryz.prog [.tmp 4]) := by kernel_rfl
noncomputable def Vc (mg : GT) (mc : CT) (ms : ST) (P : Program) (C : Yc) (L0 : Value → Value → Value → Value → Value → Value → Value → AHeap → K → Res) (a0 a1 a2 : Value) (H : AHeap) (K0 : K) : Res :=
Yb (Yh P .gtr T.int (.tmp 12) (.const (.int .i64 8)) a1 (.int .i64 8)) H fun t13 h1 =>
mg t13 false (fun o1 => o1 a1 h1) h1 fun t15 h2 =>
mg t13 false (fun o2 => o2 a0 h2) h2 fun t16 h3 =>
mg t13 false (fun o3 => Yb (lenT t16) h3 o3) h3 fun t17 h4 =>
mg t13 false (fun o4 => Yb (Yh P .gtr T.int (.tmp 15) (.tmp 17) t15 t17) h4 o4) h4 fun t18 h5 =>
YG t13 (.bool true) t18 fun t19 =>
mc t19 (fun k5 => k5 .ret [(6, (.int .u64 0)), (7, (.string (mk []))), (8, (.bool false))] h5) (fun k5 =>
k5 .normal [(0, a0), (1, a1), (2, a2)] h5) (Ys (fun tT h6 =>
Yb (slT (get tT 0) none (some (get tT 1))) h6 fun t22 h7 =>
Yq (YR P T.string T.sl_uint8 t22 h7) fun t23 h8 =>
Yb (lenS t23) h8 fun t24 h9 =>
ms (fun k6 =>
L0 (get tT 0) (get tT 1) (get tT 2) (.int .u64 0) t23 t24 (.int .i64 0) h9 (YB [0, 1, 9] 0 k6)) (Ys (fun tT_1 h10 =>
Yb (slT (get tT_1 0) (some (get tT_1 1)) none) h10 fun t41 h11 =>
YX true <|
K0 .ret [(6, (get tT_1 9)), (7, t41), (8, (.bool true))] h11) K0)) K0)
noncomputable def Vi (mg : GT) (mc : CT) (ms : ST) (P : Program) (C : Yc) (L0 : Value → Value → Value → Value → Value → Value → Value → AHeap → K → Res) (v0 v1 v2 v9 v23 v24 v25 : Value) (H : AHeap) (k : K) : Res :=
Yb (Yh P .lss T.int (.tmp 25) (.tmp 24) v25 v24) H fun t26 h10 =>
mc t26 (fun k7 => k7 .normal [(0, v0), (1, v1), (2, v2), (9, v9), (23, v23), (24, v24), (25, v25)] h10) (fun k7 =>
k7 (.exit 0) [(26, t26), (0, v0), (1, v1), (2, v2), (9, v9), (23, v23), (24, v24), (25, v25)] h10) (Ys (fun tT h11 =>
ms (fun k8 =>
Yb (ixS 1 (get tT 23) (get tT 25)) h11 fun t27 h12 =>
Yb (ld1 h12 t27) h12 fun t28 h13 =>
mc (get tT 2) (fun k9 => Yb (Yh P .sub T.uint8 (.const (.int .u8 255)) (.tmp 30) (.int .u8 255) t28) h13 fun t31 h14 =>
k9 .normal [(0, (get tT 0)), (1, (get tT 1)), (2, (get tT 2)), (9, (get tT 9)), (11, t31), (23, (get tT 23)), (24, (get tT 24)), (25, (get tT 25))] h14) (fun k9 =>
k9 .normal [(0, (get tT 0)), (1, (get tT 1)), (2, (get tT 2)), (9, (get tT 9)), (11, t28), (23, (get tT 23)), (24, (get tT 24)), (25, (get tT 25))] h13) (Ys (fun tT_1 h15 =>
Yb (Yh P .shl T.uint64 (.tmp 32) (.const (.int .u64 8)) (get tT_1 9) (.int .u64 8)) h15 fun t33 h16 =>
Yq (YR P T.uint8 T.uint64 (get tT_1 11) h16) fun t35 h17 =>
Yb (Yh P .or T.uint64 (.tmp 33) (.tmp 35) t33 t35) h17 fun t36 h18 =>
k8 .normal [(0, (get tT_1 0)), (1, (get tT_1 1)), (2, (get tT_1 2)), (9, t36), (23, (get tT_1 23)), (24, (get tT_1 24)), (25, (get tT_1 25))] h18) (YB [0, 1, 2, 9, 23, 24, 25] 1 k8))) (Ys (fun tT_2 h19 =>
Yb (Yh P .add T.int (.tmp 25) (.const (.int .i64 1)) (get tT_2 25) (.int .i64 1)) h19 fun t37 h20 =>
k .normal [(0, (get tT_2 0)), (1, (get tT_2 1)), (2, (get tT_2 2)), (9, (get tT_2 9)), (23, (get tT_2 23)), (24, (get tT_2 24)), (25, t37)] h20) (Yn [0, 1, 2, 9, 23, 24, 25] k))) (Yn [0, 1, 2, 9, 23, 24, 25] k))
theorem s_rows_number_eq (M : CombL) (C : Yc) (LP : Yx) (a0 a1 a2 : Value) (H : AHeap) : Yw M Tryz.prog hints C LP F.rows_number [a0, a1, a2] H = Vc M.b.g M.c M.s Tryz.prog C (fun v0 v1 v2 v9 v23 v24 v25 H k => Yv M Tryz.prog hints C LP F.rows_number 0 [(0, v0), (1, v1), (2, v2), (9, v9), (23, v23), (24, v24), (25, v25)] H k) a0 a1 a2 H (Yj Tryz.prog [.tmp 6, .tmp 7, .tmp 8]) := by kernel_rfl
theorem s_rows_number_b0_eq (M : CombL) (C : Yc) (LP : Yx) (v0 v1 v2 v9 v23 v24 v25 : Value) (H : AHeap) (k : K) : W3 M Tryz.prog hints C LP F.rows_number 0 [(0, v0), (1, v1), (2, v2), (9, v9), (23, v23), (24, v24), (25, v25)] H (Yn [0, 1, 2, 9, 23, 24, 25] k) = Vi M.b.g M.c M.s Tryz.prog C (fun v0 v1 v2 v9 v23 v24 v25 H k => Yv M Tryz.prog hints C LP F.rows_number 0 [(0, v0), (1, v1), (2, v2), (9, v9), (23, v23), (24, v24), (25, v25)] H k) v0 v1 v2 v9 v23 v24 v25 H k := by kernel_rfl
noncomputable def Y1 (mg : GT) (mc : CT) (ms : ST) (P : Program) (C : Yc) (L0 : Value → Value → Value → Value → AHeap → K → Res) (a0 a1 : Value) (H : AHeap) (K0 : K) : Res :=
Yb (lenS a0) H fun t7 h1 =>
ms (fun k1 =>
L0 a0 a1 t7 (.int .i64 0) h1 (YB [] 0 k1)) (Ys (fun tT h2 =>
K0 .ret [(4, (.int .i64 (-1)))] h2) K0)
noncomputable def YV (mg : GT) (mc : CT) (ms : ST) (P : Program) (C : Yc) (L0 : Value → Value → Value → Value → AHeap → K → Res) (v0 v1 v7 v8 : Value) (H : AHeap) (k : K) : Res :=
Yb (Yh P .lss T.int (.tmp 8) (.tmp 7) v8 v7) H fun t9 h2 =>
mc t9 (fun k2 => k2 .normal [(0, v0), (1, v1), (7, v7), (8, v8)] h2) (fun k2 =>
k2 (.exit 0) [(9, t9), (0, v0), (1, v1), (7, v7), (8, v8)] h2) (Ys (fun tT h3 =>
ms (fun k3 =>
Yb (ixS 1 (get tT 0) (get tT 8)) h3 fun t14 h4 =>
Yb (ld1 h4 t14) h4 fun t15 h5 =>
UL P C (get tT 1) [t15] h5 fun t16 h6 =>
mc t16 (fun k4 => k4 .ret [(4, (get tT 8))] h6) (fun k4 =>
k4 .normal [(0, (get tT 0)), (1, (get tT 1)), (7, (get tT 7)), (8, (get tT 8))] h6) (YB [0, 1, 7, 8] 1 k3)) (Ys (fun tT_1 h7 =>
Yb (Yh P .add T.int (.tmp 8) (.const (.int .i64 1)) (get tT_1 8) (.int .i64 1)) h7 fun t18 h8 =>
k .normal [(0, (get tT_1 0)), (1, (get tT_1 1)), (7, (get tT_1 7)), (8, t18)] h8) (Yn [0, 1, 7, 8] k))) (Yn [0, 1, 7, 8] k))
theorem Qm (M : CombL) (C : Yc) (LP : Yx) (a0 a1 : Value) (H : AHeap) : Yw M Tryz.prog hints C LP F.slices_IndexFunc_CellKind [a0, a1] H = Y1 M.b.g M.c M.s Tryz.prog C (fun v0 v1 v7 v8 H k => Yv M Tryz.prog hints C LP F.slices_IndexFunc_CellKind 0 [(0, v0), (1, v1), (7, v7), (8, v8)] H k) a0 a1 H (Yj Tryz.prog [.tmp 4]) := by kernel_rfl
theorem UR (M : CombL) (C : Yc) (LP : Yx) (v0 v1 v7 v8 : Value) (H : AHeap) (k : K) : W3 M Tryz.prog hints C LP F.slices_IndexFunc_CellKind 0 [(0, v0), (1, v1), (7, v7), (8, v8)] H (Yn [0, 1, 7, 8] k) = YV M.b.g M.c M.s Tryz.prog C (fun v0 v1 v7 v8 H k => Yv M Tryz.prog hints C LP F.slices_IndexFunc_CellKind 0 [(0, v0), (1, v1), (7, v7), (8, v8)] H k) v0 v1 v7 v8 H k := by kernel_rfl
noncomputable def VK (mg : GT) (mc : CT) (ms : ST) (P : Program) (C : Yc) (L0 : Value → Value → AHeap → K → Res) (a0 : Value) (H : AHeap) (K0 : K) : Res :=
ms (fun k1 =>
L0 a0 (.slice none 0 0) H (YB [3] 0 k1)) (Ys (fun tT h1 =>
Yg C F.slices_Reverse_byte [(get tT 3)] h1 fun t14 h2 =>
K0 .ret [(2, (get tT 3))] h2) K0)
noncomputable def Vf (mg : GT) (mc : CT) (ms : ST) (P : Program) (C : Yc) (L0 : Value → Value → AHeap → K → Res) (v0 v3 : Value) (H : AHeap) (k : K) : Res :=
Yb (Yh P .gtr T.uint64 (.tmp 4) (.const (.int .u64 0)) v0 (.int .u64 0)) H fun t5 h1 =>
mc t5 (fun k2 => k2 .normal [(0, v0), (3, v3)] h1) (fun k2 =>
k2 (.exit 0) [(5, t5), (4, v0), (0, v0), (3, v3)] h1) (Ys (fun tT h2 =>
ms (fun k3 =>
Yq (YR P T.uint64 T.uint8 (get tT 0) h2) fun t10 h3 =>
Yq (V2 T.uint8 [(.int .u8 0)] 1 [(0, t10)] h3) fun t11 h4 =>
Yq (app T.uint8 1 1 (get tT 3) (Wi 1 t11 h4) h4) fun t12 h5 =>
k3 .normal [(0, (get tT 0)), (3, t12)] h5) (Ys (fun tT_1 h6 =>
Yb (Yh P .shr T.uint64 (.tmp 6) (.const (.int .u64 8)) (get tT_1 0) (.int .u64 8)) h6 fun t7 h7 =>
k .normal [(0, t7), (3, (get tT_1 3))] h7) (Yn [0, 3] k))) (Yn [0, 3] k))
theorem s_rows_digits_eq (M : CombL) (C : Yc) (LP : Yx) (a0 : Value) (H : AHeap) : Yw M Tryz.prog hints C LP F.rows_digits [a0] H = VK M.b.g M.c M.s Tryz.prog C (fun v0 v3 H k => Yv M Tryz.prog hints C LP F.rows_digits 0 [(0, v0), (3, v3)] H k) a0 H (Yj Tryz.prog [.tmp 2]) := by kernel_rfl
theorem s_rows_digits_b0_eq (M : CombL) (C : Yc) (LP : Yx) (v0 v3 : Value) (H : AHeap) (k : K) : W3 M Tryz.prog hints C LP F.rows_digits 0 [(0, v0), (3, v3)] H (Yn [0, 3] k) = Vf M.b.g M.c M.s Tryz.prog C (fun v0 v3 H k => Yv M Tryz.prog hints C LP F.rows_digits 0 [(0, v0), (3, v3)] H k) v0 v3 H k := by kernel_rfl
noncomputable def Xl (mg : GT) (mc : CT) (ms : ST) (P : Program) (C : Yc) (L0 : Value → Value → Value → Value → AHeap → K → Res) (a0 a1 : Value) (H : AHeap) (K0 : K) : Res :=
Yb (lenS a0) H fun t7 h1 =>
ms (fun k1 =>
L0 a0 a1 t7 (.int .i64 0) h1 (YB [] 0 k1)) (Ys (fun tT h2 =>
K0 .ret [(4, (.int .i64 (-1)))] h2) K0)
noncomputable def Xa (mg : GT) (mc : CT) (ms : ST) (P : Program) (C : Yc) (L0 : Value → Value → Value → Value → AHeap → K → Res) (v0 v1 v7 v8 : Value) (H : AHeap) (k : K) : Res :=
Yb (Yh P .lss T.int (.tmp 8) (.tmp 7) v8 v7) H fun t9 h2 =>
mc t9 (fun k2 => k2 .normal [(0, v0), (1, v1), (7, v7), (8, v8)] h2) (fun k2 =>
k2 (.exit 0) [(9, t9), (0, v0), (1, v1), (7, v7), (8, v8)] h2) (Ys (fun tT h3 =>
ms (fun k3 =>
Yb (ixS 1 (get tT 0) (get tT 8)) h3 fun t14 h4 =>
Yb (ld1 h4 t14) h4 fun t15 h5 =>
UL P C (get tT 1) [t15] h5 fun t16 h6 =>
mc t16 (fun k4 => k4 .ret [(4, (get tT 8))] h6) (fun k4 =>
k4 .normal [(0, (get tT 0)), (1, (get tT 1)), (7, (get tT 7)), (8, (get tT 8))] h6) (YB [0, 1, 7, 8] 1 k3)) (Ys (fun tT_1 h7 =>
Yb (Yh P .add T.int (.tmp 8) (.const (.int .i64 1)) (get tT_1 8) (.int .i64 1)) h7 fun t18 h8 =>
k .normal [(0, (get tT_1 0)), (1, (get tT_1 1)), (7, (get tT_1 7)), (8, t18)] h8) (Yn [0, 1, 7, 8] k))) (Yn [0, 1, 7, 8] k))
theorem QN (M : CombL) (C : Yc) (LP : Yx) (a0 a1 : Value) (H : AHeap) : Yw M Tryz.prog hints C LP F.slices_IndexFunc_string [a0, a1] H = Xl M.b.g M.c M.s Tryz.prog C (fun v0 v1 v7 v8 H k => Yv M Tryz.prog hints C LP F.slices_IndexFunc_string 0 [(0, v0), (1, v1), (7, v7), (8, v8)] H k) a0 a1 H (Yj Tryz.prog [.tmp 4]) := by kernel_rfl
theorem Qe (M : CombL) (C : Yc) (LP : Yx) (v0 v1 v7 v8 : Value) (H : AHeap) (k : K) : W3 M Tryz.prog hints C LP F.slices_IndexFunc_string 0 [(0, v0), (1, v1), (7, v7), (8, v8)] H (Yn [0, 1, 7, 8] k) = Xa M.b.g M.c M.s Tryz.prog C (fun v0 v1 v7 v8 H k => Yv M Tryz.prog hints C LP F.slices_IndexFunc_string 0 [(0, v0), (1, v1), (7, v7), (8, v8)] H k) v0 v1 v7 v8 H k := by kernel_rfl
noncomputable def YY (mg : GT) (mc : CT) (ms : ST) (P : Program) (C : Yc) (a0 a1 : Value) (H : AHeap) (K0 : K) : Res :=
Yb (xext P Tryz.f91 [a0, a1] H) H fun t7 h1 =>
K0 .ret [(4, t7)] h1
theorem Us (M : CombL) (C : Yc) (LP : Yx) (a0 a1 : Value) (H : AHeap) : Yw M Tryz.prog hints C LP F.internal_bytealg_CompareString [a0, a1] H = YY M.b.g M.c M.s Tryz.prog C a0 a1 H (Yj Tryz.prog [.tmp 4]) := by kernel_rfl
noncomputable def Xu (mg : GT) (mc : CT) (ms : ST) (P : Program) (C : Yc) (L0 : Value → Value → Value → AHeap → K → Res) (a0 : Value) (H : AHeap) (K0 : K) : Res :=
Yb (lenS a0) H fun t5 h1 =>
Yb (Yh P .sub T.int (.tmp 5) (.const (.int .i64 1)) t5 (.int .i64 1)) h1 fun t6 h2 =>
ms (fun k1 =>
L0 a0 (.int .i64 0) t6 h2 (YB [] 0 k1)) K0
noncomputable def Xx (mg : GT) (mc : CT) (ms : ST) (P : Program) (C : Yc) (L0 : Value → Value → Value → AHeap → K → Res) (v0 v2 v3 : Value) (H : AHeap) (k : K) : Res :=
Yb (Yh P .lss T.int (.tmp 7) (.tmp 8) v2 v3) H fun t9 h3 =>
mc t9 (fun k2 => k2 .normal [(0, v0), (2, v2), (3, v3)] h3) (fun k2 =>
k2 (.exit 0) [(9, t9), (8, v3), (7, v2), (0, v0), (2, v2), (3, v3)] h3) (Ys (fun tT h4 =>
ms (fun k3 =>
Yb (ixS 1 (get tT 0) (get tT 3)) h4 fun t20 h5 =>
Yb (ld1 h5 t20) h5 fun t21 h6 =>
Yb (ixS 1 (get tT 0) (get tT 2)) h6 fun t24 h7 =>
Yb (ld1 h7 t24) h7 fun t25 h8 =>
Yb (ixS 1 (get tT 0) (get tT 2)) h8 fun t26 h9 =>
Yt (st1 h9 t26 t21) fun _ h10 =>
Yb (ixS 1 (get tT 0) (get tT 3)) h10 fun t27 h11 =>
Yt (st1 h11 t27 t25) fun _ h12 =>
YX (okV (some true) none h9 h10 h4 h4 && (okV (some true) none h9 h10 h4 h4 && true)) <|
k3 .normal [(0, (get tT 0)), (2, (get tT 2)), (3, (get tT 3))] h12) (Ys (fun tT_1 h13 =>
Yb (Yh P .add T.int (.tmp 10) (.const (.int .i64 1)) (get tT_1 2) (.int .i64 1)) h13 fun t11 h14 =>
Yb (Yh P .sub T.int (.tmp 12) (.const (.int .i64 1)) (get tT_1 3) (.int .i64 1)) h14 fun t13 h15 =>
k .normal [(0, (get tT_1 0)), (2, t11), (3, t13)] h15) (Yn [0, 2, 3] k))) (Yn [0, 2, 3] k))
theorem ZJ (M : CombL) (C : Yc) (LP : Yx) (a0 : Value) (H : AHeap) : Yw M Tryz.prog hints C LP F.slices_Reverse_byte [a0] H = Xu M.b.g M.c M.s Tryz.prog C (fun v0 v2 v3 H k => Yv M Tryz.prog hints C LP F.slices_Reverse_byte 0 [(0, v0), (2, v2), (3, v3)] H k) a0 H (Yj Tryz.prog []) := by kernel_rfl
theorem Q6 (M : CombL) (C : Yc) (LP : Yx) (v0 v2 v3 : Value) (H : AHeap) (k : K) : W3 M Tryz.prog hints C LP F.slices_Reverse_byte 0 [(0, v0), (2, v2), (3, v3)] H (Yn [0, 2, 3] k) = Xx M.b.g M.c M.s Tryz.prog C (fun v0 v2 v3 H k => Yv M Tryz.prog hints C LP F.slices_Reverse_byte 0 [(0, v0), (2, v2), (3, v3)] H k) v0 v2 v3 H k := by kernel_rfl
end Go.Proofs.YtmiinbhnfojnbaaGreatDoor
