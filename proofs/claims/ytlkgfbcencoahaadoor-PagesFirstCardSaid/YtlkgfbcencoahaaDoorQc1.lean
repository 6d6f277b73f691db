/-
  4 texts in one (merge.py): Wb Hints Known Names.
  Conditions: none. By an AI agent.
-/
import Derived.Test.YtlkgfbcencoahaaDoorQb1
import Derived.Test.YtlkgfbcencoahaaDoorQa3
import Derived.Test.YtlkgfbcencoahaaDoorChecked
import Derived.KernelRfl

/-
  Chapter 44: pages.hexed, strings.Split and strconv.toError as prims.
  Conditions: none. By an AI agent.
-/
set_option linter.unusedSimpArgs false
set_option linter.unusedVariables false
namespace Go.Proofs.YtlkgfbcencoahaaDoor
open Go Eng

def hexV : List Value → AHeap → Res := fun xs H => match xs with
  | [.string s] => if s.size ≤ 1000000 then some (.string (mk (hexB (bl s))), H) else none
  | _ => none
def spS (s sep : ByteArray) : List ByteArray := Lib.splitB sep 0 (Lib.countB s sep) s
def splV : List Value → AHeap → Res := fun xs H => match xs with
  | [.string s, .string sep] => if s.size ≤ 1000000 ∧ 1 ≤ sep.size then some (.slice (some ⟨H.n, 0, none⟩) (Lib.countB s sep + 1) (2 * (Lib.countB s sep + 1)), H.push (.cells ((spS s sep).map Value.string) 9 true)) else none
  | _ => none
def errV : List Value → AHeap → Res := fun xs H => match xs with
  | [.string _, .string s, .int .i64 _, .int .i64 _, .iface t (.int .i64 2)] => if s.size ≤ 1000000 ∧ t = 108 then some (.iface 110 (.chan none), H) else none
  | _ => none

theorem rvs_cons {ι : Emb} {v : Value} {xs args' : List Value} (h : RVs ι (v :: xs) args') : ∃ v' r, args' = v' :: r ∧ RV ι v v' ∧ RVs ι xs r := by
  cases h with
  | cons a b => exact ⟨_, _, rfl, a, b⟩
theorem rvs_str {ι : Emb} {s : ByteArray} {xs : List Value} {args' : List Value} (h : RVs ι (.string s :: xs) args') : ∃ r, args' = .string s :: r ∧ RVs ι xs r := by
  cases h with
  | cons a b => cases a; exact ⟨_, rfl, b⟩
theorem rvs_int {ι : Emb} {q : IntKind} {n : Int} {xs : List Value} {args' : List Value} (h : RVs ι (.int q n :: xs) args') : ∃ r, args' = .int q n :: r ∧ RVs ι xs r := by
  cases h with
  | cons a b => cases a; exact ⟨_, rfl, b⟩
theorem rvs_nil {ι : Emb} {args' : List Value} (h : RVs ι [] args') : args' = [] := by cases h; rfl

theorem hex_prim : (CallAd fun _ args H => hexV args H) ∧ CallOK Tryd.prog fun g args H => if g = 52 then hexV args H else none := by
  constructor
  · intro _ args H v H' h hl _
    replace h : hexV args H = some (v, H') := h
    unfold hexV at h
    split at h
    · split at h
      · cases h; exact OkV.still hl (.str _)
      · cases h
    · cases h
  · intro k args H v H' h2 hl had B ι w args' r ha
    by_cases hg : k = 52
    · subst hg
      simp only [if_true] at h2
      unfold hexV at h2
      split at h2
      · split at h2
        · rename_i s hs
          cases h2
          obtain ⟨a', ea, hA⟩ := rvs_str ha; subst ea
          cases rvs_nil hA
          refine Calls.mono (hexed_walk s w hs) ?_
          rintro e w' ⟨rfl, hb⟩
          obtain ⟨h3, h4⟩ := below_rel r hb
          exact ⟨_, ι, rfl, .str _, h3, h4⟩
        · cases h2
      · cases h2
    · simp [hg] at h2

theorem err_prim (hgl : (1, GK.iface) ∈ globs) : (CallAd fun _ args H => errV args H) ∧ CallOK Tryd.prog fun g args H => if g = 62 then errV args H else none := by
  constructor
  · intro _ args H v H' h hl _
    replace h : errV args H = some (v, H') := h
    unfold errV at h
    split at h
    · split at h
      · cases h; exact OkV.still hl (.iface .unk)
      · cases h
    · cases h
  · intro k args H v H' h2 hl had B ι w args' r ha
    by_cases hg : k = 62
    · subst hg
      simp only [if_true] at h2
      unfold errV at h2
      split at h2
      · split at h2
        · rename_i fn s base bits t hs
          cases h2
          obtain ⟨a1, ea, hb1⟩ := rvs_str ha; subst ea
          obtain ⟨a2, ea, hb2⟩ := rvs_str hb1; subst ea
          obtain ⟨a3, ea, hb3⟩ := rvs_int hb2; subst ea
          obtain ⟨a4, ea, hb4⟩ := rvs_int hb3; subst ea
          obtain ⟨v5, a5, ea, h5, hb5⟩ := rvs_cons hb4; subst ea
          cases rvs_nil hb5
          cases h5 with
          | iface h5 =>
            cases h5
            obtain ⟨ev, hv, hev⟩ := r.glob.iface hgl
            obtain ⟨hs1, rfl⟩ := hs
            refine Calls.mono (Tryd.strconv_toError_syntax fn s base bits ev w (by omega) hv hev) ?_
            rintro e w' ⟨N, rfl, _, _, hb⟩
            obtain ⟨h3, h4⟩ := below_rel r hb
            exact ⟨_, ι, rfl, .iface (.unk _), h3, h4⟩
        · cases h2
      · cases h2
    · simp [hg] at h2

theorem spl_prim (hgl : (0, GK.int) ∈ globs) (hc : Tryd.prog.cellsOf 9 = 1) (ht : tailQ Tryd.prog 9 = 1) : (CallAd fun _ args H => splV args H) ∧ CallOK Tryd.prog fun g args H => if g = 40 then splV args H else none := by
  constructor
  · intro _ args H v H' h hl _
    replace h : splV args H = some (v, H') := h
    unfold splV at h
    split at h
    · split at h
      · cases h
        refine ⟨hl.row ?_, .sl (by simp), VO.push _ _⟩
        intro u hu
        obtain ⟨x, _, rfl⟩ := List.mem_map.1 hu
        exact .str x
      · cases h
    · cases h
  · intro k args H v H' h2 hl had B ι w args' r ha
    by_cases hg : k = 40
    · subst hg
      simp only [if_true] at h2
      unfold splV at h2
      split at h2
      · split at h2
        · rename_i s sep hs
          cases h2
          obtain ⟨a1, ea, hb1⟩ := rvs_str ha; subst ea
          obtain ⟨a2, ea, hb2⟩ := rvs_str hb1; subst ea
          cases rvs_nil hb2
          obtain ⟨m, hm⟩ := r.glob.int hgl
          have hlen : (spS s sep).length = Lib.countB s sep + 1 := Lib.splitB_all sep hs.2 0 _ s rfl
          refine Calls.mono (Tryd.strings_Split s sep m w (by omega) hm hs.2) ?_
          rintro e w' ⟨rfl, rfl⟩
          obtain ⟨L, hL⟩ : ∃ L : Eng.Loc, L = ⟨w.heap.size, 0, 1, Lib.countB s sep + 1⟩ := ⟨_, rfl⟩
          obtain ⟨h3, h4⟩ := r.push (.cells ((Lib.splitB sep 0 (Lib.countB s sep) s).map Value.string).toArray 9) (.cells ((spS s sep).map Value.string) 9 true) L (by rw [hL]) (by
            subst hL
            refine ⟨_, 9, (0, 0), push_heap w _, by simp [← hlen, spS], by simp [← hlen, spS], fun i v hv => ⟨v, ?_, ?_⟩, fun _ => ⟨r.base, rfl, hc.symm, fun j hj h => by simp at h⟩⟩
            · simpa [spS] using hv
            · rw [List.getElem?_map] at hv
              obtain ⟨x, _, rfl⟩ := Option.map_eq_some_iff.1 hv
              exact .str x)
          have hup : up ι H.n L H.n = some L := by simp [up]
          refine ⟨_, _, rfl, ?_, h3, h4⟩
          have := RV.sle (ι := up ι H.n L) (b := H.n) (o := 0) (n := Lib.countB s sep + 1) (c := Lib.countB s sep + 1) hup (Nat.le_refl _)
          rw [hL] at this ⊢
          exact this
        · cases h2
      · cases h2
    · simp [hg] at h2

theorem hex_primP : (CallAd fun _ args H => hexV args H) ∧ CallOK Tryd.prog fun g args H => if g = 52 then hexV args H else none := hex_prim
theorem err_primP : (CallAd fun _ args H => errV args H) ∧ CallOK Tryd.prog fun g args H => if g = 62 then errV args H else none := err_prim (by simp [globs])
theorem spl_primP : (CallAd fun _ args H => splV args H) ∧ CallOK Tryd.prog fun g args H => if g = 40 then splV args H else none := spl_prim (by simp [globs]) (by kernel_rfl) (by kernel_rfl)

end Go.Proofs.YtlkgfbcencoahaaDoor

/-
  The hints: which temporaries are asked for behind each if, block, loop head, return of each function (a program of ours printed it).
  Conditions: none. By an AI agent.
-/
namespace Go.Proofs.YtlkgfbcencoahaaDoor
open Go Eng

def hintList : List (List (List Nat)) := [
  [],
  [],
  [],
  [[0,1,2,3],[8],[1,2,3,9,10],[1,2,3,9,10],[1,2,3,9,10],[1,2,3,9,10],[1,2,3,9,10],[8],[1,2,3,9],[8],[1,2,3,9,12,13,14],[1,2,3,9,11,12,13,14],[1,2,3,9,11,12,13,14],[1,2,3,9,11,12,13,14],[8]],
  [[0,1,2,3,4,5,6],[14],[1,4,15,16],[],[4,15,62,63,64],[4,15,62,63,64],[4,15,62,63,64],[4,15,18,19,20,21,62,63,64],[14],[4,15,62,63,64],[4,15,62,63,64],[4,15,62,63,64],[14],[4,15,62,63,64],[4,15,62,63,64],[14],[4,15,62,63,64],[14],[14]],
  [[0,1],[4],[0,1,5],[4],[4]],
  [[0,1,2,3,4],[10],[0,1,2,3,4],[0,1,2,3,4,11],[0,1,2,3,4,11],[0,1,2,3,4,11],[0,1,2,3,4,11],[10],[],[1,2,3,4,12,13,14],[1,2,3,4,12,13,14],[1,2,3,4,12,13,14],[1,2,3,4,12,13,14,15,16],[10],[1,2,3,4,12,13,14,18,19,20],[1,2,3,4,12,13,14,15,16,18,19,20,21],[1,2,3,4,12,13,14,15,16,18,19,20,21],[1,2,3,4,12,13,14,15,16,18,19,20,21],[1,2,3,4,12,13,14,15,16,18,19,20,21],[1,2,3,4,12,13,14,15,16,18,19,20,21],[1,2,3,4,12,13,14,16,18,19,20,21],[10],[1,2,3,4,12,13,14,16,18,19,20,21],[1,2,3,4,12,13,14,16,18,19,20,21],[1,2,3,4,12,13,14,15,16,18,19,20,21],[10],[1,2,3,4,12,13,14,18,20],[10],[1,2,3,4,12,13,14],[1,2,3,4,12,13,14,18,20,22],[1,2,3,4,12,13,14,18,20,22],[1,2,3,4,12,13,14,18,20,22],[1,2,3,4,12,13,14,18,20,22,23],[1,2,3,4,12,13,14,18,20,22,23,24],[1,2,3,4,12,13,14,18,20,22,23,24],[1,2,3,4,12,13,14,18,20,22,23,24],[1,2,3,4,12,13,14,18,20,22,23,24],[1,2,3,4,12,13,14,18,20,22],[10],[10]],
  [[0],[0,3],[0,3],[0,3],[0,3],[2],[2]],
  [[1,2,3,4,5],[0],[1,2,3,4,5],[0],[0]],
  [[3],[0,3,4],[0,3,4],[0,3,4],[2]],
  [[14]],
  [[4,13],[12],[],[4,13,15],[4,13,15],[4,13,15],[4,13,15],[12],[12]],
  [[9],[1,2,3,9,10,11],[1,2,3,9,10,11],[1,2,3,9,10,11],[1,2,3,9,10,11],[8]],
  [[0,1,2],[6,7],[6,7]],
  [[5,6],[5,6,7],[5,6,7],[5,6,7],[4]],
  [[0,5],[0,5,6,7],[0,5,6,7],[0,5,6,7],[0,5,6,7],[0,5,6,7],[0,5,6,7],[0,5,6,7],[0,5,6,7],[2,3,4],[8,9],[2,3,4],[2,3,4]],
  [[8]],
  [[12]],
  [[0,1,2,3],[8,9,10],[0,1,2,3],[0,1,2,3],[8,9,10],[0,1,2,3],[8,9,10],[8,9,10]],
  [[0,1,6],[4,5],[4,5]],
  [[0,1,2,7,8],[6],[6]],
  [[0,1,2],[6,7,8],[0,2,10,11],[6,7,8],[6,7,8]],
  [[0,1],[4],[],[0,1,5],[0,1,5],[0,1,5],[0,1,5],[4],[4]],
  [[2]],
  [[0],[0,7,8,9],[0,7,8,9],[0,7,8,9],[0,4,5,7,8,9],[2,3],[0,7,8,9],[2,3],[0],[2,3],[2,3]],
  [[0,3,10,11],[8,9],[13],[0,3,10,11,13],[0,3,10,11,13],[0,3,10,11,13],[0,3,11,13],[0,3,10,11,13],[8,9],[8,9]],
  [[0],[2],[2]],
  [[3],[0,3,4],[0,3,4],[0,3,4],[0,3,4],[0,3,4,21,22,23],[0,3,4,21,22,23],[0,3,4,21,22,23],[0,3,4,21,22,23],[2]],
  [[],[],[2],[],[2],[2]],
  [[0,5],[2,3,4],[2,3],[2,3,4],[2,3,4]],
  [[],[],[4],[],[4],[4]],
  [[12],[1,2,3,4,12,16,17,18],[1,2,3,4,12,16,17,18],[1,2,3,4,12,16,17,18],[1,2,3,4,12,14,16,17,18],[1,2,3,4,12,14,16,17,18],[10,11],[10,11]],
  [[0,6],[0,6],[4,5],[0,6],[4,5],[4,5]],
  [[4,5]],
  [[0,1,2],[6],[6]],
  [[0,1,2],[6,7,8],[0,1],[6,7,8],[6,7,8]],
  [[],[],[],[8],[8]],
  [[],[],[4],[],[4],[4]],
  [[4]],
  [[0],[2],[2]],
  [[4]],
  [[3],[0,3,4],[0,3,4],[0,3,4],[2]],
  [[2]],
  [[4]],
  [[0,1,2,8,9],[0,1,2,8,9,10],[0,1,2,8,9,10],[0,1,2,8,9,10],[0,1,2,8,9,10],[6,7]],
  [[4]],
  [[0,1,2,7],[6],[0,1,2,7,8],[6],[0,1,2,7,8],[6],[0,1,2,7,8],[6],[6]],
  [[4]],
  [[2]],
  [[4]],
  [[0,1,2,3],[8],[0,1,2,3],[8],[0,1,2,3],[0,9,10],[0,1,2,3,9,10],[0,1,2,3,9,10],[0,1,2,3,9,10],[0,1,2,3,9,10,11],[8]],
  [[8],[6,7],[6,7]],
  [[3],[3,7,8,9],[3,7,8,9],[3,7,8,9],[2]],
  [[3],[3,7,8,9],[3,7,8,9],[3,7,8,9],[2]],
  [],
  [],
  [[],[0,1,7,8],[0,1,7,8],[0,1,7,8],[0,1,7,8],[4],[4]],
  [[4]],
  [[0,1],[0,1,6],[0,1,6,7],[0,1,6,7],[0,1,6,7],[6],[4]],
  [[0,1],[4],[0,1],[4],[4],[0,1,5],[0,1,5],[0,1,5,6],[4]],
  [[4]],
  [[0,1,2],[6,7],[0,1,2,8,9],[0,1,2,8,9],[0,1,2,8,9],[0,1,2,8,9],[0,1,2,8,9],[0,1,2,8,9],[0,1,2,8,9],[0,1,2,8,9],[6,7],[0,1,2,8,9],[0,1,2,8,9],[6,7],[0,1,2,8,9,10],[0,1,2,8,9,10],[0,1,2,8,9,10],[9,12,13],[1,8,9,10,11,12,13,99,100,101],[1,8,9,10,11,12,13,99,100,101],[1,8,9,10,11,12,13,99,100,101],[1,8,9,10,11,12,13,16,99,100,101],[1,8,9,10,11,12,13,16,99,100,101],[1,8,9,10,11,12,13,16,99,100,101],[1,8,9,10,11,12,13,16,99,100,101],[6,7],[1,8,9,10,11,12,13,16,99,100,101],[6,7],[1,8,9,10,11,12,13,16,99,100,101],[6,7],[1,8,9,10,11,12,17,99,100,101],[6,7],[13],[6,7],[6,7]],
  [[4],[4],[10],[4],[10],[4],[10],[4],[10],[10]],
  [[4]],
  [[2]],
  [],
  [],
  [[2],[2,4],[2,4],[2,4],[2]],
  [[2,3],[2,3],[2,3]],
  [],
  [[0,1,5],[0,1,5],[4],[0,1,5],[4],[0,1,5],[4],[0,1,5],[4],[],[0,1,5,6,7,8,9,10],[0,1,5,6,7,8,9,10],[0,1,5,6,7,8,9,10],[0,1,5,6,7,8,9,10],[0,1,5,6,7,8,9,10,11],[4],[0,1,5,6,7,8,9,10],[4],[0,1,5,6,7,8,9,10],[],[4],[4],[0,1,5,6,7,8,9,10],[8,13],[4],[4],[4]],
  [[2]],
  [[0,3,4],[0,3,4,5],[3],[0,3,4,5],[0,3,4,5],[0,3,4,5],[0,3,4,5],[0,3,4,5],[0,4,5],[2],[0,4,5],[2],[2]],
  [[4]],
  [[4]],
  [[6]],
  [[6]],
  [[],[]],
  [[],[0,2,3],[0,2,3],[0,2,3]],
  [[0,4],[2,3],[0,4,5,6],[2,3],[0,5,8,9],[2,3],[0,5,8,10],[2,3],[0,5,8,10],[2,3],[0,5,8,10,11],[2,3],[0,5,10,11],[2,3],[5,10,11,12],[2,3],[2,3]],
  [[4]],
  [],
  [[2]],
  [[0,1,5,6,7,8],[0,1,5,6,7,8,9],[0,1,5,6,7,8,9],[0,1,5,6,7,8,9],[0,1,5,6,7,8],[4],[],[0,1,5,6,7,8,10],[0,1,5,6,7,8,10],[0,1,5,6,7,8,10],[0,1,5,6,7,8,10],[4],[4]],
  [[0],[2],[2]],
  [[2]],
  [[2]],
  [],
  [],
  [[0,4],[0,4,5],[0,4,5],[0,4,5],[4,6],[4,6,7,8],[4,6,7,8],[4,6,7,8],[4,6,7,8],[2,3]],
  [[2]],
  [[0,1],[0],[4],[0,5,6],[5,7],[4],[4],[4]],
  [[0],[2],[2]],
  [[2]],
  [[0,1,4],[0,1,4],[0,1,4],[0,1,4],[0,4,12],[0,4,12],[]],
  [[0,1,2,3,4,10,11],[0,1,2,3,4,10,11,12,13],[0,3,4,10,11,12,13],[0,1,3,4,10,11,12,13],[0,1,3,4,10,11,12,13,14,15,16],[0,1,3,4,10,11,12,13,14,15,16],[0,1,3,4,10,11,12,13,14,15,16],[0,1,3,4,10,11,12,13],[0,1,3,4,10,11,12,13,17],[0,1,3,4,10,11,12,13,17],[0,1,3,4,10,11,12,13,17],[0,4,10,11,12,13],[10,12,13],[10,11],[10,11]],
  [[2]],
  [[0,2],[0,2],[0,2],[2]],
  [[],[2],[2]],
  [[2]],
  [[0],[2],[2]],
  [[0],[2],[2]],
  [[0],[2],[2]],
  [],
  [],
  [],
  [],
  [],
  [],
  [],
  [],
  [],
  [],
  [],
  [],
  [],
  [],
  [],
  [],
  [],
  [],
  [],
  [],
  [],
  [],
  [],
  [],
  [],
  [],
  [],
  [],
  [],
  [],
  []
]

def hints : Hints := fun f => (hintList[f]?).getD []

end Go.Proofs.YtlkgfbcencoahaaDoor

/-
  Chapter 44: slices.Insert as a Prim; known() returns true.
  Conditions: none. By an AI agent.
-/
namespace Go.Proofs.YtlkgfbcencoahaaDoor
open Go Eng

theorem mixed : Tryd.prog.follows .mixedOrders = true := by kernel_rfl

def zIns0 : List Value := [(.string (mk [])), (.string (mk []))]
theorem insOK0 : InsOK Tryd.prog hints 46 22 3 43 zIns0 54 55 where
  mixed := mixed
  body := fun C n a0 a1 a2 H => by kernel_rfl
  hS := Tryd.underlying22
  hI := Tryd.underlying3
  hz := by kernel_rfl
  hsz := by kernel_rfl
  ovl := ⟨Tryd.f54, by kernel_rfl, by decide, by kernel_rfl, by kernel_rfl, by kernel_rfl, by kernel_rfl⟩

noncomputable def prims0 : Prims := fun f => if f = 46 then some (insP Tryd.prog hints 46 43 zIns0) else if f = 40 then some splV else if f = 62 then some errV else if f = 52 then some hexV else none

theorem prims0_ok : PrimsOK Tryd.prog prims0 := by
  intro f p h
  unfold prims0 at h
  split at h
  · rename_i hf
    have e := Option.some.inj h
    subst hf
    rw [← e]
    exact ins_prim insOK0
  · skip
    split at h
    · rename_i hf
      have e := Option.some.inj h
      subst hf
      rw [← e]
      exact spl_primP
    · skip
      split at h
      · rename_i hf
        have e := Option.some.inj h
        subst hf
        rw [← e]
        exact err_primP
      · skip
        split at h
        · rename_i hf
          have e := Option.some.inj h
          subst hf
          rw [← e]
          exact hex_primP
        · skip
          cases h

set_option maxHeartbeats 0 in
theorem known_run : (dCallF Tryd.prog prims0 hints 60 8 [] H0).map (·.1) = some (.bool true) := by kernel_rfl

noncomputable def prims1 : Prims := fun f => if f = 8 then some trueP else prims0 f

theorem prims1_ok : PrimsOK Tryd.prog prims1 := by
  intro f p h
  unfold prims1 at h
  split at h
  · rename_i hf
    have e := Option.some.inj h
    subst hf
    rw [← e]
    exact true_primF prims0_ok mixed known_run
  · exact prims0_ok f p h

/-- What a call gives. -/
noncomputable def CC : CallF := D Tryd.prog prims1 hints

end Go.Proofs.YtlkgfbcencoahaaDoor

/-
  Names of the seat's functions and types (a program of ours printed it).
  Conditions: none. By an AI agent.
-/
namespace Go.Proofs.YtlkgfbcencoahaaDoor
open Go
def F.main_main : FuncId := 0
def F.gosem_cut : FuncId := 1
def F.gosem_cut_init : FuncId := 2
def F.law_PagesFirst : FuncId := 3
def F.law_PagesNext : FuncId := 4
def F.law_PagesMarks : FuncId := 5
def F.law_PagesHolds : FuncId := 6
def F.law_small : FuncId := 7
def F.law_known : FuncId := 8
def F.law_filled : FuncId := 9
def F.law_first : FuncId := 10
def F.law_alls : FuncId := 11
def F.law_in : FuncId := 12
def F.law_cut : FuncId := 13
def F.law_marked : FuncId := 14
def F.law_unmarked : FuncId := 15
def F.law_read : FuncId := 16
def F.law_next : FuncId := 17
def F.pages_First : FuncId := 18
def F.model_Model_Delete : FuncId := 19
def F.model_Model_Put : FuncId := 20
def F.pages_Next : FuncId := 21
def F.law_same : FuncId := 22
def F.law_pair : FuncId := 23
def F.model_Of : FuncId := 24
def F.pages_All : FuncId := 25
def F.model_Model_Pairs : FuncId := 26
def F.law_hexed : FuncId := 27
def F.law_digit : FuncId := 28
def F.pages_Read : FuncId := 29
def F.pages_allowed : FuncId := 30
def F.pages_page : FuncId := 31
def F.model_Model_Get : FuncId := 32
def F.model_Model_place : FuncId := 33
def F.slices_Delete_Pair : FuncId := 34
def F.model_Model_at : FuncId := 35
def F.model_Model_set : FuncId := 36
def F.model_check : FuncId := 37
def F.keys_Compare : FuncId := 38
def F.slices_Clone_Pair : FuncId := 39
def F.strings_Split : FuncId := 40
def F.pages_bytes : FuncId := 41
def F.keys_ValidKey : FuncId := 42
def F.pages_marked : FuncId := 43
def F.slices_BinarySearchFunc_string : FuncId := 44
def F.model_Model_place_1 : FuncId := 45
def F.slices_Insert_Pair : FuncId := 46
def F.slices_ContainsFunc_string : FuncId := 47
def F.model_check_1 : FuncId := 48
def F.strings_Compare : FuncId := 49
def F.strings_genSplit : FuncId := 50
def F.strconv_ParseUint : FuncId := 51
def F.pages_hexed : FuncId := 52
def F.pages_check : FuncId := 53
def F.slices_overlaps_Pair : FuncId := 54
def F.slices_rotateRight_Pair : FuncId := 55
def F.slices_IndexFunc_string : FuncId := 56
def F.internal_bytealg_CompareString : FuncId := 57
def F.strings_explode : FuncId := 58
def F.strings_Count : FuncId := 59
def F.strings_Index : FuncId := 60
def F.internal_strconv_ParseUint : FuncId := 61
def F.strconv_toError : FuncId := 62
def F.strings_Builder_WriteByte : FuncId := 63
def F.strings_Builder_String : FuncId := 64
def F.slices_rotateLeft_Pair : FuncId := 65
def F.internal_bytealg_abigen_runtime_cmpstring : FuncId := 66
def F.unicode_utf8_RuneCountInString : FuncId := 67
def F.unicode_utf8_DecodeRuneInString : FuncId := 68
def F.internal_bytealg_CountString : FuncId := 69
def F.internal_stringslite_Index : FuncId := 70
def F.internal_strconv_lower : FuncId := 71
def F.internal_strconv_underscoreOK : FuncId := 72
def F.strconv_syntaxError : FuncId := 73
def F.strconv_rangeError : FuncId := 74
def F.strconv_baseError : FuncId := 75
def F.strconv_bitSizeError : FuncId := 76
def F.strings_Builder_copyCheck : FuncId := 77
def F.slices_Reverse_Pair : FuncId := 78
def F.unicode_utf8_decodeRuneInStringSlow : FuncId := 79
def F.internal_stringslite_IndexByte : FuncId := 80
def F.internal_bytealg_IndexString : FuncId := 81
def F.internal_bytealg_Cutover : FuncId := 82
def F.internal_bytealg_IndexRabinKarp_string : FuncId := 83
def F.internal_stringslite_Clone : FuncId := 84
def F.errors_New : FuncId := 85
def F.strconv_Itoa : FuncId := 86
def F.internal_abi_NoEscape : FuncId := 87
def F.internal_bytealg_IndexByteString : FuncId := 88
def F.internal_bytealg_hashStr_string : FuncId := 89
def F.internal_strconv_Itoa : FuncId := 90
def F.internal_strconv_FormatInt : FuncId := 91
def F.internal_strconv_small : FuncId := 92
def F.internal_strconv_numDigits : FuncId := 93
def F.internal_strconv_formatBase10 : FuncId := 94
def F.internal_strconv_formatBits : FuncId := 95
def F.internal_strconv_log10Pow2 : FuncId := 96
def F.math_bits_Len64 : FuncId := 97
def F.internal_strconv_bool2_int : FuncId := 98
def F.internal_strconv_isPowerOfTwo : FuncId := 99
def F.math_bits_TrailingZeros : FuncId := 100
def F.math_bits_TrailingZeros32 : FuncId := 101
def F.math_bits_TrailingZeros64 : FuncId := 102
def F.runtime_boundsError_Error : FuncId := 103
def F.runtime_boundsError_RuntimeError : FuncId := 104
def F.runtime_errorString_Error : FuncId := 105
def F.runtime_errorString_RuntimeError : FuncId := 106
def F.runtime_plainError_Error : FuncId := 107
def F.runtime_plainError_RuntimeError : FuncId := 108
def F.runtime_errorAddressString_Error : FuncId := 109
def F.runtime_errorAddressString_RuntimeError : FuncId := 110
def F.runtime_TypeAssertionError_Error : FuncId := 111
def F.runtime_TypeAssertionError_RuntimeError : FuncId := 112
def F.runtime_PanicNilError_Error : FuncId := 113
def F.runtime_PanicNilError_RuntimeError : FuncId := 114
def F.internal_abi_Type_Align : FuncId := 115
def F.internal_runtime_maps_unhashableTypeError_Error : FuncId := 116
def F.internal_runtime_maps_unhashableTypeError_RuntimeError : FuncId := 117
def F.model_Model_Len : FuncId := 118
def F.strings_Builder_Reset : FuncId := 119
def F.internal_strconv_Error_Error : FuncId := 120
def F.strconv_NumError_Error : FuncId := 121
def F.errors_errorString_Error : FuncId := 122
def F.internal_abi_Kind_String : FuncId := 123
def F.var_s_door_gosem_cut_vars_holds_initialisers_alone_see_the_manifest_s_row_cutvarsword_look_11_test_files_too : FuncId := 124
def F.var_s_door_internal_strconv_uint64pow10_is_laid_by_its_own_initialiser_plain_data_look_11 : FuncId := 125
def F.var_s_door_math_bits_deBruijn32tab_is_laid_by_its_own_initialiser_plain_data_look_11 : FuncId := 126
def F.var_s_door_math_bits_deBruijn64tab_is_laid_by_its_own_initialiser_plain_data_look_11 : FuncId := 127
def F.var_s_door_strconv_ErrRange_is_laid_by_its_own_call_of_errors_New_on_one_literal_look_11 : FuncId := 128
def F.var_s_door_strconv_ErrSyntax_is_laid_by_its_own_call_of_errors_New_on_one_literal_look_11 : FuncId := 129
def F.var_s_door_the_look_of_gosem_cut_vars_went_over_the_folder_that_the_caller_named_as_the_repository_s_root_look_11 : FuncId := 130
def F.var_s_door_unicode_utf8_acceptRanges_is_laid_by_its_own_initialiser_plain_data_look_11 : FuncId := 131
def F.var_s_door_unicode_utf8_first_is_laid_by_its_text_alone_pinned_1 : FuncId := 132
def F.gosem_cut_vars : FuncId := 133
def T.tuple : TypeId := 0
def T.func : TypeId := 1
def T.int64 : TypeId := 2
def T.int : TypeId := 3
def T.bool : TypeId := 4
def T.uint8 : TypeId := 5
def T.internal_abi_BoundsErrorCode : TypeId := 6
def T.struct_x_int64_y_int_signed_bool_code_abi_BoundsErrorCode : TypeId := 7
def T.runtime_boundsError : TypeId := 8
def T.string : TypeId := 9
def T.runtime_errorString : TypeId := 10
def T.runtime_plainError : TypeId := 11
def T.uintptr : TypeId := 12
def T.struct_msg_string_addr_uintptr : TypeId := 13
def T.runtime_errorAddressString : TypeId := 14
def T.p_runtime_TypeAssertionError : TypeId := 15
def T.p_runtime_PanicNilError : TypeId := 16
def T.p_abi_Type : TypeId := 17
def T.struct_typ_abi_Type : TypeId := 18
def T.internal_runtime_maps_unhashableTypeError : TypeId := 19
def T.interface : TypeId := 20
def T.int32 : TypeId := 21
def T.sl_api_Pair : TypeId := 22
def T.func_1 : TypeId := 23
def T.func_2 : TypeId := 24
def T.p_model_Model : TypeId := 25
def T.func_3 : TypeId := 26
def T.func_4 : TypeId := 27
def T.func_5 : TypeId := 28
def T.func_6 : TypeId := 29
def T.tuple_1 : TypeId := 30
def T.func_7 : TypeId := 31
def T.sl_sl_api_Pair : TypeId := 32
def T.func_8 : TypeId := 33
def T.sl_uint8 : TypeId := 34
def T.func_9 : TypeId := 35
def T.sl_string : TypeId := 36
def T.tuple_2 : TypeId := 37
def T.func_10 : TypeId := 38
def T.func_11 : TypeId := 39
def T.func_12 : TypeId := 40
def T.func_13 : TypeId := 41
def T.struct_Key_string_Value_string : TypeId := 42
def T.api_Pair : TypeId := 43
def T.func_14 : TypeId := 44
def T.sl_ticketlinelaw_Change : TypeId := 45
def T.struct_Key_string_Value_string_Gone_bool : TypeId := 46
def T.law_Change : TypeId := 47
def T.api_Errno : TypeId := 48
def T.tuple_3 : TypeId := 49
def T.func_15 : TypeId := 50
def T.map_string_bool : TypeId := 51
def T.tuple_4 : TypeId := 52
def T.func_16 : TypeId := 53
def T.func_17 : TypeId := 54
def T.func_18 : TypeId := 55
def T.func_19 : TypeId := 56
def T.func_20 : TypeId := 57
def T.func_21 : TypeId := 58
def T.tuple_5 : TypeId := 59
def T.func_22 : TypeId := 60
def T.struct_list_api_Pair : TypeId := 61
def T.model_Model : TypeId := 62
def T.tuple_6 : TypeId := 63
def T.func_23 : TypeId := 64
def T.func_24 : TypeId := 65
def T.func_25 : TypeId := 66
def T.n2_string : TypeId := 67
def T.func_26 : TypeId := 68
def T.tuple_7 : TypeId := 69
def T.func_27 : TypeId := 70
def T.func_28 : TypeId := 71
def T.func_29 : TypeId := 72
def T.tuple_8 : TypeId := 73
def T.func_30 : TypeId := 74
def T.func_31 : TypeId := 75
def T.tuple_9 : TypeId := 76
def T.func_32 : TypeId := 77
def T.func_33 : TypeId := 78
def T.func_34 : TypeId := 79
def T.func_35 : TypeId := 80
def T.func_36 : TypeId := 81
def T.func_37 : TypeId := 82
def T.func_38 : TypeId := 83
def T.func_39 : TypeId := 84
def T.func_40 : TypeId := 85
def T.func_41 : TypeId := 86
def T.func_42 : TypeId := 87
def T.func_43 : TypeId := 88
def T.uint64 : TypeId := 89
def T.interface_1 : TypeId := 90
def T.error : TypeId := 91
def T.tuple_10 : TypeId := 92
def T.func_44 : TypeId := 93
def T.uint : TypeId := 94
def T.func_45 : TypeId := 95
def T.func_46 : TypeId := 96
def T.func_47 : TypeId := 97
def T.func_48 : TypeId := 98
def T.p_strings_Builder : TypeId := 99
def T.struct_addr_strings_Builder_buf_uint8 : TypeId := 100
def T.strings_Builder : TypeId := 101
def T.func_49 : TypeId := 102
def T.func_50 : TypeId := 103
def T.func_51 : TypeId := 104
def T.tuple_11 : TypeId := 105
def T.func_52 : TypeId := 106
def T.func_53 : TypeId := 107
def T.internal_strconv_Error : TypeId := 108
def T.func_54 : TypeId := 109
def T.p_strconv_NumError : TypeId := 110
def T.func_55 : TypeId := 111
def T.func_56 : TypeId := 112
def T.p_uint8 : TypeId := 113
def T.func_57 : TypeId := 114
def T.func_58 : TypeId := 115
def T.struct_Func_string_Num_string_Err_error : TypeId := 116
def T.strconv_NumError : TypeId := 117
def T.func_59 : TypeId := 118
def T.func_60 : TypeId := 119
def T.unsafe_Pointer : TypeId := 120
def T.func_61 : TypeId := 121
def T.n256_uint8 : TypeId := 122
def T.struct_lo_uint8_hi_uint8 : TypeId := 123
def T.unicode_utf8_acceptRange : TypeId := 124
def T.n16_utf8_acceptRange : TypeId := 125
def T.uint32 : TypeId := 126
def T.tuple_12 : TypeId := 127
def T.func_62 : TypeId := 128
def T.p_errors_errorString : TypeId := 129
def T.struct_s_string : TypeId := 130
def T.errors_errorString : TypeId := 131
def T.func_63 : TypeId := 132
def T.n24_uint8 : TypeId := 133
def T.func_64 : TypeId := 134
def T.func_65 : TypeId := 135
def T.tuple_13 : TypeId := 136
def T.func_66 : TypeId := 137
def T.func_67 : TypeId := 138
def T.n20_uint64 : TypeId := 139
def T.n65_uint8 : TypeId := 140
def T.func_68 : TypeId := 141
def T.func_69 : TypeId := 142
def T.func_70 : TypeId := 143
def T.n32_uint8 : TypeId := 144
def T.n64_uint8 : TypeId := 145
def T.struct_interface_abi_Type_concrete_abi_Type_asserted_abi_Typ : TypeId := 146
def T.runtime_TypeAssertionError : TypeId := 147
def T.n0_runtime_PanicNilError : TypeId := 148
def T.struct_0_runtime_PanicNilError : TypeId := 149
def T.runtime_PanicNilError : TypeId := 150
def T.func_71 : TypeId := 151
def T.internal_abi_TFlag : TypeId := 152
def T.internal_abi_Kind : TypeId := 153
def T.func_72 : TypeId := 154
def T.internal_abi_NameOff : TypeId := 155
def T.internal_abi_TypeOff : TypeId := 156
def T.struct_Size_uintptr_PtrBytes_uintptr_Hash_uint32_TFlag_abi_T : TypeId := 157
def T.internal_abi_Type : TypeId := 158
end Go.Proofs.YtlkgfbcencoahaaDoor
