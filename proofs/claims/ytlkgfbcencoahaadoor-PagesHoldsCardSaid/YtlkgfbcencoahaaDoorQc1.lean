/-
  6 texts in one (merge.py): Wb Hints Known Names Sh Ds.
  Conditions: none. By an AI agent.
-/
import Derived.Test.YtlkgfbcencoahaaDoorQb1
import Derived.Test.YtlkgfbcencoahaaDoorQa3
import Derived.Test.YtlkgfbcencoahaaDoorChecked
import Derived.KernelRfl

/-
  Chapter 44: pages.hexed, strings.Split and strconv.toError as prims.
  Conditions: none. By an AI agent.
-/
set_option linter.unusedSimpArgs false
set_option linter.unusedVariables false
namespace Go.Proofs.YtlkgfbcencoahaaDoor
open Go Eng

def hexV : List Value → AHeap → Res := fun xs H => match xs with
  | [.string s] => if s.size ≤ 1000000 then some (.string (mk (hexB (bl s))), H) else none
  | _ => none
def spS (s sep : ByteArray) : List ByteArray := Lib.splitB sep 0 (Lib.countB s sep) s
def splV : List Value → AHeap → Res := fun xs H => match xs with
  | [.string s, .string sep] => if s.size ≤ 1000000 ∧ 1 ≤ sep.size then some (.slice (some ⟨H.n, 0, none⟩) (Lib.countB s sep + 1) (2 * (Lib.countB s sep + 1)), H.push (.cells ((spS s sep).map Value.string) 9 true)) else none
  | _ => none
def errV : List Value → AHeap → Res := fun xs H => match xs with
  | [.string _, .string s, .int .i64 _, .int .i64 _, .iface t (.int .i64 2)] => if s.size ≤ 1000000 ∧ t = 108 then some (.iface 110 (.chan none), H) else none
  | _ => none

theorem rvs_cons {ι : Emb} {v : Value} {xs args' : List Value} (h : RVs ι (v :: xs) args') : ∃ v' r, args' = v' :: r ∧ RV ι v v' ∧ RVs ι xs r := by
  cases h with
  | cons a b => exact ⟨_, _, rfl, a, b⟩
theorem rvs_str {ι : Emb} {s : ByteArray} {xs : List Value} {args' : List Value} (h : RVs ι (.string s :: xs) args') : ∃ r, args' = .string s :: r ∧ RVs ι xs r := by
  cases h with
  | cons a b => cases a; exact ⟨_, rfl, b⟩
theorem rvs_int {ι : Emb} {q : IntKind} {n : Int} {xs : List Value} {args' : List Value} (h : RVs ι (.int q n :: xs) args') : ∃ r, args' = .int q n :: r ∧ RVs ι xs r := by
  cases h with
  | cons a b => cases a; exact ⟨_, rfl, b⟩
theorem rvs_nil {ι : Emb} {args' : List Value} (h : RVs ι [] args') : args' = [] := by cases h; rfl

theorem hex_prim : (CallAd fun _ args H => hexV args H) ∧ CallOK Tryd.prog fun g args H => if g = 52 then hexV args H else none := by
  constructor
  · intro _ args H v H' h hl _
    replace h : hexV args H = some (v, H') := h
    unfold hexV at h
    split at h
    · split at h
      · cases h; exact OkV.still hl (.str _)
      · cases h
    · cases h
  · intro k args H v H' h2 hl had B ι w args' r ha
    by_cases hg : k = 52
    · subst hg
      simp only [if_true] at h2
      unfold hexV at h2
      split at h2
      · split at h2
        · rename_i s hs
          cases h2
          obtain ⟨a', ea, hA⟩ := rvs_str ha; subst ea
          cases rvs_nil hA
          refine Calls.mono (hexed_walk s w hs) ?_
          rintro e w' ⟨rfl, hb⟩
          obtain ⟨h3, h4⟩ := below_rel r hb
          exact ⟨_, ι, rfl, .str _, h3, h4⟩
        · cases h2
      · cases h2
    · simp [hg] at h2

theorem err_prim (hgl : (1, GK.iface) ∈ globs) : (CallAd fun _ args H => errV args H) ∧ CallOK Tryd.prog fun g args H => if g = 62 then errV args H else none := by
  constructor
  · intro _ args H v H' h hl _
    replace h : errV args H = some (v, H') := h
    unfold errV at h
    split at h
    · split at h
      · cases h; exact OkV.still hl (.iface .unk)
      · cases h
    · cases h
  · intro k args H v H' h2 hl had B ι w args' r ha
    by_cases hg : k = 62
    · subst hg
      simp only [if_true] at h2
      unfold errV at h2
      split at h2
      · split at h2
        · rename_i fn s base bits t hs
          cases h2
          obtain ⟨a1, ea, hb1⟩ := rvs_str ha; subst ea
          obtain ⟨a2, ea, hb2⟩ := rvs_str hb1; subst ea
          obtain ⟨a3, ea, hb3⟩ := rvs_int hb2; subst ea
          obtain ⟨a4, ea, hb4⟩ := rvs_int hb3; subst ea
          obtain ⟨v5, a5, ea, h5, hb5⟩ := rvs_cons hb4; subst ea
          cases rvs_nil hb5
          cases h5 with
          | iface h5 =>
            cases h5
            obtain ⟨ev, hv, hev⟩ := r.glob.iface hgl
            obtain ⟨hs1, rfl⟩ := hs
            refine Calls.mono (Tryd.strconv_toError_syntax fn s base bits ev w (by omega) hv hev) ?_
            rintro e w' ⟨N, rfl, _, _, hb⟩
            obtain ⟨h3, h4⟩ := below_rel r hb
            exact ⟨_, ι, rfl, .iface (.unk _), h3, h4⟩
        · cases h2
      · cases h2
    · simp [hg] at h2

theorem spl_prim (hgl : (0, GK.int) ∈ globs) (hc : Tryd.prog.cellsOf 9 = 1) (ht : tailQ Tryd.prog 9 = 1) : (CallAd fun _ args H => splV args H) ∧ CallOK Tryd.prog fun g args H => if g = 40 then splV args H else none := by
  constructor
  · intro _ args H v H' h hl _
    replace h : splV args H = some (v, H') := h
    unfold splV at h
    split at h
    · split at h
      · cases h
        refine ⟨hl.row ?_, .sl (by simp), VO.push _ _⟩
        intro u hu
        obtain ⟨x, _, rfl⟩ := List.mem_map.1 hu
        exact .str x
      · cases h
    · cases h
  · intro k args H v H' h2 hl had B ι w args' r ha
    by_cases hg : k = 40
    · subst hg
      simp only [if_true] at h2
      unfold splV at h2
      split at h2
      · split at h2
        · rename_i s sep hs
          cases h2
          obtain ⟨a1, ea, hb1⟩ := rvs_str ha; subst ea
          obtain ⟨a2, ea, hb2⟩ := rvs_str hb1; subst ea
          cases rvs_nil hb2
          obtain ⟨m, hm⟩ := r.glob.int hgl
          have hlen : (spS s sep).length = Lib.countB s sep + 1 := Lib.splitB_all sep hs.2 0 _ s rfl
          refine Calls.mono (Tryd.strings_Split s sep m w (by omega) hm hs.2) ?_
          rintro e w' ⟨rfl, rfl⟩
          obtain ⟨L, hL⟩ : ∃ L : Eng.Loc, L = ⟨w.heap.size, 0, 1, Lib.countB s sep + 1⟩ := ⟨_, rfl⟩
          obtain ⟨h3, h4⟩ := r.push (.cells ((Lib.splitB sep 0 (Lib.countB s sep) s).map Value.string).toArray 9) (.cells ((spS s sep).map Value.string) 9 true) L (by rw [hL]) (by
            subst hL
            refine ⟨_, 9, (0, 0), push_heap w _, by simp [← hlen, spS], by simp [← hlen, spS], fun i v hv => ⟨v, ?_, ?_⟩, fun _ => ⟨r.base, rfl, hc.symm, fun j hj h => by simp at h⟩⟩
            · simpa [spS] using hv
            · rw [List.getElem?_map] at hv
              obtain ⟨x, _, rfl⟩ := Option.map_eq_some_iff.1 hv
              exact .str x)
          have hup : up ι H.n L H.n = some L := by simp [up]
          refine ⟨_, _, rfl, ?_, h3, h4⟩
          have := RV.sle (ι := up ι H.n L) (b := H.n) (o := 0) (n := Lib.countB s sep + 1) (c := Lib.countB s sep + 1) hup (Nat.le_refl _)
          rw [hL] at this ⊢
          exact this
        · cases h2
      · cases h2
    · simp [hg] at h2

theorem hex_primP : (CallAd fun _ args H => hexV args H) ∧ CallOK Tryd.prog fun g args H => if g = 52 then hexV args H else none := hex_prim
theorem err_primP : (CallAd fun _ args H => errV args H) ∧ CallOK Tryd.prog fun g args H => if g = 62 then errV args H else none := err_prim (by simp [globs])
theorem spl_primP : (CallAd fun _ args H => splV args H) ∧ CallOK Tryd.prog fun g args H => if g = 40 then splV args H else none := spl_prim (by simp [globs]) (by kernel_rfl) (by kernel_rfl)

end Go.Proofs.YtlkgfbcencoahaaDoor

/-
  The hints: which temporaries are asked for behind each if, block, loop head, return of each function (a program of ours printed it).
  Conditions: none. By an AI agent.
-/
namespace Go.Proofs.YtlkgfbcencoahaaDoor
open Go Eng

def hintList : List (List (List Nat)) := [
  [],
  [],
  [],
  [[0,1,2,3],[8],[1,2,3,9,10],[1,2,3,9,10],[1,2,3,9,10],[1,2,3,9,10],[1,2,3,9,10],[8],[1,2,3,9],[8],[1,2,3,9,12,13,14],[1,2,3,9,11,12,13,14],[1,2,3,9,11,12,13,14],[1,2,3,9,11,12,13,14],[8]],
  [[0,1,2,3,4,5,6],[14],[1,4,15,16],[],[4,15,62,63,64],[4,15,62,63,64],[4,15,62,63,64],[4,15,18,19,20,21,62,63,64],[14],[4,15,62,63,64],[4,15,62,63,64],[4,15,62,63,64],[14],[4,15,62,63,64],[4,15,62,63,64],[14],[4,15,62,63,64],[14],[14]],
  [[0,1],[4],[0,1,5],[4],[4]],
  [[0,1,2,3,4],[10],[0,1,2,3,4],[0,1,2,3,4,11],[0,1,2,3,4,11],[0,1,2,3,4,11],[0,1,2,3,4,11],[10],[],[1,2,3,4,12,13,14],[1,2,3,4,12,13,14],[1,2,3,4,12,13,14],[1,2,3,4,12,13,14,15,16],[10],[1,2,3,4,12,13,14,18,19,20],[1,2,3,4,12,13,14,15,16,18,19,20,21],[1,2,3,4,12,13,14,15,16,18,19,20,21],[1,2,3,4,12,13,14,15,16,18,19,20,21],[1,2,3,4,12,13,14,15,16,18,19,20,21],[1,2,3,4,12,13,14,15,16,18,19,20,21],[1,2,3,4,12,13,14,16,18,19,20,21],[10],[1,2,3,4,12,13,14,16,18,19,20,21],[1,2,3,4,12,13,14,16,18,19,20,21],[1,2,3,4,12,13,14,15,16,18,19,20,21],[10],[1,2,3,4,12,13,14,18,20],[10],[1,2,3,4,12,13,14],[1,2,3,4,12,13,14,18,20,22],[1,2,3,4,12,13,14,18,20,22],[1,2,3,4,12,13,14,18,20,22],[1,2,3,4,12,13,14,18,20,22,23],[1,2,3,4,12,13,14,18,20,22,23,24],[1,2,3,4,12,13,14,18,20,22,23,24],[1,2,3,4,12,13,14,18,20,22,23,24],[1,2,3,4,12,13,14,18,20,22,23,24],[1,2,3,4,12,13,14,18,20,22],[10],[10]],
  [[0],[0,3],[0,3],[0,3],[0,3],[2],[2]],
  [[1,2,3,4,5],[0],[1,2,3,4,5],[0],[0]],
  [[3],[0,3,4],[0,3,4],[0,3,4],[2]],
  [[14]],
  [[4,13],[12],[],[4,13,15],[4,13,15],[4,13,15],[4,13,15],[12],[12]],
  [[9],[1,2,3,9,10,11],[1,2,3,9,10,11],[1,2,3,9,10,11],[1,2,3,9,10,11],[8]],
  [[0,1,2],[6,7],[6,7]],
  [[5,6],[5,6,7],[5,6,7],[5,6,7],[4]],
  [[0,5],[0,5,6,7],[0,5,6,7],[0,5,6,7],[0,5,6,7],[0,5,6,7],[0,5,6,7],[0,5,6,7],[0,5,6,7],[2,3,4],[8,9],[2,3,4],[2,3,4]],
  [[8]],
  [[12]],
  [[0,1,2,3],[8,9,10],[0,1,2,3],[0,1,2,3],[8,9,10],[0,1,2,3],[8,9,10],[8,9,10]],
  [[0,1,6],[4,5],[4,5]],
  [[0,1,2,7,8],[6],[6]],
  [[0,1,2],[6,7,8],[0,2,10,11],[6,7,8],[6,7,8]],
  [[0,1],[4],[],[0,1,5],[0,1,5],[0,1,5],[0,1,5],[4],[4]],
  [[2]],
  [[0],[0,7,8,9],[0,7,8,9],[0,7,8,9],[0,4,5,7,8,9],[2,3],[0,7,8,9],[2,3],[0],[2,3],[2,3]],
  [[0,3,10,11],[8,9],[13],[0,3,10,11,13],[0,3,10,11,13],[0,3,10,11,13],[0,3,11,13],[0,3,10,11,13],[8,9],[8,9]],
  [[0],[2],[2]],
  [[3],[0,3,4],[0,3,4],[0,3,4],[0,3,4],[0,3,4,21,22,23],[0,3,4,21,22,23],[0,3,4,21,22,23],[0,3,4,21,22,23],[2]],
  [[],[],[2],[],[2],[2]],
  [[0,5],[2,3,4],[2,3],[2,3,4],[2,3,4]],
  [[],[],[4],[],[4],[4]],
  [[12],[1,2,3,4,12,16,17,18],[1,2,3,4,12,16,17,18],[1,2,3,4,12,16,17,18],[1,2,3,4,12,14,16,17,18],[1,2,3,4,12,14,16,17,18],[10,11],[10,11]],
  [[0,6],[0,6],[4,5],[0,6],[4,5],[4,5]],
  [[4,5]],
  [[0,1,2],[6],[6]],
  [[0,1,2],[6,7,8],[0,1],[6,7,8],[6,7,8]],
  [[],[],[],[8],[8]],
  [[],[],[4],[],[4],[4]],
  [[4]],
  [[0],[2],[2]],
  [[4]],
  [[3],[0,3,4],[0,3,4],[0,3,4],[2]],
  [[2]],
  [[4]],
  [[0,1,2,8,9],[0,1,2,8,9,10],[0,1,2,8,9,10],[0,1,2,8,9,10],[0,1,2,8,9,10],[6,7]],
  [[4]],
  [[0,1,2,7],[6],[0,1,2,7,8],[6],[0,1,2,7,8],[6],[0,1,2,7,8],[6],[6]],
  [[4]],
  [[2]],
  [[4]],
  [[0,1,2,3],[8],[0,1,2,3],[8],[0,1,2,3],[0,9,10],[0,1,2,3,9,10],[0,1,2,3,9,10],[0,1,2,3,9,10],[0,1,2,3,9,10,11],[8]],
  [[8],[6,7],[6,7]],
  [[3],[3,7,8,9],[3,7,8,9],[3,7,8,9],[2]],
  [[3],[3,7,8,9],[3,7,8,9],[3,7,8,9],[2]],
  [],
  [],
  [[],[0,1,7,8],[0,1,7,8],[0,1,7,8],[0,1,7,8],[4],[4]],
  [[4]],
  [[0,1],[0,1,6],[0,1,6,7],[0,1,6,7],[0,1,6,7],[6],[4]],
  [[0,1],[4],[0,1],[4],[4],[0,1,5],[0,1,5],[0,1,5,6],[4]],
  [[4]],
  [[0,1,2],[6,7],[0,1,2,8,9],[0,1,2,8,9],[0,1,2,8,9],[0,1,2,8,9],[0,1,2,8,9],[0,1,2,8,9],[0,1,2,8,9],[0,1,2,8,9],[6,7],[0,1,2,8,9],[0,1,2,8,9],[6,7],[0,1,2,8,9,10],[0,1,2,8,9,10],[0,1,2,8,9,10],[9,12,13],[1,8,9,10,11,12,13,99,100,101],[1,8,9,10,11,12,13,99,100,101],[1,8,9,10,11,12,13,99,100,101],[1,8,9,10,11,12,13,16,99,100,101],[1,8,9,10,11,12,13,16,99,100,101],[1,8,9,10,11,12,13,16,99,100,101],[1,8,9,10,11,12,13,16,99,100,101],[6,7],[1,8,9,10,11,12,13,16,99,100,101],[6,7],[1,8,9,10,11,12,13,16,99,100,101],[6,7],[1,8,9,10,11,12,17,99,100,101],[6,7],[13],[6,7],[6,7]],
  [[4],[4],[10],[4],[10],[4],[10],[4],[10],[10]],
  [[4]],
  [[2]],
  [],
  [],
  [[2],[2,4],[2,4],[2,4],[2]],
  [[2,3],[2,3],[2,3]],
  [],
  [[0,1,5],[0,1,5],[4],[0,1,5],[4],[0,1,5],[4],[0,1,5],[4],[],[0,1,5,6,7,8,9,10],[0,1,5,6,7,8,9,10],[0,1,5,6,7,8,9,10],[0,1,5,6,7,8,9,10],[0,1,5,6,7,8,9,10,11],[4],[0,1,5,6,7,8,9,10],[4],[0,1,5,6,7,8,9,10],[],[4],[4],[0,1,5,6,7,8,9,10],[8,13],[4],[4],[4]],
  [[2]],
  [[0,3,4],[0,3,4,5],[3],[0,3,4,5],[0,3,4,5],[0,3,4,5],[0,3,4,5],[0,3,4,5],[0,4,5],[2],[0,4,5],[2],[2]],
  [[4]],
  [[4]],
  [[6]],
  [[6]],
  [[],[]],
  [[],[0,2,3],[0,2,3],[0,2,3]],
  [[0,4],[2,3],[0,4,5,6],[2,3],[0,5,8,9],[2,3],[0,5,8,10],[2,3],[0,5,8,10],[2,3],[0,5,8,10,11],[2,3],[0,5,10,11],[2,3],[5,10,11,12],[2,3],[2,3]],
  [[4]],
  [],
  [[2]],
  [[0,1,5,6,7,8],[0,1,5,6,7,8,9],[0,1,5,6,7,8,9],[0,1,5,6,7,8,9],[0,1,5,6,7,8],[4],[],[0,1,5,6,7,8,10],[0,1,5,6,7,8,10],[0,1,5,6,7,8,10],[0,1,5,6,7,8,10],[4],[4]],
  [[0],[2],[2]],
  [[2]],
  [[2]],
  [],
  [],
  [[0,4],[0,4,5],[0,4,5],[0,4,5],[4,6],[4,6,7,8],[4,6,7,8],[4,6,7,8],[4,6,7,8],[2,3]],
  [[2]],
  [[0,1],[0],[4],[0,5,6],[5,7],[4],[4],[4]],
  [[0],[2],[2]],
  [[2]],
  [[0,1,4],[0,1,4],[0,1,4],[0,1,4],[0,4,12],[0,4,12],[]],
  [[0,1,2,3,4,10,11],[0,1,2,3,4,10,11,12,13],[0,3,4,10,11,12,13],[0,1,3,4,10,11,12,13],[0,1,3,4,10,11,12,13,14,15,16],[0,1,3,4,10,11,12,13,14,15,16],[0,1,3,4,10,11,12,13,14,15,16],[0,1,3,4,10,11,12,13],[0,1,3,4,10,11,12,13,17],[0,1,3,4,10,11,12,13,17],[0,1,3,4,10,11,12,13,17],[0,4,10,11,12,13],[10,12,13],[10,11],[10,11]],
  [[2]],
  [[0,2],[0,2],[0,2],[2]],
  [[],[2],[2]],
  [[2]],
  [[0],[2],[2]],
  [[0],[2],[2]],
  [[0],[2],[2]],
  [],
  [],
  [],
  [],
  [],
  [],
  [],
  [],
  [],
  [],
  [],
  [],
  [],
  [],
  [],
  [],
  [],
  [],
  [],
  [],
  [],
  [],
  [],
  [],
  [],
  [],
  [],
  [],
  [],
  [],
  []
]

def hints : Hints := fun f => (hintList[f]?).getD []

end Go.Proofs.YtlkgfbcencoahaaDoor

/-
  Chapter 44: slices.Insert as a Prim; known() returns true.
  Conditions: none. By an AI agent.
-/
namespace Go.Proofs.YtlkgfbcencoahaaDoor
open Go Eng

theorem mixed : Tryd.prog.follows .mixedOrders = true := by kernel_rfl

def zIns0 : List Value := [(.string (mk [])), (.string (mk []))]
theorem insOK0 : InsOK Tryd.prog hints 46 22 3 43 zIns0 54 55 where
  mixed := mixed
  body := fun C n a0 a1 a2 H => by kernel_rfl
  hS := Tryd.underlying22
  hI := Tryd.underlying3
  hz := by kernel_rfl
  hsz := by kernel_rfl
  ovl := ⟨Tryd.f54, by kernel_rfl, by decide, by kernel_rfl, by kernel_rfl, by kernel_rfl, by kernel_rfl⟩

noncomputable def prims0 : Prims := fun f => if f = 46 then some (insP Tryd.prog hints 46 43 zIns0) else if f = 40 then some splV else if f = 62 then some errV else if f = 52 then some hexV else none

theorem prims0_ok : PrimsOK Tryd.prog prims0 := by
  intro f p h
  unfold prims0 at h
  split at h
  · rename_i hf
    have e := Option.some.inj h
    subst hf
    rw [← e]
    exact ins_prim insOK0
  · skip
    split at h
    · rename_i hf
      have e := Option.some.inj h
      subst hf
      rw [← e]
      exact spl_primP
    · skip
      split at h
      · rename_i hf
        have e := Option.some.inj h
        subst hf
        rw [← e]
        exact err_primP
      · skip
        split at h
        · rename_i hf
          have e := Option.some.inj h
          subst hf
          rw [← e]
          exact hex_primP
        · skip
          cases h

set_option maxHeartbeats 0 in
theorem known_run : (dCallF Tryd.prog prims0 hints 60 8 [] H0).map (·.1) = some (.bool true) := by kernel_rfl

noncomputable def prims1 : Prims := fun f => if f = 8 then some trueP else prims0 f

theorem prims1_ok : PrimsOK Tryd.prog prims1 := by
  intro f p h
  unfold prims1 at h
  split at h
  · rename_i hf
    have e := Option.some.inj h
    subst hf
    rw [← e]
    exact true_primF prims0_ok mixed known_run
  · exact prims0_ok f p h

/-- What a call gives. -/
noncomputable def CC : CallF := D Tryd.prog prims1 hints

end Go.Proofs.YtlkgfbcencoahaaDoor

/-
  Names of the seat's functions and types (a program of ours printed it).
  Conditions: none. By an AI agent.
-/
namespace Go.Proofs.YtlkgfbcencoahaaDoor
open Go
def F.main_main : FuncId := 0
def F.gosem_cut : FuncId := 1
def F.gosem_cut_init : FuncId := 2
def F.law_PagesFirst : FuncId := 3
def F.law_PagesNext : FuncId := 4
def F.law_PagesMarks : FuncId := 5
def F.law_PagesHolds : FuncId := 6
def F.law_small : FuncId := 7
def F.law_known : FuncId := 8
def F.law_filled : FuncId := 9
def F.law_first : FuncId := 10
def F.law_alls : FuncId := 11
def F.law_in : FuncId := 12
def F.law_cut : FuncId := 13
def F.law_marked : FuncId := 14
def F.law_unmarked : FuncId := 15
def F.law_read : FuncId := 16
def F.law_next : FuncId := 17
def F.pages_First : FuncId := 18
def F.model_Model_Delete : FuncId := 19
def F.model_Model_Put : FuncId := 20
def F.pages_Next : FuncId := 21
def F.law_same : FuncId := 22
def F.law_pair : FuncId := 23
def F.model_Of : FuncId := 24
def F.pages_All : FuncId := 25
def F.model_Model_Pairs : FuncId := 26
def F.law_hexed : FuncId := 27
def F.law_digit : FuncId := 28
def F.pages_Read : FuncId := 29
def F.pages_allowed : FuncId := 30
def F.pages_page : FuncId := 31
def F.model_Model_Get : FuncId := 32
def F.model_Model_place : FuncId := 33
def F.slices_Delete_Pair : FuncId := 34
def F.model_Model_at : FuncId := 35
def F.model_Model_set : FuncId := 36
def F.model_check : FuncId := 37
def F.keys_Compare : FuncId := 38
def F.slices_Clone_Pair : FuncId := 39
def F.strings_Split : FuncId := 40
def F.pages_bytes : FuncId := 41
def F.keys_ValidKey : FuncId := 42
def F.pages_marked : FuncId := 43
def F.slices_BinarySearchFunc_string : FuncId := 44
def F.model_Model_place_1 : FuncId := 45
def F.slices_Insert_Pair : FuncId := 46
def F.slices_ContainsFunc_string : FuncId := 47
def F.model_check_1 : FuncId := 48
def F.strings_Compare : FuncId := 49
def F.strings_genSplit : FuncId := 50
def F.strconv_ParseUint : FuncId := 51
def F.pages_hexed : FuncId := 52
def F.pages_check : FuncId := 53
def F.slices_overlaps_Pair : FuncId := 54
def F.slices_rotateRight_Pair : FuncId := 55
def F.slices_IndexFunc_string : FuncId := 56
def F.internal_bytealg_CompareString : FuncId := 57
def F.strings_explode : FuncId := 58
def F.strings_Count : FuncId := 59
def F.strings_Index : FuncId := 60
def F.internal_strconv_ParseUint : FuncId := 61
def F.strconv_toError : FuncId := 62
def F.strings_Builder_WriteByte : FuncId := 63
def F.strings_Builder_String : FuncId := 64
def F.slices_rotateLeft_Pair : FuncId := 65
def F.internal_bytealg_abigen_runtime_cmpstring : FuncId := 66
def F.unicode_utf8_RuneCountInString : FuncId := 67
def F.unicode_utf8_DecodeRuneInString : FuncId := 68
def F.internal_bytealg_CountString : FuncId := 69
def F.internal_stringslite_Index : FuncId := 70
def F.internal_strconv_lower : FuncId := 71
def F.internal_strconv_underscoreOK : FuncId := 72
def F.strconv_syntaxError : FuncId := 73
def F.strconv_rangeError : FuncId := 74
def F.strconv_baseError : FuncId := 75
def F.strconv_bitSizeError : FuncId := 76
def F.strings_Builder_copyCheck : FuncId := 77
def F.slices_Reverse_Pair : FuncId := 78
def F.unicode_utf8_decodeRuneInStringSlow : FuncId := 79
def F.internal_stringslite_IndexByte : FuncId := 80
def F.internal_bytealg_IndexString : FuncId := 81
def F.internal_bytealg_Cutover : FuncId := 82
def F.internal_bytealg_IndexRabinKarp_string : FuncId := 83
def F.internal_stringslite_Clone : FuncId := 84
def F.errors_New : FuncId := 85
def F.strconv_Itoa : FuncId := 86
def F.internal_abi_NoEscape : FuncId := 87
def F.internal_bytealg_IndexByteString : FuncId := 88
def F.internal_bytealg_hashStr_string : FuncId := 89
def F.internal_strconv_Itoa : FuncId := 90
def F.internal_strconv_FormatInt : FuncId := 91
def F.internal_strconv_small : FuncId := 92
def F.internal_strconv_numDigits : FuncId := 93
def F.internal_strconv_formatBase10 : FuncId := 94
def F.internal_strconv_formatBits : FuncId := 95
def F.internal_strconv_log10Pow2 : FuncId := 96
def F.math_bits_Len64 : FuncId := 97
def F.internal_strconv_bool2_int : FuncId := 98
def F.internal_strconv_isPowerOfTwo : FuncId := 99
def F.math_bits_TrailingZeros : FuncId := 100
def F.math_bits_TrailingZeros32 : FuncId := 101
def F.math_bits_TrailingZeros64 : FuncId := 102
def F.runtime_boundsError_Error : FuncId := 103
def F.runtime_boundsError_RuntimeError : FuncId := 104
def F.runtime_errorString_Error : FuncId := 105
def F.runtime_errorString_RuntimeError : FuncId := 106
def F.runtime_plainError_Error : FuncId := 107
def F.runtime_plainError_RuntimeError : FuncId := 108
def F.runtime_errorAddressString_Error : FuncId := 109
def F.runtime_errorAddressString_RuntimeError : FuncId := 110
def F.runtime_TypeAssertionError_Error : FuncId := 111
def F.runtime_TypeAssertionError_RuntimeError : FuncId := 112
def F.runtime_PanicNilError_Error : FuncId := 113
def F.runtime_PanicNilError_RuntimeError : FuncId := 114
def F.internal_abi_Type_Align : FuncId := 115
def F.internal_runtime_maps_unhashableTypeError_Error : FuncId := 116
def F.internal_runtime_maps_unhashableTypeError_RuntimeError : FuncId := 117
def F.model_Model_Len : FuncId := 118
def F.strings_Builder_Reset : FuncId := 119
def F.internal_strconv_Error_Error : FuncId := 120
def F.strconv_NumError_Error : FuncId := 121
def F.errors_errorString_Error : FuncId := 122
def F.internal_abi_Kind_String : FuncId := 123
def F.var_s_door_gosem_cut_vars_holds_initialisers_alone_see_the_manifest_s_row_cutvarsword_look_11_test_files_too : FuncId := 124
def F.var_s_door_internal_strconv_uint64pow10_is_laid_by_its_own_initialiser_plain_data_look_11 : FuncId := 125
def F.var_s_door_math_bits_deBruijn32tab_is_laid_by_its_own_initialiser_plain_data_look_11 : FuncId := 126
def F.var_s_door_math_bits_deBruijn64tab_is_laid_by_its_own_initialiser_plain_data_look_11 : FuncId := 127
def F.var_s_door_strconv_ErrRange_is_laid_by_its_own_call_of_errors_New_on_one_literal_look_11 : FuncId := 128
def F.var_s_door_strconv_ErrSyntax_is_laid_by_its_own_call_of_errors_New_on_one_literal_look_11 : FuncId := 129
def F.var_s_door_the_look_of_gosem_cut_vars_went_over_the_folder_that_the_caller_named_as_the_repository_s_root_look_11 : FuncId := 130
def F.var_s_door_unicode_utf8_acceptRanges_is_laid_by_its_own_initialiser_plain_data_look_11 : FuncId := 131
def F.var_s_door_unicode_utf8_first_is_laid_by_its_text_alone_pinned_1 : FuncId := 132
def F.gosem_cut_vars : FuncId := 133
def T.tuple : TypeId := 0
def T.func : TypeId := 1
def T.int64 : TypeId := 2
def T.int : TypeId := 3
def T.bool : TypeId := 4
def T.uint8 : TypeId := 5
def T.internal_abi_BoundsErrorCode : TypeId := 6
def T.struct_x_int64_y_int_signed_bool_code_abi_BoundsErrorCode : TypeId := 7
def T.runtime_boundsError : TypeId := 8
def T.string : TypeId := 9
def T.runtime_errorString : TypeId := 10
def T.runtime_plainError : TypeId := 11
def T.uintptr : TypeId := 12
def T.struct_msg_string_addr_uintptr : TypeId := 13
def T.runtime_errorAddressString : TypeId := 14
def T.p_runtime_TypeAssertionError : TypeId := 15
def T.p_runtime_PanicNilError : TypeId := 16
def T.p_abi_Type : TypeId := 17
def T.struct_typ_abi_Type : TypeId := 18
def T.internal_runtime_maps_unhashableTypeError : TypeId := 19
def T.interface : TypeId := 20
def T.int32 : TypeId := 21
def T.sl_api_Pair : TypeId := 22
def T.func_1 : TypeId := 23
def T.func_2 : TypeId := 24
def T.p_model_Model : TypeId := 25
def T.func_3 : TypeId := 26
def T.func_4 : TypeId := 27
def T.func_5 : TypeId := 28
def T.func_6 : TypeId := 29
def T.tuple_1 : TypeId := 30
def T.func_7 : TypeId := 31
def T.sl_sl_api_Pair : TypeId := 32
def T.func_8 : TypeId := 33
def T.sl_uint8 : TypeId := 34
def T.func_9 : TypeId := 35
def T.sl_string : TypeId := 36
def T.tuple_2 : TypeId := 37
def T.func_10 : TypeId := 38
def T.func_11 : TypeId := 39
def T.func_12 : TypeId := 40
def T.func_13 : TypeId := 41
def T.struct_Key_string_Value_string : TypeId := 42
def T.api_Pair : TypeId := 43
def T.func_14 : TypeId := 44
def T.sl_ticketlinelaw_Change : TypeId := 45
def T.struct_Key_string_Value_string_Gone_bool : TypeId := 46
def T.law_Change : TypeId := 47
def T.api_Errno : TypeId := 48
def T.tuple_3 : TypeId := 49
def T.func_15 : TypeId := 50
def T.map_string_bool : TypeId := 51
def T.tuple_4 : TypeId := 52
def T.func_16 : TypeId := 53
def T.func_17 : TypeId := 54
def T.func_18 : TypeId := 55
def T.func_19 : TypeId := 56
def T.func_20 : TypeId := 57
def T.func_21 : TypeId := 58
def T.tuple_5 : TypeId := 59
def T.func_22 : TypeId := 60
def T.struct_list_api_Pair : TypeId := 61
def T.model_Model : TypeId := 62
def T.tuple_6 : TypeId := 63
def T.func_23 : TypeId := 64
def T.func_24 : TypeId := 65
def T.func_25 : TypeId := 66
def T.n2_string : TypeId := 67
def T.func_26 : TypeId := 68
def T.tuple_7 : TypeId := 69
def T.func_27 : TypeId := 70
def T.func_28 : TypeId := 71
def T.func_29 : TypeId := 72
def T.tuple_8 : TypeId := 73
def T.func_30 : TypeId := 74
def T.func_31 : TypeId := 75
def T.tuple_9 : TypeId := 76
def T.func_32 : TypeId := 77
def T.func_33 : TypeId := 78
def T.func_34 : TypeId := 79
def T.func_35 : TypeId := 80
def T.func_36 : TypeId := 81
def T.func_37 : TypeId := 82
def T.func_38 : TypeId := 83
def T.func_39 : TypeId := 84
def T.func_40 : TypeId := 85
def T.func_41 : TypeId := 86
def T.func_42 : TypeId := 87
def T.func_43 : TypeId := 88
def T.uint64 : TypeId := 89
def T.interface_1 : TypeId := 90
def T.error : TypeId := 91
def T.tuple_10 : TypeId := 92
def T.func_44 : TypeId := 93
def T.uint : TypeId := 94
def T.func_45 : TypeId := 95
def T.func_46 : TypeId := 96
def T.func_47 : TypeId := 97
def T.func_48 : TypeId := 98
def T.p_strings_Builder : TypeId := 99
def T.struct_addr_strings_Builder_buf_uint8 : TypeId := 100
def T.strings_Builder : TypeId := 101
def T.func_49 : TypeId := 102
def T.func_50 : TypeId := 103
def T.func_51 : TypeId := 104
def T.tuple_11 : TypeId := 105
def T.func_52 : TypeId := 106
def T.func_53 : TypeId := 107
def T.internal_strconv_Error : TypeId := 108
def T.func_54 : TypeId := 109
def T.p_strconv_NumError : TypeId := 110
def T.func_55 : TypeId := 111
def T.func_56 : TypeId := 112
def T.p_uint8 : TypeId := 113
def T.func_57 : TypeId := 114
def T.func_58 : TypeId := 115
def T.struct_Func_string_Num_string_Err_error : TypeId := 116
def T.strconv_NumError : TypeId := 117
def T.func_59 : TypeId := 118
def T.func_60 : TypeId := 119
def T.unsafe_Pointer : TypeId := 120
def T.func_61 : TypeId := 121
def T.n256_uint8 : TypeId := 122
def T.struct_lo_uint8_hi_uint8 : TypeId := 123
def T.unicode_utf8_acceptRange : TypeId := 124
def T.n16_utf8_acceptRange : TypeId := 125
def T.uint32 : TypeId := 126
def T.tuple_12 : TypeId := 127
def T.func_62 : TypeId := 128
def T.p_errors_errorString : TypeId := 129
def T.struct_s_string : TypeId := 130
def T.errors_errorString : TypeId := 131
def T.func_63 : TypeId := 132
def T.n24_uint8 : TypeId := 133
def T.func_64 : TypeId := 134
def T.func_65 : TypeId := 135
def T.tuple_13 : TypeId := 136
def T.func_66 : TypeId := 137
def T.func_67 : TypeId := 138
def T.n20_uint64 : TypeId := 139
def T.n65_uint8 : TypeId := 140
def T.func_68 : TypeId := 141
def T.func_69 : TypeId := 142
def T.func_70 : TypeId := 143
def T.n32_uint8 : TypeId := 144
def T.n64_uint8 : TypeId := 145
def T.struct_interface_abi_Type_concrete_abi_Type_asserted_abi_Typ : TypeId := 146
def T.runtime_TypeAssertionError : TypeId := 147
def T.n0_runtime_PanicNilError : TypeId := 148
def T.struct_0_runtime_PanicNilError : TypeId := 149
def T.runtime_PanicNilError : TypeId := 150
def T.func_71 : TypeId := 151
def T.internal_abi_TFlag : TypeId := 152
def T.internal_abi_Kind : TypeId := 153
def T.func_72 : TypeId := 154
def T.internal_abi_NameOff : TypeId := 155
def T.internal_abi_TypeOff : TypeId := 156
def T.struct_Size_uintptr_PtrBytes_uintptr_Hash_uint32_TFlag_abi_T : TypeId := 157
def T.internal_abi_Type : TypeId := 158
end Go.Proofs.YtlkgfbcencoahaaDoor

/-
  The seat's functions as terms over the engine's combinators (a program of ours printed it).
  Conditions: none. By an AI agent.
-/
set_option linter.unusedVariables false
namespace Go.Proofs.YtlkgfbcencoahaaDoor
open Go Eng

/-! ticketline.ticketlinelaw44.small -/

noncomputable def s_law_small (mg : GT) (mc : CT) (ms : ST) (P : Program) (C : CallF) (L0 : Value → Value → AHeap → K → Res) (a0 : Value) (H : AHeap) (K0 : K) : Res :=
ms (fun k1 =>
L0 a0 (.int .i64 0) H (blkK [0] 0 k1)) (seqK (fun tT h1 =>
bareK (lenS (get tT 0)) h1 fun t31 h2 =>
bareK (xbin P .leq T.int (.tmp 31) (.const (.int .i64 40)) t31 (.int .i64 40)) h2 fun t32 h3 =>
K0 .ret [(2, t32)] h3) K0)

noncomputable def s_law_small_b0 (mg : GT) (mc : CT) (ms : ST) (P : Program) (C : CallF) (L0 : Value → Value → AHeap → K → Res) (v0 : Value) (v3 : Value) (H : AHeap) (k : K) : Res :=
bareK (lenS v0) H fun t6 h1 =>
bareK (xbin P .lss T.int (.tmp 4) (.tmp 6) v3 t6) h1 fun t7 h2 =>
mg t7 true (fun o2 => o2 v3 h2) h2 fun t9 h3 =>
mg t7 true (fun o3 => bareK (xbin P .lss T.int (.tmp 9) (.const (.int .i64 41)) t9 (.int .i64 41)) h3 o3) h3 fun t10 h4 =>
pickK t7 t10 (.bool false) fun t11 =>
mc t11 (fun k4 => k4 .normal [(0, v0), (3, v3)] h4) (fun k4 =>
k4 (.exit 0) [(11, t11), (10, t10), (9, t9), (8, t7), (7, t7), (6, t6), (5, v0), (4, v3), (0, v0), (3, v3)] h4) (seqK (fun tT h5 =>
ms (fun k5 =>
bareK (ixS 2 (get tT 0) (get tT 3)) h5 fun t16 h6 =>
bareK (fad 0 t16) h6 fun t17 h7 =>
bareK (ld1 h7 t17) h7 fun t18 h8 =>
bareK (lenT t18) h8 fun t19 h9 =>
bareK (xbin P .gtr T.int (.tmp 19) (.const (.int .i64 30)) t19 (.int .i64 30)) h9 fun t20 h10 =>
mg t20 false (fun o6 => o6 (get tT 0) h10) h10 fun t22 h11 =>
mg t20 false (fun o7 => o7 (get tT 3) h11) h11 fun t23 h12 =>
mg t20 false (fun o8 => bareK (ixS 2 t22 t23) h12 o8) h12 fun t24 h13 =>
mg t20 false (fun o9 => bareK (fad 1 t24) h13 o9) h13 fun t25 h14 =>
mg t20 false (fun o10 => bareK (ld1 h14 t25) h14 o10) h14 fun t26 h15 =>
mg t20 false (fun o11 => bareK (lenT t26) h15 o11) h15 fun t27 h16 =>
mg t20 false (fun o12 => bareK (xbin P .gtr T.int (.tmp 27) (.const (.int .i64 44)) t27 (.int .i64 44)) h16 o12) h16 fun t28 h17 =>
pickK t20 (.bool true) t28 fun t29 =>
mc t29 (fun k13 => k13 .ret [(2, (.bool false))] h17) (fun k13 =>
k13 .normal [(0, (get tT 0)), (3, (get tT 3))] h17) (blkK [0, 3] 1 k5)) (seqK (fun tT_1 h18 =>
bareK (xbin P .add T.int (.tmp 12) (.const (.int .i64 1)) (get tT_1 3) (.int .i64 1)) h18 fun t13 h19 =>
k .normal [(0, (get tT_1 0)), (3, t13)] h19) (afterK [0, 3] k))) (afterK [0, 3] k))

theorem s_law_small_eq (M : CombL) (C : CallF) (LP : LoopH) (a0 : Value) (H : AHeap) : dBodyL M Tryd.prog hints C LP F.law_small [a0] H = s_law_small M.b.g M.c M.s Tryd.prog C (fun v0 v3 H k => loopL M Tryd.prog hints C LP F.law_small 0 [(0, v0), (3, v3)] H k) a0 H (endK Tryd.prog [.tmp 2]) := by kernel_rfl

theorem s_law_small_b0_eq (M : CombL) (C : CallF) (LP : LoopH) (v0 : Value) (v3 : Value) (H : AHeap) (k : K) : bodyL M Tryd.prog hints C LP F.law_small 0 [(0, v0), (3, v3)] H (afterK [0, 3] k) = s_law_small_b0 M.b.g M.c M.s Tryd.prog C (fun v0 v3 H k => loopL M Tryd.prog hints C LP F.law_small 0 [(0, v0), (3, v3)] H k) v0 v3 H k := by kernel_rfl

/-! ticketline.ticketlinelaw44.filled -/

noncomputable def s_law_filled (mg : GT) (mc : CT) (ms : ST) (P : Program) (C : CallF) (L0 : Value → Value → Value → AHeap → K → Res) (a0 : Value) (H : AHeap) (K0 : K) : Res :=
bareK (bldS #[(.slice none 0 0)] [(0, 1)] []) H fun t5 h1 =>
bothK (newv T.model_Model t5 h1) fun t6 h2 =>
ms (fun k1 =>
L0 a0 t6 (.int .i64 0) h2 (blkK [3] 0 k1)) (seqK (fun tT h3 =>
K0 .ret [(2, (get tT 3))] h3) K0)

noncomputable def s_law_filled_b0 (mg : GT) (mc : CT) (ms : ST) (P : Program) (C : CallF) (L0 : Value → Value → Value → AHeap → K → Res) (v0 : Value) (v3 : Value) (v4 : Value) (H : AHeap) (k : K) : Res :=
bareK (lenS v0) H fun t9 h3 =>
bareK (xbin P .lss T.int (.tmp 7) (.tmp 9) v4 t9) h3 fun t10 h4 =>
mc t10 (fun k2 => k2 .normal [(0, v0), (3, v3), (4, v4)] h4) (fun k2 =>
k2 (.exit 0) [(10, t10), (9, t9), (8, v0), (7, v4), (0, v0), (3, v3), (4, v4)] h4) (seqK (fun tT h5 =>
ms (fun k3 =>
bareK (ixS 2 (get tT 0) (get tT 4)) h5 fun t16 h6 =>
bareK (fad 0 t16) h6 fun t17 h7 =>
bareK (ld1 h7 t17) h7 fun t18 h8 =>
bareK (ixS 2 (get tT 0) (get tT 4)) h8 fun t21 h9 =>
bareK (fad 1 t21) h9 fun t22 h10 =>
bareK (ld1 h10 t22) h10 fun t23 h11 =>
enterK C F.model_Model_Put [(get tT 3), t18, t23] h11 fun t24 h12 =>
checkK true <|
k3 .normal [(0, (get tT 0)), (3, (get tT 3)), (4, (get tT 4))] h12) (seqK (fun tT_1 h13 =>
bareK (xbin P .add T.int (.tmp 11) (.const (.int .i64 1)) (get tT_1 4) (.int .i64 1)) h13 fun t12 h14 =>
k .normal [(0, (get tT_1 0)), (3, (get tT_1 3)), (4, t12)] h14) (afterK [0, 3, 4] k))) (afterK [0, 3, 4] k))

theorem s_law_filled_eq (M : CombL) (C : CallF) (LP : LoopH) (a0 : Value) (H : AHeap) : dBodyL M Tryd.prog hints C LP F.law_filled [a0] H = s_law_filled M.b.g M.c M.s Tryd.prog C (fun v0 v3 v4 H k => loopL M Tryd.prog hints C LP F.law_filled 0 [(0, v0), (3, v3), (4, v4)] H k) a0 H (endK Tryd.prog [.tmp 2]) := by kernel_rfl

theorem s_law_filled_b0_eq (M : CombL) (C : CallF) (LP : LoopH) (v0 : Value) (v3 : Value) (v4 : Value) (H : AHeap) (k : K) : bodyL M Tryd.prog hints C LP F.law_filled 0 [(0, v0), (3, v3), (4, v4)] H (afterK [0, 3, 4] k) = s_law_filled_b0 M.b.g M.c M.s Tryd.prog C (fun v0 v3 v4 H k => loopL M Tryd.prog hints C LP F.law_filled 0 [(0, v0), (3, v3), (4, v4)] H k) v0 v3 v4 H k := by kernel_rfl

/-! ticketline.ticketlinelaw44.first -/

noncomputable def s_law_first (mg : GT) (mc : CT) (ms : ST) (P : Program) (C : CallF) (a0 : Value) (a1 : Value) (a2 : Value) (a3 : Value) (a4 : Value) (a5 : Value) (a6 : Value) (H : AHeap) (K0 : K) : Res :=
enterK C F.pages_First [a0, a1, a2, a3] H fun t23 h1 =>
bareK (xextract t23 0) h1 fun t24 h2 =>
bareK (xextract t23 1) h2 fun t25 h3 =>
bareK (xextract t23 2) h3 fun t26 h4 =>
enterK C F.law_same [t24, a4] h4 fun t29 h5 =>
mg t29 true (fun o1 => o1 t25 h5) h5 fun t31 h6 =>
mg t29 true (fun o2 => o2 a5 h6) h6 fun t32 h7 =>
mg t29 true (fun o3 => bareK (xbin P .eql T.string (.tmp 31) (.tmp 32) t31 t32) h7 o3) h7 fun t33 h8 =>
pickK t29 t33 (.bool false) fun t34 =>
mg t34 true (fun o4 => o4 t26 h8) h8 fun t36 h9 =>
mg t34 true (fun o5 => o5 a6 h9) h9 fun t37 h10 =>
mg t34 true (fun o6 => bareK (xbin P .eql T.int (.tmp 36) (.tmp 37) t36 t37) h10 o6) h10 fun t38 h11 =>
pickK t34 t38 (.bool false) fun t39 =>
K0 .ret [(14, t39)] h11

theorem s_law_first_eq (M : CombL) (C : CallF) (LP : LoopH) (a0 : Value) (a1 : Value) (a2 : Value) (a3 : Value) (a4 : Value) (a5 : Value) (a6 : Value) (H : AHeap) : dBodyL M Tryd.prog hints C LP F.law_first [a0, a1, a2, a3, a4, a5, a6] H = s_law_first M.b.g M.c M.s Tryd.prog C a0 a1 a2 a3 a4 a5 a6 H (endK Tryd.prog [.tmp 14]) := by kernel_rfl

/-! ticketline.ticketlinelaw44.alls -/

noncomputable def s_law_alls (mg : GT) (mc : CT) (ms : ST) (P : Program) (C : CallF) (L0 : Value → Value → Value → AHeap → K → Res) (a0 : Value) (a1 : Value) (a2 : Value) (a3 : Value) (a4 : Value) (a5 : Value) (H : AHeap) (K0 : K) : Res :=
enterK C F.pages_All [a0, a1, a2, a3] H fun t21 h1 =>
bareK (xextract t21 0) h1 fun t22 h2 =>
bareK (xextract t21 1) h2 fun t23 h3 =>
bareK (lenS t22) h3 fun t25 h4 =>
bareK (lenS a4) h4 fun t27 h5 =>
bareK (xbin P .neq T.int (.tmp 25) (.tmp 27) t25 t27) h5 fun t28 h6 =>
mg t28 false (fun o1 => o1 t23 h6) h6 fun t30 h7 =>
mg t28 false (fun o2 => o2 a5 h7) h7 fun t31 h8 =>
mg t28 false (fun o3 => bareK (xbin P .neq T.int (.tmp 30) (.tmp 31) t30 t31) h8 o3) h8 fun t32 h9 =>
pickK t28 (.bool true) t32 fun t33 =>
mc t33 (fun k4 => k4 .ret [(12, (.bool false))] h9) (fun k4 =>
k4 .normal [(4, a4), (13, t22)] h9) (seqK (fun tT h10 =>
ms (fun k5 =>
L0 (get tT 4) (get tT 13) (.int .i64 0) h10 (blkK [] 0 k5)) (seqK (fun tT_1 h11 =>
K0 .ret [(12, (.bool true))] h11) K0)) K0)

noncomputable def s_law_alls_b0 (mg : GT) (mc : CT) (ms : ST) (P : Program) (C : CallF) (L0 : Value → Value → Value → AHeap → K → Res) (v4 : Value) (v13 : Value) (v15 : Value) (H : AHeap) (k : K) : Res :=
bareK (lenS v13) H fun t36 h11 =>
bareK (xbin P .lss T.int (.tmp 34) (.tmp 36) v15 t36) h11 fun t37 h12 =>
mc t37 (fun k6 => k6 .normal [(4, v4), (13, v13), (15, v15)] h12) (fun k6 =>
k6 (.exit 0) [(37, t37), (36, t36), (35, v13), (34, v15), (4, v4), (13, v13), (15, v15)] h12) (seqK (fun tT h13 =>
ms (fun k7 =>
bareK (ixS 1 (get tT 13) (get tT 15)) h13 fun t42 h14 =>
bareK (ld1 h14 t42) h14 fun t43 h15 =>
bareK (ixS 1 (get tT 4) (get tT 15)) h15 fun t46 h16 =>
bareK (ld1 h16 t46) h16 fun t47 h17 =>
enterK C F.law_same [t43, t47] h17 fun t48 h18 =>
bareK (xun P .not t48) h18 fun t49 h19 =>
checkK true <|
mc t49 (fun k8 => k8 .ret [(12, (.bool false))] h19) (fun k8 =>
k8 .normal [(4, (get tT 4)), (13, (get tT 13)), (15, (get tT 15))] h19) (blkK [4, 13, 15] 1 k7)) (seqK (fun tT_1 h20 =>
bareK (xbin P .add T.int (.tmp 38) (.const (.int .i64 1)) (get tT_1 15) (.int .i64 1)) h20 fun t39 h21 =>
k .normal [(4, (get tT_1 4)), (13, (get tT_1 13)), (15, t39)] h21) (afterK [4, 13, 15] k))) (afterK [4, 13, 15] k))

theorem s_law_alls_eq (M : CombL) (C : CallF) (LP : LoopH) (a0 : Value) (a1 : Value) (a2 : Value) (a3 : Value) (a4 : Value) (a5 : Value) (H : AHeap) : dBodyL M Tryd.prog hints C LP F.law_alls [a0, a1, a2, a3, a4, a5] H = s_law_alls M.b.g M.c M.s Tryd.prog C (fun v4 v13 v15 H k => loopL M Tryd.prog hints C LP F.law_alls 0 [(4, v4), (13, v13), (15, v15)] H k) a0 a1 a2 a3 a4 a5 H (endK Tryd.prog [.tmp 12]) := by kernel_rfl

theorem s_law_alls_b0_eq (M : CombL) (C : CallF) (LP : LoopH) (v4 : Value) (v13 : Value) (v15 : Value) (H : AHeap) (k : K) : bodyL M Tryd.prog hints C LP F.law_alls 0 [(4, v4), (13, v13), (15, v15)] H (afterK [4, 13, 15] k) = s_law_alls_b0 M.b.g M.c M.s Tryd.prog C (fun v4 v13 v15 H k => loopL M Tryd.prog hints C LP F.law_alls 0 [(4, v4), (13, v13), (15, v15)] H k) v4 v13 v15 H k := by kernel_rfl

/-! ticketline.ticketlinelaw44.in -/

noncomputable def s_law_in (mg : GT) (mc : CT) (ms : ST) (P : Program) (C : CallF) (L0 : Value → Value → Value → Value → Value → Value → AHeap → K → Res) (a0 : Value) (a1 : Value) (a2 : Value) (a3 : Value) (H : AHeap) (K0 : K) : Res :=
enterK C F.model_Model_Pairs [a0] H fun t13 h1 =>
ms (fun k1 =>
L0 a1 a2 a3 (.slice none 0 0) t13 (.int .i64 0) h1 (blkK [9] 0 k1)) (seqK (fun tT h2 =>
K0 .ret [(8, (get tT 9))] h2) K0)

noncomputable def s_law_in_b0 (mg : GT) (mc : CT) (ms : ST) (P : Program) (C : CallF) (L0 : Value → Value → Value → Value → Value → Value → AHeap → K → Res) (v1 : Value) (v2 : Value) (v3 : Value) (v9 : Value) (v10 : Value) (v11 : Value) (H : AHeap) (k : K) : Res :=
bareK (lenS v10) H fun t16 h2 =>
bareK (xbin P .lss T.int (.tmp 14) (.tmp 16) v11 t16) h2 fun t17 h3 =>
mc t17 (fun k2 => k2 .normal [(1, v1), (2, v2), (3, v3), (9, v9), (10, v10), (11, v11)] h3) (fun k2 =>
k2 (.exit 0) [(17, t17), (16, t16), (15, v10), (14, v11), (1, v1), (2, v2), (3, v3), (9, v9), (10, v10), (11, v11)] h3) (seqK (fun tT h4 =>
ms (fun k3 =>
bareK (ixS 2 (get tT 10) (get tT 11)) h4 fun t22 h5 =>
bareK (fad 0 t22) h5 fun t23 h6 =>
bareK (ld1 h6 t23) h6 fun t24 h7 =>
bareK (xbin P .gtr T.string (.tmp 24) (.tmp 25) t24 (get tT 1)) h7 fun t26 h8 =>
mg t26 false (fun o4 => o4 (get tT 2) h8) h8 fun t28 h9 =>
mg t26 false (fun o5 => o5 t28 h9) h9 fun t29 h10 =>
mg t29 true (fun o6 => o6 (get tT 10) h10) h10 fun t30 h11 =>
mg t29 true (fun o7 => o7 (get tT 11) h11) h11 fun t31 h12 =>
mg t29 true (fun o8 => bareK (ixS 2 t30 t31) h12 o8) h12 fun t32 h13 =>
mg t29 true (fun o9 => bareK (fad 0 t32) h13 o9) h13 fun t33 h14 =>
mg t29 true (fun o10 => bareK (ld1 h14 t33) h14 o10) h14 fun t34 h15 =>
mg t29 true (fun o11 => o11 (get tT 1) h15) h15 fun t35 h16 =>
mg t29 true (fun o12 => bareK (xbin P .eql T.string (.tmp 34) (.tmp 35) t34 t35) h16 o12) h16 fun t36 h17 =>
mg t26 false (fun o13 => pickK t29 t36 (.bool false) fun v => o13 v h17) h17 fun t37 h18 =>
pickK t26 (.bool true) t37 fun t38 =>
mg t38 true (fun o14 => o14 (get tT 3) h18) h18 fun t40 h19 =>
mg t38 true (fun o15 => bareK (xbin P .eql T.string (.tmp 40) (.const (.string (mk []))) t40 (.string (mk []))) h19 o15) h19 fun t41 h20 =>
mg t38 true (fun o16 => o16 t41 h20) h20 fun t42 h21 =>
mg t42 false (fun o17 => o17 (get tT 10) h21) h21 fun t43 h22 =>
mg t42 false (fun o18 => o18 (get tT 11) h22) h22 fun t44 h23 =>
mg t42 false (fun o19 => bareK (ixS 2 t43 t44) h23 o19) h23 fun t45 h24 =>
mg t42 false (fun o20 => bareK (fad 0 t45) h24 o20) h24 fun t46 h25 =>
mg t42 false (fun o21 => bareK (ld1 h25 t46) h25 o21) h25 fun t47 h26 =>
mg t42 false (fun o22 => o22 (get tT 3) h26) h26 fun t48 h27 =>
mg t42 false (fun o23 => bareK (xbin P .lss T.string (.tmp 47) (.tmp 48) t47 t48) h27 o23) h27 fun t49 h28 =>
mg t38 true (fun o24 => pickK t42 (.bool true) t49 fun v => o24 v h28) h28 fun t50 h29 =>
pickK t38 t50 (.bool false) fun t51 =>
mc t51 (fun k25 => bareK (ixS 2 (get tT 10) (get tT 11)) h29 fun t55 h30 =>
bareK (ldN 2 h30 t55) h30 fun t56 h31 =>
bothK (bldL T.api_Pair [(.string (mk [])), (.string (mk []))] 1 [(0, t56)] h31) fun t57 h32 =>
bothK (app T.api_Pair 2 32 (get tT 9) (srcS 2 t57 h32) h32) fun t58 h33 =>
k25 .normal [(1, (get tT 1)), (2, (get tT 2)), (3, (get tT 3)), (9, t58), (10, (get tT 10)), (11, (get tT 11))] h33) (fun k25 =>
k25 .normal [(1, (get tT 1)), (2, (get tT 2)), (3, (get tT 3)), (9, (get tT 9)), (10, (get tT 10)), (11, (get tT 11))] h29) (blkK [1, 2, 3, 9, 10, 11] 1 k3)) (seqK (fun tT_1 h34 =>
bareK (xbin P .add T.int (.tmp 18) (.const (.int .i64 1)) (get tT_1 11) (.int .i64 1)) h34 fun t19 h35 =>
k .normal [(1, (get tT_1 1)), (2, (get tT_1 2)), (3, (get tT_1 3)), (9, (get tT_1 9)), (10, (get tT_1 10)), (11, t19)] h35) (afterK [1, 2, 3, 9, 10, 11] k))) (afterK [1, 2, 3, 9, 10, 11] k))

theorem s_law_in_eq (M : CombL) (C : CallF) (LP : LoopH) (a0 : Value) (a1 : Value) (a2 : Value) (a3 : Value) (H : AHeap) : dBodyL M Tryd.prog hints C LP F.law_in [a0, a1, a2, a3] H = s_law_in M.b.g M.c M.s Tryd.prog C (fun v1 v2 v3 v9 v10 v11 H k => loopL M Tryd.prog hints C LP F.law_in 0 [(1, v1), (2, v2), (3, v3), (9, v9), (10, v10), (11, v11)] H k) a0 a1 a2 a3 H (endK Tryd.prog [.tmp 8]) := by kernel_rfl

theorem s_law_in_b0_eq (M : CombL) (C : CallF) (LP : LoopH) (v1 : Value) (v2 : Value) (v3 : Value) (v9 : Value) (v10 : Value) (v11 : Value) (H : AHeap) (k : K) : bodyL M Tryd.prog hints C LP F.law_in 0 [(1, v1), (2, v2), (3, v3), (9, v9), (10, v10), (11, v11)] H (afterK [1, 2, 3, 9, 10, 11] k) = s_law_in_b0 M.b.g M.c M.s Tryd.prog C (fun v1 v2 v3 v9 v10 v11 H k => loopL M Tryd.prog hints C LP F.law_in 0 [(1, v1), (2, v2), (3, v3), (9, v9), (10, v10), (11, v11)] H k) v1 v2 v3 v9 v10 v11 H k := by kernel_rfl

/-! ticketline.ticketlinelaw44.cut -/

noncomputable def s_law_cut (mg : GT) (mc : CT) (ms : ST) (P : Program) (C : CallF) (a0 : Value) (a1 : Value) (a2 : Value) (H : AHeap) (K0 : K) : Res :=
bareK (lenS a0) H fun t9 h1 =>
bareK (xbin P .leq T.int (.tmp 9) (.tmp 10) t9 a1) h1 fun t11 h2 =>
mc t11 (fun k1 => k1 .ret [(6, a0), (7, (.string (mk [])))] h2) (fun k1 =>
k1 .normal [(0, a0), (1, a1), (2, a2)] h2) (seqK (fun tT h3 =>
bareK (slS T.api_Pair 2 (get tT 0) none (some (get tT 1)) none h3) h3 fun t15 h4 =>
bareK (xbin P .sub T.int (.tmp 18) (.const (.int .i64 1)) (get tT 1) (.int .i64 1)) h4 fun t19 h5 =>
bareK (ixS 2 (get tT 0) t19) h5 fun t20 h6 =>
bareK (fad 0 t20) h6 fun t21 h7 =>
bareK (ld1 h7 t21) h7 fun t22 h8 =>
enterK C F.law_marked [(get tT 2), t22] h8 fun t23 h9 =>
checkK (okV (some true) none h8 h9 h3 h3 && (okV (some true) none h8 h9 h3 h3 && (okV (some true) (blockOf (get tT 0)) h8 h9 h3 h4 && true))) <|
K0 .ret [(6, t15), (7, t23)] h9) K0)

theorem s_law_cut_eq (M : CombL) (C : CallF) (LP : LoopH) (a0 : Value) (a1 : Value) (a2 : Value) (H : AHeap) : dBodyL M Tryd.prog hints C LP F.law_cut [a0, a1, a2] H = s_law_cut M.b.g M.c M.s Tryd.prog C a0 a1 a2 H (endK Tryd.prog [.tmp 6, .tmp 7]) := by kernel_rfl

/-! ticketline.ticketlinelaw44.marked -/

noncomputable def s_law_marked (mg : GT) (mc : CT) (ms : ST) (P : Program) (C : CallF) (L0 : Value → Value → Value → AHeap → K → Res) (a0 : Value) (a1 : Value) (H : AHeap) (K0 : K) : Res :=
enterK C F.law_hexed [a0] H fun t9 h1 =>
bareK (xbin P .add T.string (.tmp 9) (.const (.string (mk [46]))) t9 (.string (mk [46]))) h1 fun t10 h2 =>
enterK C F.law_hexed [a1] h2 fun t12 h3 =>
bareK (xbin P .add T.string (.tmp 10) (.tmp 12) t10 t12) h3 fun t13 h4 =>
bareK (xbin P .add T.string (.tmp 13) (.const (.string (mk [46]))) t13 (.string (mk [46]))) h4 fun t14 h5 =>
ms (fun k1 =>
L0 t14 (.int .i64 17) (.int .i64 0) h5 (blkK [5, 6] 0 k1)) (seqK (fun tT h6 =>
bareK (xbin P .quo T.int (.tmp 30) (.const (.int .i64 256)) (get tT 6) (.int .i64 256)) h6 fun t31 h7 =>
bothK (xconv P T.int T.uint8 t31 h7) fun t32 h8 =>
bareK (xbin P .rem T.int (.tmp 33) (.const (.int .i64 256)) (get tT 6) (.int .i64 256)) h8 fun t34 h9 =>
bothK (xconv P T.int T.uint8 t34 h9) fun t35 h10 =>
bothK (bldL T.uint8 [(.int .u8 0)] 2 [(0, t32), (1, t35)] h10) fun t36 h11 =>
bothK (xconv P T.sl_uint8 T.string t36 h11) fun t37 h12 =>
enterK C F.law_hexed [t37] h12 fun t38 h13 =>
bareK (xbin P .add T.string (.tmp 29) (.tmp 38) (get tT 5) t38) h13 fun t39 h14 =>
K0 .ret [(4, t39)] h14) K0)

noncomputable def s_law_marked_b0 (mg : GT) (mc : CT) (ms : ST) (P : Program) (C : CallF) (L0 : Value → Value → Value → AHeap → K → Res) (v5 : Value) (v6 : Value) (v7 : Value) (H : AHeap) (k : K) : Res :=
bareK (lenT v5) H fun t17 h6 =>
bareK (xbin P .lss T.int (.tmp 15) (.tmp 17) v7 t17) h6 fun t18 h7 =>
mc t18 (fun k2 => k2 .normal [(5, v5), (6, v6), (7, v7)] h7) (fun k2 =>
k2 (.exit 0) [(18, t18), (17, t17), (16, v5), (15, v7), (5, v5), (6, v6), (7, v7)] h7) (seqK (fun tT h8 =>
ms (fun k3 =>
bareK (xbin P .mul T.int (.const (.int .i64 31)) (.tmp 21) (.int .i64 31) (get tT 6)) h8 fun t22 h9 =>
bareK (xindex P T.string (get tT 5) (get tT 7)) h9 fun t25 h10 =>
bothK (xconv P T.uint8 T.int t25 h10) fun t26 h11 =>
bareK (xbin P .add T.int (.tmp 22) (.tmp 26) t22 t26) h11 fun t27 h12 =>
bareK (xbin P .rem T.int (.tmp 27) (.const (.int .i64 65521)) t27 (.int .i64 65521)) h12 fun t28 h13 =>
k3 .normal [(5, (get tT 5)), (6, t28), (7, (get tT 7))] h13) (seqK (fun tT_1 h14 =>
bareK (xbin P .add T.int (.tmp 19) (.const (.int .i64 1)) (get tT_1 7) (.int .i64 1)) h14 fun t20 h15 =>
k .normal [(5, (get tT_1 5)), (6, (get tT_1 6)), (7, t20)] h15) (afterK [5, 6, 7] k))) (afterK [5, 6, 7] k))

theorem s_law_marked_eq (M : CombL) (C : CallF) (LP : LoopH) (a0 : Value) (a1 : Value) (H : AHeap) : dBodyL M Tryd.prog hints C LP F.law_marked [a0, a1] H = s_law_marked M.b.g M.c M.s Tryd.prog C (fun v5 v6 v7 H k => loopL M Tryd.prog hints C LP F.law_marked 0 [(5, v5), (6, v6), (7, v7)] H k) a0 a1 H (endK Tryd.prog [.tmp 4]) := by kernel_rfl

theorem s_law_marked_b0_eq (M : CombL) (C : CallF) (LP : LoopH) (v5 : Value) (v6 : Value) (v7 : Value) (H : AHeap) (k : K) : bodyL M Tryd.prog hints C LP F.law_marked 0 [(5, v5), (6, v6), (7, v7)] H (afterK [5, 6, 7] k) = s_law_marked_b0 M.b.g M.c M.s Tryd.prog C (fun v5 v6 v7 H k => loopL M Tryd.prog hints C LP F.law_marked 0 [(5, v5), (6, v6), (7, v7)] H k) v5 v6 v7 H k := by kernel_rfl

/-! ticketline.ticketlinelaw44.unmarked -/

noncomputable def s_law_unmarked (mg : GT) (mc : CT) (ms : ST) (P : Program) (C : CallF) (L0 : Value → Value → Value → Value → AHeap → K → Res) (L1 : Value → Value → Value → Value → AHeap → K → Res) (a0 : Value) (H : AHeap) (K0 : K) : Res :=
bothK (newv T.n2_string (.agg #[(.string (mk [])), (.string (mk []))]) H) fun t5 h1 =>
ms (fun k1 =>
L0 a0 t5 (.int .i64 0) (.int .i64 0) h1 (blkK [0, 5] 0 k1)) (seqK (fun tT h2 =>
bareK (ixA 2 1 (get tT 5) (.int .i64 0)) h2 fun t68 h3 =>
bareK (ld1 h3 t68) h3 fun t69 h4 =>
bareK (ixA 2 1 (get tT 5) (.int .i64 1)) h4 fun t70 h5 =>
bareK (ld1 h5 t70) h5 fun t71 h6 =>
checkK true <|
bareK (lenT t71) h6 fun t73 h7 =>
bareK (xbin P .lss T.int (.tmp 73) (.const (.int .i64 1)) t73 (.int .i64 1)) h7 fun t74 h8 =>
mg t74 false (fun o2 => o2 t71 h8) h8 fun t76 h9 =>
mg t74 false (fun o3 => bareK (lenT t76) h9 o3) h9 fun t77 h10 =>
mg t74 false (fun o4 => bareK (xbin P .gtr T.int (.tmp 77) (.const (.int .i64 24)) t77 (.int .i64 24)) h10 o4) h10 fun t78 h11 =>
pickK t74 (.bool true) t78 fun t79 =>
mg t79 false (fun o5 => o5 t69 h11) h11 fun t81 h12 =>
mg t79 false (fun o6 => bareK (lenT t81) h12 o6) h12 fun t82 h13 =>
mg t79 false (fun o7 => bareK (xbin P .gtr T.int (.tmp 82) (.const (.int .i64 24)) t82 (.int .i64 24)) h13 o7) h13 fun t83 h14 =>
pickK t79 (.bool true) t83 fun t84 =>
mg t84 false (fun o8 => o8 t69 h14) h14 fun t86 h15 =>
mg t84 false (fun o9 => bareK (lenT t86) h15 o9) h15 fun t87 h16 =>
mg t84 false (fun o10 => bareK (xbin P .gtr T.int (.tmp 87) (.const (.int .i64 0)) t87 (.int .i64 0)) h16 o10) h16 fun t88 h17 =>
mg t84 false (fun o11 => o11 t88 h17) h17 fun t89 h18 =>
mg t89 true (fun o12 => o12 t69 h18) h18 fun t90 h19 =>
mg t89 true (fun o13 => o13 t71 h19) h19 fun t91 h20 =>
mg t89 true (fun o14 => bareK (xbin P .leq T.string (.tmp 90) (.tmp 91) t90 t91) h20 o14) h20 fun t92 h21 =>
mg t84 false (fun o15 => pickK t89 t92 (.bool false) fun v => o15 v h21) h21 fun t93 h22 =>
pickK t84 (.bool true) t93 fun t94 =>
mg t94 false (fun o16 => o16 t69 h22) h22 fun t96 h23 =>
mg t94 false (fun o17 => o17 t71 h23) h23 fun t97 h24 =>
mg t94 false (fun o18 => enterK C F.law_marked [t96, t97] h24 o18) h24 fun t98 h25 =>
mg t94 false (fun o19 => o19 (get tT 0) h25) h25 fun t99 h26 =>
mg t94 false (fun o20 => bareK (xbin P .neq T.string (.tmp 98) (.tmp 99) t98 t99) h26 o20) h26 fun t100 h27 =>
pickK t94 (.bool true) t100 fun t101 =>
mc t101 (fun k21 => k21 .ret [(2, (.string (mk []))), (3, (.string (mk []))), (4, (.bool false))] h27) (fun k21 =>
k21 .normal [(8, t69), (9, t71)] h27) (seqK (fun tT_1 h28 =>
K0 .ret [(2, (get tT_1 8)), (3, (get tT_1 9)), (4, (.bool true))] h28) K0)) K0)

noncomputable def s_law_unmarked_b0 (mg : GT) (mc : CT) (ms : ST) (P : Program) (C : CallF) (L0 : Value → Value → Value → Value → AHeap → K → Res) (L1 : Value → Value → Value → Value → AHeap → K → Res) (v0 : Value) (v5 : Value) (v6 : Value) (v7 : Value) (H : AHeap) (k : K) : Res :=
bareK (xbin P .lss T.int (.tmp 10) (.const (.int .i64 2)) v7 (.int .i64 2)) H fun t11 h2 =>
mc t11 (fun k2 => k2 .normal [(0, v0), (5, v5), (6, v6), (7, v7)] h2) (fun k2 =>
k2 (.exit 0) [(11, t11), (10, v7), (0, v0), (5, v5), (6, v6), (7, v7)] h2) (seqK (fun tT h3 =>
ms (fun k3 =>
ms (fun k4 =>
L1 (get tT 0) (get tT 5) (get tT 6) (get tT 7) h3 (blkK [0, 5, 6, 7] 2 k4)) (seqK (fun tT_1 h4 =>
bareK (lenT (get tT_1 0)) h4 fun t58 h5 =>
bareK (xbin P .geq T.int (.tmp 56) (.tmp 58) (get tT_1 6) t58) h5 fun t59 h6 =>
mg t59 false (fun o5 => o5 (get tT_1 0) h6) h6 fun t61 h7 =>
mg t59 false (fun o6 => o6 (get tT_1 6) h7) h7 fun t62 h8 =>
mg t59 false (fun o7 => bareK (xindex P T.string t61 t62) h8 o7) h8 fun t63 h9 =>
mg t59 false (fun o8 => bareK (xbin P .neq T.uint8 (.tmp 63) (.const (.int .u8 46)) t63 (.int .u8 46)) h9 o8) h9 fun t64 h10 =>
pickK t59 (.bool true) t64 fun t65 =>
mc t65 (fun k9 => k9 .ret [(2, (.string (mk []))), (3, (.string (mk []))), (4, (.bool false))] h10) (fun k9 =>
k9 .normal [(0, (get tT_1 0)), (5, (get tT_1 5)), (6, (get tT_1 6)), (7, (get tT_1 7))] h10) (seqK (fun tT_2 h11 =>
bareK (xbin P .add T.int (.tmp 66) (.const (.int .i64 1)) (get tT_2 6) (.int .i64 1)) h11 fun t67 h12 =>
k3 .normal [(0, (get tT_2 0)), (5, (get tT_2 5)), (6, t67), (7, (get tT_2 7))] h12) (blkK [0, 5, 6, 7] 1 k3))) (blkK [0, 5, 6, 7] 1 k3))) (seqK (fun tT_3 h13 =>
bareK (xbin P .add T.int (.tmp 12) (.const (.int .i64 1)) (get tT_3 7) (.int .i64 1)) h13 fun t13 h14 =>
k .normal [(0, (get tT_3 0)), (5, (get tT_3 5)), (6, (get tT_3 6)), (7, t13)] h14) (afterK [0, 5, 6, 7] k))) (afterK [0, 5, 6, 7] k))

noncomputable def s_law_unmarked_b1 (mg : GT) (mc : CT) (ms : ST) (P : Program) (C : CallF) (L0 : Value → Value → Value → Value → AHeap → K → Res) (L1 : Value → Value → Value → Value → AHeap → K → Res) (v0 : Value) (v5 : Value) (v6 : Value) (v7 : Value) (H : AHeap) (k : K) : Res :=
bareK (xbin P .add T.int (.tmp 14) (.const (.int .i64 1)) v6 (.int .i64 1)) H fun t15 h4 =>
bareK (lenT v0) h4 fun t17 h5 =>
bareK (xbin P .lss T.int (.tmp 15) (.tmp 17) t15 t17) h5 fun t18 h6 =>
mg t18 true (fun o5 => o5 v0 h6) h6 fun t20 h7 =>
mg t18 true (fun o6 => o6 v6 h7) h7 fun t21 h8 =>
mg t18 true (fun o7 => bareK (xindex P T.string t20 t21) h8 o7) h8 fun t22 h9 =>
mg t18 true (fun o8 => enterK C F.law_digit [t22] h9 o8) h9 fun t23 h10 =>
mg t18 true (fun o9 => bareK (xbin P .geq T.int (.tmp 23) (.const (.int .i64 0)) t23 (.int .i64 0)) h10 o9) h10 fun t24 h11 =>
pickK t18 t24 (.bool false) fun t25 =>
mg t25 true (fun o10 => o10 v0 h11) h11 fun t27 h12 =>
mg t25 true (fun o11 => o11 v6 h12) h12 fun t28 h13 =>
mg t25 true (fun o12 => bareK (xbin P .add T.int (.tmp 28) (.const (.int .i64 1)) t28 (.int .i64 1)) h13 o12) h13 fun t29 h14 =>
mg t25 true (fun o13 => bareK (xindex P T.string t27 t29) h14 o13) h14 fun t30 h15 =>
mg t25 true (fun o14 => enterK C F.law_digit [t30] h15 o14) h15 fun t31 h16 =>
mg t25 true (fun o15 => bareK (xbin P .geq T.int (.tmp 31) (.const (.int .i64 0)) t31 (.int .i64 0)) h16 o15) h16 fun t32 h17 =>
pickK t25 t32 (.bool false) fun t33 =>
mc t33 (fun k16 => k16 .normal [(0, v0), (5, v5), (6, v6), (7, v7)] h17) (fun k16 =>
k16 (.exit 2) [(33, t33), (32, t32), (31, t31), (30, t30), (29, t29), (28, t28), (27, t27), (26, t25), (25, t25), (24, t24), (23, t23), (22, t22), (21, t21), (20, t20), (19, t18), (18, t18), (17, t17), (16, v0), (15, t15), (14, v6), (0, v0), (5, v5), (6, v6), (7, v7)] h17) (seqK (fun tT h18 =>
ms (fun k17 =>
bareK (ixA 2 1 (get tT 5) (get tT 7)) h18 fun t36 h19 =>
bareK (ld1 h19 t36) h19 fun t37 h20 =>
bareK (xindex P T.string (get tT 0) (get tT 6)) h20 fun t40 h21 =>
enterK C F.law_digit [t40] h21 fun t41 h22 =>
bareK (xbin P .mul T.int (.const (.int .i64 16)) (.tmp 41) (.int .i64 16) t41) h22 fun t42 h23 =>
bareK (xbin P .add T.int (.tmp 44) (.const (.int .i64 1)) (get tT 6) (.int .i64 1)) h23 fun t45 h24 =>
bareK (xindex P T.string (get tT 0) t45) h24 fun t46 h25 =>
enterK C F.law_digit [t46] h25 fun t47 h26 =>
bareK (xbin P .add T.int (.tmp 42) (.tmp 47) t42 t47) h26 fun t48 h27 =>
bothK (xconv P T.int T.uint8 t48 h27) fun t49 h28 =>
bothK (bldL T.uint8 [(.int .u8 0)] 1 [(0, t49)] h28) fun t50 h29 =>
bothK (xconv P T.sl_uint8 T.string t50 h29) fun t51 h30 =>
bareK (xbin P .add T.string (.tmp 37) (.tmp 51) t37 t51) h30 fun t52 h31 =>
bareK (ixA 2 1 (get tT 5) (get tT 7)) h31 fun t53 h32 =>
quietK (st1 h32 t53 t52) fun _ h33 =>
checkK (okV (some true) none h21 h22 h18 h18 && (okV (some true) none h21 h22 h18 h18 && (okV (some true) none h21 h22 h18 h19 && (okV (some true) (blockOf t36) h21 h22 h19 h20 && (okV (some true) none h21 h22 h23 h23 && (okV (some true) none h21 h22 h23 h23 && (okV (some true) none h21 h22 h23 h24 && (okV (some true) none h21 h22 h24 h25 && (okV (some true) none h25 h26 h18 h18 && (okV (some true) none h25 h26 h18 h18 && (okV (some true) none h25 h26 h18 h19 && (okV (some true) (blockOf t36) h25 h26 h19 h20 && (okV (some true) none h25 h26 h22 h23 && true))))))))))))) <|
bareK (xbin P .add T.int (.tmp 54) (.const (.int .i64 2)) (get tT 6) (.int .i64 2)) h33 fun t55 h34 =>
k17 .normal [(0, (get tT 0)), (5, (get tT 5)), (6, t55), (7, (get tT 7))] h34) (afterK [0, 5, 6, 7] k)) (afterK [0, 5, 6, 7] k))

theorem s_law_unmarked_eq (M : CombL) (C : CallF) (LP : LoopH) (a0 : Value) (H : AHeap) : dBodyL M Tryd.prog hints C LP F.law_unmarked [a0] H = s_law_unmarked M.b.g M.c M.s Tryd.prog C (fun v0 v5 v6 v7 H k => loopL M Tryd.prog hints C LP F.law_unmarked 0 [(0, v0), (5, v5), (6, v6), (7, v7)] H k) (fun v0 v5 v6 v7 H k => loopL M Tryd.prog hints C LP F.law_unmarked 1 [(0, v0), (5, v5), (6, v6), (7, v7)] H k) a0 H (endK Tryd.prog [.tmp 2, .tmp 3, .tmp 4]) := by kernel_rfl

theorem s_law_unmarked_b0_eq (M : CombL) (C : CallF) (LP : LoopH) (v0 : Value) (v5 : Value) (v6 : Value) (v7 : Value) (H : AHeap) (k : K) : bodyL M Tryd.prog hints C LP F.law_unmarked 0 [(0, v0), (5, v5), (6, v6), (7, v7)] H (afterK [0, 5, 6, 7] k) = s_law_unmarked_b0 M.b.g M.c M.s Tryd.prog C (fun v0 v5 v6 v7 H k => loopL M Tryd.prog hints C LP F.law_unmarked 0 [(0, v0), (5, v5), (6, v6), (7, v7)] H k) (fun v0 v5 v6 v7 H k => loopL M Tryd.prog hints C LP F.law_unmarked 1 [(0, v0), (5, v5), (6, v6), (7, v7)] H k) v0 v5 v6 v7 H k := by kernel_rfl

theorem s_law_unmarked_b1_eq (M : CombL) (C : CallF) (LP : LoopH) (v0 : Value) (v5 : Value) (v6 : Value) (v7 : Value) (H : AHeap) (k : K) : bodyL M Tryd.prog hints C LP F.law_unmarked 1 [(0, v0), (5, v5), (6, v6), (7, v7)] H (afterK [0, 5, 6, 7] k) = s_law_unmarked_b1 M.b.g M.c M.s Tryd.prog C (fun v0 v5 v6 v7 H k => loopL M Tryd.prog hints C LP F.law_unmarked 0 [(0, v0), (5, v5), (6, v6), (7, v7)] H k) (fun v0 v5 v6 v7 H k => loopL M Tryd.prog hints C LP F.law_unmarked 1 [(0, v0), (5, v5), (6, v6), (7, v7)] H k) v0 v5 v6 v7 H k := by kernel_rfl

/-! ticketline.ticketlinelaw44.read -/

noncomputable def s_law_read (mg : GT) (mc : CT) (ms : ST) (P : Program) (C : CallF) (a0 : Value) (a1 : Value) (a2 : Value) (a3 : Value) (H : AHeap) (K0 : K) : Res :=
enterK C F.pages_Read [a0] H fun t14 h1 =>
bareK (xextract t14 0) h1 fun t15 h2 =>
bareK (xextract t14 1) h2 fun t16 h3 =>
bareK (xextract t14 2) h3 fun t17 h4 =>
bareK (xbin P .eql T.string (.tmp 18) (.tmp 19) t15 a1) h4 fun t20 h5 =>
mg t20 true (fun o1 => o1 t16 h5) h5 fun t22 h6 =>
mg t20 true (fun o2 => o2 a2 h6) h6 fun t23 h7 =>
mg t20 true (fun o3 => bareK (xbin P .eql T.string (.tmp 22) (.tmp 23) t22 t23) h7 o3) h7 fun t24 h8 =>
pickK t20 t24 (.bool false) fun t25 =>
mg t25 true (fun o4 => o4 t17 h8) h8 fun t27 h9 =>
mg t25 true (fun o5 => o5 a3 h9) h9 fun t28 h10 =>
mg t25 true (fun o6 => bareK (xbin P .eql T.int (.tmp 27) (.tmp 28) t27 t28) h10 o6) h10 fun t29 h11 =>
pickK t25 t29 (.bool false) fun t30 =>
K0 .ret [(8, t30)] h11

theorem s_law_read_eq (M : CombL) (C : CallF) (LP : LoopH) (a0 : Value) (a1 : Value) (a2 : Value) (a3 : Value) (H : AHeap) : dBodyL M Tryd.prog hints C LP F.law_read [a0, a1, a2, a3] H = s_law_read M.b.g M.c M.s Tryd.prog C a0 a1 a2 a3 H (endK Tryd.prog [.tmp 8]) := by kernel_rfl

/-! ticketline.ticketlinelaw44.next -/

noncomputable def s_law_next (mg : GT) (mc : CT) (ms : ST) (P : Program) (C : CallF) (a0 : Value) (a1 : Value) (a2 : Value) (a3 : Value) (a4 : Value) (a5 : Value) (H : AHeap) (K0 : K) : Res :=
enterK C F.pages_Next [a0, a1, a2] H fun t20 h1 =>
bareK (xextract t20 0) h1 fun t21 h2 =>
bareK (xextract t20 1) h2 fun t22 h3 =>
bareK (xextract t20 2) h3 fun t23 h4 =>
enterK C F.law_same [t21, a3] h4 fun t26 h5 =>
mg t26 true (fun o1 => o1 t22 h5) h5 fun t28 h6 =>
mg t26 true (fun o2 => o2 a4 h6) h6 fun t29 h7 =>
mg t26 true (fun o3 => bareK (xbin P .eql T.string (.tmp 28) (.tmp 29) t28 t29) h7 o3) h7 fun t30 h8 =>
pickK t26 t30 (.bool false) fun t31 =>
mg t31 true (fun o4 => o4 t23 h8) h8 fun t33 h9 =>
mg t31 true (fun o5 => o5 a5 h9) h9 fun t34 h10 =>
mg t31 true (fun o6 => bareK (xbin P .eql T.int (.tmp 33) (.tmp 34) t33 t34) h10 o6) h10 fun t35 h11 =>
pickK t31 t35 (.bool false) fun t36 =>
K0 .ret [(12, t36)] h11

theorem s_law_next_eq (M : CombL) (C : CallF) (LP : LoopH) (a0 : Value) (a1 : Value) (a2 : Value) (a3 : Value) (a4 : Value) (a5 : Value) (H : AHeap) : dBodyL M Tryd.prog hints C LP F.law_next [a0, a1, a2, a3, a4, a5] H = s_law_next M.b.g M.c M.s Tryd.prog C a0 a1 a2 a3 a4 a5 H (endK Tryd.prog [.tmp 12]) := by kernel_rfl

/-! ticketline.pages.First -/

noncomputable def s_pages_First (mg : GT) (mc : CT) (ms : ST) (P : Program) (C : CallF) (a0 : Value) (a1 : Value) (a2 : Value) (a3 : Value) (H : AHeap) (K0 : K) : Res :=
enterK C F.pages_allowed [a0, a3] H fun t14 h1 =>
bareK (xbin P .neq T.api_Errno (.tmp 15) (.const (.int .i64 0)) t14 (.int .i64 0)) h1 fun t16 h2 =>
mc t16 (fun k1 => k1 .ret [(8, (.slice none 0 0)), (9, (.string (mk []))), (10, t14)] h2) (fun k1 =>
k1 .normal [(0, a0), (1, a1), (2, a2), (3, a3)] h2) (seqK (fun tT h3 =>
ms (fun k2 =>
bareK (lenT (get tT 1)) h3 fun t20 h4 =>
bareK (xbin P .gtr T.int (.tmp 20) (.const (.int .i64 24)) t20 (.int .i64 24)) h4 fun t21 h5 =>
mg t21 false (fun o3 => o3 (get tT 2) h5) h5 fun t23 h6 =>
mg t21 false (fun o4 => bareK (lenT t23) h6 o4) h6 fun t24 h7 =>
mg t21 false (fun o5 => bareK (xbin P .gtr T.int (.tmp 24) (.const (.int .i64 24)) t24 (.int .i64 24)) h7 o5) h7 fun t25 h8 =>
pickK t21 (.bool true) t25 fun t26 =>
mc t26 (fun k6 => k6 .ret [(8, (.slice none 0 0)), (9, (.string (mk []))), (10, (.int .i64 5))] h8) (fun k6 =>
bareK (xbin P .neq T.string (.tmp 28) (.const (.string (mk []))) (get tT 2) (.string (mk []))) h8 fun t29 h9 =>
mg t29 true (fun o7 => o7 (get tT 2) h9) h9 fun t31 h10 =>
mg t29 true (fun o8 => o8 (get tT 1) h10) h10 fun t32 h11 =>
mg t29 true (fun o9 => bareK (xbin P .leq T.string (.tmp 31) (.tmp 32) t31 t32) h11 o9) h11 fun t33 h12 =>
pickK t29 t33 (.bool false) fun t34 =>
mc t34 (fun k10 => k10 .ret [(8, (.slice none 0 0)), (9, (.string (mk []))), (10, (.int .i64 13))] h12) (fun k10 =>
k10 .normal [(0, (get tT 0)), (1, (get tT 1)), (2, (get tT 2)), (3, (get tT 3))] h12) (afterK [0, 1, 2, 3] k6)) (blkK [0, 1, 2, 3] 0 k2)) (seqK (fun tT_1 h13 =>
enterK C F.pages_page [(get tT_1 0), (get tT_1 1), (.bool false), (get tT_1 2), (get tT_1 3)] h13 fun t40 h14 =>
bareK (xextract t40 0) h14 fun t41 h15 =>
bareK (xextract t40 1) h15 fun t42 h16 =>
K0 .ret [(8, t41), (9, t42), (10, (.int .i64 0))] h16) K0)) K0)

theorem s_pages_First_eq (M : CombL) (C : CallF) (LP : LoopH) (a0 : Value) (a1 : Value) (a2 : Value) (a3 : Value) (H : AHeap) : dBodyL M Tryd.prog hints C LP F.pages_First [a0, a1, a2, a3] H = s_pages_First M.b.g M.c M.s Tryd.prog C a0 a1 a2 a3 H (endK Tryd.prog [.tmp 8, .tmp 9, .tmp 10]) := by kernel_rfl

/-! (*ticketline.model.Model).Delete -/

noncomputable def s_model_Model_Delete (mg : GT) (mc : CT) (ms : ST) (P : Program) (C : CallF) (a0 : Value) (a1 : Value) (H : AHeap) (K0 : K) : Res :=
enterK C F.model_Model_Get [a0, a1] H fun t13 h1 =>
bareK (xextract t13 0) h1 fun t14 h2 =>
bareK (xextract t13 1) h2 fun t15 h3 =>
bareK (xbin P .neq T.api_Errno (.tmp 16) (.const (.int .i64 0)) t15 (.int .i64 0)) h3 fun t17 h4 =>
mc t17 (fun k1 => k1 .ret [(4, (.string (mk []))), (5, t15)] h4) (fun k1 =>
k1 .normal [(0, a0), (1, a1), (6, t14)] h4) (seqK (fun tT h5 =>
enterK C F.model_Model_place [(get tT 0), (get tT 1)] h5 fun t22 h6 =>
bareK (xextract t22 0) h6 fun t23 h7 =>
bareK (xextract t22 1) h7 fun t24 h8 =>
bareK (xnilCheck (get tT 0)) h8 fun t27 h9 =>
bareK (fad 0 t27) h9 fun t28 h10 =>
bareK (ld1 h10 t28) h10 fun t29 h11 =>
bareK (xbin P .add T.int (.tmp 31) (.const (.int .i64 1)) t23 (.int .i64 1)) h11 fun t32 h12 =>
enterK C F.slices_Delete_Pair [t29, t23, t32] h12 fun t33 h13 =>
bareK (xnilCheck (get tT 0)) h13 fun t34 h14 =>
bareK (fad 0 t34) h14 fun t35 h15 =>
quietK (st1 h15 t35 t33) fun _ h16 =>
K0 .ret [(4, (get tT 6)), (5, (.int .i64 0))] h16) K0)

theorem s_model_Model_Delete_eq (M : CombL) (C : CallF) (LP : LoopH) (a0 : Value) (a1 : Value) (H : AHeap) : dBodyL M Tryd.prog hints C LP F.model_Model_Delete [a0, a1] H = s_model_Model_Delete M.b.g M.c M.s Tryd.prog C a0 a1 H (endK Tryd.prog [.tmp 4, .tmp 5]) := by kernel_rfl

/-! (*ticketline.model.Model).Put -/

noncomputable def s_model_Model_Put (mg : GT) (mc : CT) (ms : ST) (P : Program) (C : CallF) (a0 : Value) (a1 : Value) (a2 : Value) (H : AHeap) (K0 : K) : Res :=
bothK (bldL T.string [(.string (mk []))] 1 [(0, a2)] H) fun t14 h1 =>
enterK C F.model_Model_at [a0, a1, t14] h1 fun t15 h2 =>
bareK (xextract t15 0) h2 fun t16 h3 =>
bareK (xextract t15 1) h3 fun t17 h4 =>
bareK (xextract t15 2) h4 fun t18 h5 =>
bareK (xbin P .neq T.api_Errno (.tmp 19) (.const (.int .i64 0)) t18 (.int .i64 0)) h5 fun t20 h6 =>
mc t20 (fun k1 => k1 .ret [(6, t18)] h6) (fun k1 =>
k1 .normal [(0, a0), (1, a1), (2, a2), (7, t16), (8, t17)] h6) (seqK (fun tT h7 =>
bareK (bldS #[(.string (mk [])), (.string (mk []))] [(0, 1), (1, 1)] [(0, (get tT 1)), (1, (get tT 2))]) h7 fun t27 h8 =>
enterK C F.model_Model_set [(get tT 0), (get tT 7), (get tT 8), t27] h8 fun t28 h9 =>
K0 .ret [(6, t28)] h9) K0)

theorem s_model_Model_Put_eq (M : CombL) (C : CallF) (LP : LoopH) (a0 : Value) (a1 : Value) (a2 : Value) (H : AHeap) : dBodyL M Tryd.prog hints C LP F.model_Model_Put [a0, a1, a2] H = s_model_Model_Put M.b.g M.c M.s Tryd.prog C a0 a1 a2 H (endK Tryd.prog [.tmp 6]) := by kernel_rfl

/-! ticketline.pages.Next -/

noncomputable def s_pages_Next (mg : GT) (mc : CT) (ms : ST) (P : Program) (C : CallF) (a0 : Value) (a1 : Value) (a2 : Value) (H : AHeap) (K0 : K) : Res :=
enterK C F.pages_allowed [a0, a2] H fun t14 h1 =>
bareK (xbin P .neq T.api_Errno (.tmp 15) (.const (.int .i64 0)) t14 (.int .i64 0)) h1 fun t16 h2 =>
mc t16 (fun k1 => k1 .ret [(6, (.slice none 0 0)), (7, (.string (mk []))), (8, t14)] h2) (fun k1 =>
k1 .normal [(0, a0), (1, a1), (2, a2)] h2) (seqK (fun tT h3 =>
enterK C F.pages_Read [(get tT 1)] h3 fun t20 h4 =>
bareK (xextract t20 0) h4 fun t21 h5 =>
bareK (xextract t20 1) h5 fun t22 h6 =>
bareK (xextract t20 2) h6 fun t23 h7 =>
bareK (xbin P .neq T.api_Errno (.tmp 24) (.const (.int .i64 0)) t23 (.int .i64 0)) h7 fun t25 h8 =>
mc t25 (fun k2 => k2 .ret [(6, (.slice none 0 0)), (7, (.string (mk []))), (8, t23)] h8) (fun k2 =>
k2 .normal [(0, (get tT 0)), (2, (get tT 2)), (10, t21), (11, t22)] h8) (seqK (fun tT_1 h9 =>
enterK C F.pages_page [(get tT_1 0), (get tT_1 11), (.bool true), (get tT_1 10), (get tT_1 2)] h9 fun t32 h10 =>
bareK (xextract t32 0) h10 fun t33 h11 =>
bareK (xextract t32 1) h11 fun t34 h12 =>
K0 .ret [(6, t33), (7, t34), (8, (.int .i64 0))] h12) K0)) K0)

theorem s_pages_Next_eq (M : CombL) (C : CallF) (LP : LoopH) (a0 : Value) (a1 : Value) (a2 : Value) (H : AHeap) : dBodyL M Tryd.prog hints C LP F.pages_Next [a0, a1, a2] H = s_pages_Next M.b.g M.c M.s Tryd.prog C a0 a1 a2 H (endK Tryd.prog [.tmp 6, .tmp 7, .tmp 8]) := by kernel_rfl

/-! ticketline.ticketlinelaw44.same -/

noncomputable def s_law_same (mg : GT) (mc : CT) (ms : ST) (P : Program) (C : CallF) (L0 : Value → Value → Value → AHeap → K → Res) (a0 : Value) (a1 : Value) (H : AHeap) (K0 : K) : Res :=
bareK (lenS a0) H fun t7 h1 =>
bareK (lenS a1) h1 fun t9 h2 =>
bareK (xbin P .neq T.int (.tmp 7) (.tmp 9) t7 t9) h2 fun t10 h3 =>
mc t10 (fun k1 => k1 .ret [(4, (.bool false))] h3) (fun k1 =>
k1 .normal [(0, a0), (1, a1)] h3) (seqK (fun tT h4 =>
ms (fun k2 =>
L0 (get tT 0) (get tT 1) (.int .i64 0) h4 (blkK [] 0 k2)) (seqK (fun tT_1 h5 =>
K0 .ret [(4, (.bool true))] h5) K0)) K0)

noncomputable def s_law_same_b0 (mg : GT) (mc : CT) (ms : ST) (P : Program) (C : CallF) (L0 : Value → Value → Value → AHeap → K → Res) (v0 : Value) (v1 : Value) (v5 : Value) (H : AHeap) (k : K) : Res :=
bareK (lenS v0) H fun t13 h5 =>
bareK (xbin P .lss T.int (.tmp 11) (.tmp 13) v5 t13) h5 fun t14 h6 =>
mc t14 (fun k3 => k3 .normal [(0, v0), (1, v1), (5, v5)] h6) (fun k3 =>
k3 (.exit 0) [(14, t14), (13, t13), (12, v0), (11, v5), (0, v0), (1, v1), (5, v5)] h6) (seqK (fun tT h7 =>
ms (fun k4 =>
bareK (ixS 2 (get tT 0) (get tT 5)) h7 fun t19 h8 =>
bareK (ldN 2 h8 t19) h8 fun t20 h9 =>
bareK (ixS 2 (get tT 1) (get tT 5)) h9 fun t23 h10 =>
bareK (ldN 2 h10 t23) h10 fun t24 h11 =>
bareK (xbin P .neq T.api_Pair (.tmp 20) (.tmp 24) t20 t24) h11 fun t25 h12 =>
checkK true <|
mc t25 (fun k5 => k5 .ret [(4, (.bool false))] h12) (fun k5 =>
k5 .normal [(0, (get tT 0)), (1, (get tT 1)), (5, (get tT 5))] h12) (blkK [0, 1, 5] 1 k4)) (seqK (fun tT_1 h13 =>
bareK (xbin P .add T.int (.tmp 15) (.const (.int .i64 1)) (get tT_1 5) (.int .i64 1)) h13 fun t16 h14 =>
k .normal [(0, (get tT_1 0)), (1, (get tT_1 1)), (5, t16)] h14) (afterK [0, 1, 5] k))) (afterK [0, 1, 5] k))

theorem s_law_same_eq (M : CombL) (C : CallF) (LP : LoopH) (a0 : Value) (a1 : Value) (H : AHeap) : dBodyL M Tryd.prog hints C LP F.law_same [a0, a1] H = s_law_same M.b.g M.c M.s Tryd.prog C (fun v0 v1 v5 H k => loopL M Tryd.prog hints C LP F.law_same 0 [(0, v0), (1, v1), (5, v5)] H k) a0 a1 H (endK Tryd.prog [.tmp 4]) := by kernel_rfl

theorem s_law_same_b0_eq (M : CombL) (C : CallF) (LP : LoopH) (v0 : Value) (v1 : Value) (v5 : Value) (H : AHeap) (k : K) : bodyL M Tryd.prog hints C LP F.law_same 0 [(0, v0), (1, v1), (5, v5)] H (afterK [0, 1, 5] k) = s_law_same_b0 M.b.g M.c M.s Tryd.prog C (fun v0 v1 v5 H k => loopL M Tryd.prog hints C LP F.law_same 0 [(0, v0), (1, v1), (5, v5)] H k) v0 v1 v5 H k := by kernel_rfl

/-! ticketline.model.Of -/

noncomputable def s_model_Of (mg : GT) (mc : CT) (ms : ST) (P : Program) (C : CallF) (L0 : Value → Value → Value → Value → AHeap → K → Res) (a0 : Value) (H : AHeap) (K0 : K) : Res :=
bareK (lenS a0) H fun t8 h1 =>
ms (fun k1 =>
L0 a0 a0 t8 (.int .i64 0) h1 (blkK [0] 0 k1)) (seqK (fun tT h2 =>
bareK (lenS (get tT 0)) h2 fun t39 h3 =>
bareK (xbin P .gtr T.int (.tmp 39) (.const (.int .i64 20000)) t39 (.int .i64 20000)) h3 fun t40 h4 =>
mc t40 (fun k2 => k2 .ret [(2, (.pointer none)), (3, (.int .i64 7))] h4) (fun k2 =>
k2 .normal [(0, (get tT 0))] h4) (seqK (fun tT_1 h5 =>
enterK C F.slices_Clone_Pair [(get tT_1 0)] h5 fun t42 h6 =>
bareK (bldS #[(.slice none 0 0)] [(0, 1)] [(0, t42)]) h6 fun t43 h7 =>
bothK (newv T.model_Model t43 h7) fun t44 h8 =>
K0 .ret [(2, t44), (3, (.int .i64 0))] h8) K0)) K0)

noncomputable def s_model_Of_b0 (mg : GT) (mc : CT) (ms : ST) (P : Program) (C : CallF) (L0 : Value → Value → Value → Value → AHeap → K → Res) (v0 : Value) (v7 : Value) (v8 : Value) (v9 : Value) (H : AHeap) (k : K) : Res :=
bareK (xbin P .lss T.int (.tmp 9) (.tmp 8) v9 v8) H fun t10 h2 =>
mc t10 (fun k2 => k2 .normal [(0, v0), (7, v7), (8, v8), (9, v9)] h2) (fun k2 =>
k2 (.exit 0) [(10, t10), (0, v0), (7, v7), (8, v8), (9, v9)] h2) (seqK (fun tT h3 =>
ms (fun k3 =>
bareK (ixS 2 (get tT 7) (get tT 9)) h3 fun t12 h4 =>
bareK (ldN 2 h4 t12) h4 fun t13 h5 =>
bothK (newv T.api_Pair (.agg #[(.string (mk [])), (.string (mk []))]) h5) fun t5 h6 =>
quietK (stN 2 h6 t5 t13) fun _ h7 =>
bareK (fad 0 t5) h7 fun t14 h8 =>
bareK (ld1 h8 t14) h8 fun t15 h9 =>
bareK (fad 1 t5) h9 fun t16 h10 =>
bareK (ld1 h10 t16) h10 fun t17 h11 =>
bothK (bldL T.string [(.string (mk []))] 1 [(0, t17)] h11) fun t18 h12 =>
enterK C F.model_check [t15, t18] h12 fun t19 h13 =>
bareK (xbin P .neq T.api_Errno (.tmp 20) (.const (.int .i64 0)) t19 (.int .i64 0)) h13 fun t21 h14 =>
mc t21 (fun k4 => k4 .ret [(2, (.pointer none)), (3, t19)] h14) (fun k4 =>
k4 .normal [(0, (get tT 0)), (4, (get tT 9)), (5, t5), (7, (get tT 7)), (8, (get tT 8)), (9, (get tT 9))] h14) (seqK (fun tT_1 h15 =>
bareK (xbin P .gtr T.int (.tmp 23) (.const (.int .i64 0)) (get tT_1 4) (.int .i64 0)) h15 fun t24 h16 =>
mg t24 true (fun o5 => o5 (get tT_1 0) h16) h16 fun t26 h17 =>
mg t24 true (fun o6 => o6 (get tT_1 4) h17) h17 fun t27 h18 =>
mg t24 true (fun o7 => bareK (xbin P .sub T.int (.tmp 27) (.const (.int .i64 1)) t27 (.int .i64 1)) h18 o7) h18 fun t28 h19 =>
mg t24 true (fun o8 => bareK (ixS 2 t26 t28) h19 o8) h19 fun t29 h20 =>
mg t24 true (fun o9 => bareK (fad 0 t29) h20 o9) h20 fun t30 h21 =>
mg t24 true (fun o10 => bareK (ld1 h21 t30) h21 o10) h21 fun t31 h22 =>
mg t24 true (fun o11 => bareK (fad 0 (get tT_1 5)) h22 o11) h22 fun t32 h23 =>
mg t24 true (fun o12 => bareK (ld1 h23 t32) h23 o12) h23 fun t33 h24 =>
mg t24 true (fun o13 => enterK C F.keys_Compare [t31, t33] h24 o13) h24 fun t34 h25 =>
mg t24 true (fun o14 => bareK (xbin P .geq T.int (.tmp 34) (.const (.int .i64 0)) t34 (.int .i64 0)) h25 o14) h25 fun t35 h26 =>
pickK t24 t35 (.bool false) fun t36 =>
checkK true <|
mc t36 (fun k15 => k15 .ret [(2, (.pointer none)), (3, (.int .i64 13))] h26) (fun k15 =>
k15 .normal [(0, (get tT_1 0)), (7, (get tT_1 7)), (8, (get tT_1 8)), (9, (get tT_1 9))] h26) (blkK [0, 7, 8, 9] 1 k3)) (blkK [0, 7, 8, 9] 1 k3))) (seqK (fun tT_2 h27 =>
bareK (xbin P .add T.int (.tmp 9) (.const (.int .i64 1)) (get tT_2 9) (.int .i64 1)) h27 fun t37 h28 =>
k .normal [(0, (get tT_2 0)), (7, (get tT_2 7)), (8, (get tT_2 8)), (9, t37)] h28) (afterK [0, 7, 8, 9] k))) (afterK [0, 7, 8, 9] k))

theorem s_model_Of_eq (M : CombL) (C : CallF) (LP : LoopH) (a0 : Value) (H : AHeap) : dBodyL M Tryd.prog hints C LP F.model_Of [a0] H = s_model_Of M.b.g M.c M.s Tryd.prog C (fun v0 v7 v8 v9 H k => loopL M Tryd.prog hints C LP F.model_Of 0 [(0, v0), (7, v7), (8, v8), (9, v9)] H k) a0 H (endK Tryd.prog [.tmp 2, .tmp 3]) := by kernel_rfl

theorem s_model_Of_b0_eq (M : CombL) (C : CallF) (LP : LoopH) (v0 : Value) (v7 : Value) (v8 : Value) (v9 : Value) (H : AHeap) (k : K) : bodyL M Tryd.prog hints C LP F.model_Of 0 [(0, v0), (7, v7), (8, v8), (9, v9)] H (afterK [0, 7, 8, 9] k) = s_model_Of_b0 M.b.g M.c M.s Tryd.prog C (fun v0 v7 v8 v9 H k => loopL M Tryd.prog hints C LP F.model_Of 0 [(0, v0), (7, v7), (8, v8), (9, v9)] H k) v0 v7 v8 v9 H k := by kernel_rfl

/-! ticketline.pages.All -/

noncomputable def s_pages_All (mg : GT) (mc : CT) (ms : ST) (P : Program) (C : CallF) (L0 : Value → Value → Value → Value → Value → AHeap → K → Res) (a0 : Value) (a1 : Value) (a2 : Value) (a3 : Value) (H : AHeap) (K0 : K) : Res :=
enterK C F.pages_First [a0, a1, a2, a3] H fun t19 h1 =>
bareK (xextract t19 0) h1 fun t20 h2 =>
bareK (xextract t19 1) h2 fun t21 h3 =>
bareK (xextract t19 2) h3 fun t22 h4 =>
bareK (xbin P .neq T.api_Errno (.tmp 23) (.const (.int .i64 0)) t22 (.int .i64 0)) h4 fun t24 h5 =>
mc t24 (fun k1 => k1 .ret [(8, (.slice none 0 0)), (9, t22)] h5) (fun k1 =>
k1 .normal [(0, a0), (3, a3), (10, t20), (11, t21)] h5) (seqK (fun tT h6 =>
ms (fun k2 =>
L0 (get tT 0) (get tT 3) (get tT 10) (get tT 11) (.slice none 0 0) h6 (blkK [13] 0 k2)) (seqK (fun tT_1 h7 =>
K0 .ret [(8, (get tT_1 13)), (9, (.int .i64 0))] h7) K0)) K0)

noncomputable def s_pages_All_b0 (mg : GT) (mc : CT) (ms : ST) (P : Program) (C : CallF) (L0 : Value → Value → Value → Value → Value → AHeap → K → Res) (v0 : Value) (v3 : Value) (v10 : Value) (v11 : Value) (v13 : Value) (H : AHeap) (k : K) : Res :=
bareK (lenS v10) H fun t27 h7 =>
bareK (xbin P .gtr T.int (.tmp 27) (.const (.int .i64 0)) t27 (.int .i64 0)) h7 fun t28 h8 =>
mc t28 (fun k3 => k3 .normal [(0, v0), (3, v3), (10, v10), (11, v11), (13, v13)] h8) (fun k3 =>
k3 (.exit 0) [(28, t28), (27, t27), (26, v10), (0, v0), (3, v3), (10, v10), (11, v11), (13, v13)] h8) (seqK (fun tT h9 =>
ms (fun k4 =>
bothK (bldL T.sl_api_Pair [(.slice none 0 0)] 1 [(0, (get tT 10))] h9) fun t31 h10 =>
bothK (app T.sl_api_Pair 1 24 (get tT 13) (srcS 1 t31 h10) h10) fun t32 h11 =>
bareK (xbin P .eql T.string (.tmp 33) (.const (.string (mk []))) (get tT 11) (.string (mk []))) h11 fun t34 h12 =>
mc t34 (fun k5 => k5 (.exit 0) ((34, t34) :: (33, (get tT 11)) :: (13, t32) :: (32, t32) :: (31, t31) :: (30, (get tT 10)) :: (29, (get tT 13)) :: tT) h12) (fun k5 =>
k5 .normal [(0, (get tT 0)), (3, (get tT 3)), (11, (get tT 11)), (13, t32)] h12) (seqK (fun tT_1 h13 =>
enterK C F.pages_Next [(get tT_1 0), (get tT_1 11), (get tT_1 3)] h13 fun t39 h14 =>
bareK (xextract t39 0) h14 fun t40 h15 =>
bareK (xextract t39 1) h15 fun t41 h16 =>
bareK (xextract t39 2) h16 fun t42 h17 =>
bareK (xbin P .neq T.api_Errno (.tmp 43) (.const (.int .i64 0)) t42 (.int .i64 0)) h17 fun t44 h18 =>
mc t44 (fun k6 => k6 .ret [(8, (.slice none 0 0)), (9, t42)] h18) (fun k6 =>
k6 .normal [(0, (get tT_1 0)), (3, (get tT_1 3)), (10, t40), (11, t41), (13, (get tT_1 13))] h18) (blkK [0, 3, 10, 11, 13] 1 k4)) (blkK [0, 3, 10, 11, 13] 1 k4))) (afterK [0, 3, 10, 11, 13] k)) (afterK [0, 3, 10, 11, 13] k))

theorem s_pages_All_eq (M : CombL) (C : CallF) (LP : LoopH) (a0 : Value) (a1 : Value) (a2 : Value) (a3 : Value) (H : AHeap) : dBodyL M Tryd.prog hints C LP F.pages_All [a0, a1, a2, a3] H = s_pages_All M.b.g M.c M.s Tryd.prog C (fun v0 v3 v10 v11 v13 H k => loopL M Tryd.prog hints C LP F.pages_All 0 [(0, v0), (3, v3), (10, v10), (11, v11), (13, v13)] H k) a0 a1 a2 a3 H (endK Tryd.prog [.tmp 8, .tmp 9]) := by kernel_rfl

theorem s_pages_All_b0_eq (M : CombL) (C : CallF) (LP : LoopH) (v0 : Value) (v3 : Value) (v10 : Value) (v11 : Value) (v13 : Value) (H : AHeap) (k : K) : bodyL M Tryd.prog hints C LP F.pages_All 0 [(0, v0), (3, v3), (10, v10), (11, v11), (13, v13)] H (afterK [0, 3, 10, 11, 13] k) = s_pages_All_b0 M.b.g M.c M.s Tryd.prog C (fun v0 v3 v10 v11 v13 H k => loopL M Tryd.prog hints C LP F.pages_All 0 [(0, v0), (3, v3), (10, v10), (11, v11), (13, v13)] H k) v0 v3 v10 v11 v13 H k := by kernel_rfl

/-! (*ticketline.model.Model).Pairs -/

noncomputable def s_model_Model_Pairs (mg : GT) (mc : CT) (ms : ST) (P : Program) (C : CallF) (a0 : Value) (H : AHeap) (K0 : K) : Res :=
bareK (xbin P .eql T.p_model_Model (.tmp 3) (.const (.pointer none)) a0 (.pointer none)) H fun t4 h1 =>
mc t4 (fun k1 => k1 .ret [(2, (.slice none 0 0))] h1) (fun k1 =>
k1 .normal [(0, a0)] h1) (seqK (fun tT h2 =>
bareK (xnilCheck (get tT 0)) h2 fun t6 h3 =>
bareK (fad 0 t6) h3 fun t7 h4 =>
bareK (ld1 h4 t7) h4 fun t8 h5 =>
enterK C F.slices_Clone_Pair [t8] h5 fun t9 h6 =>
K0 .ret [(2, t9)] h6) K0)

theorem s_model_Model_Pairs_eq (M : CombL) (C : CallF) (LP : LoopH) (a0 : Value) (H : AHeap) : dBodyL M Tryd.prog hints C LP F.model_Model_Pairs [a0] H = s_model_Model_Pairs M.b.g M.c M.s Tryd.prog C a0 H (endK Tryd.prog [.tmp 2]) := by kernel_rfl

/-! ticketline.ticketlinelaw44.hexed -/

noncomputable def s_law_hexed (mg : GT) (mc : CT) (ms : ST) (P : Program) (C : CallF) (L0 : Value → Value → Value → AHeap → K → Res) (L1 : Value → Value → Value → Value → Value → Value → AHeap → K → Res) (a0 : Value) (H : AHeap) (K0 : K) : Res :=
ms (fun k1 =>
L0 a0 (.slice none 0 0) (.int .i64 0) H (blkK [3] 0 k1)) (seqK (fun tT h1 =>
bothK (xconv P T.sl_uint8 T.string (get tT 3) h1) fun t42 h2 =>
K0 .ret [(2, t42)] h2) K0)

noncomputable def s_law_hexed_b0 (mg : GT) (mc : CT) (ms : ST) (P : Program) (C : CallF) (L0 : Value → Value → Value → AHeap → K → Res) (L1 : Value → Value → Value → Value → Value → Value → AHeap → K → Res) (v0 : Value) (v3 : Value) (v4 : Value) (H : AHeap) (k : K) : Res :=
bareK (lenT v0) H fun t9 h1 =>
bareK (xbin P .lss T.int (.tmp 7) (.tmp 9) v4 t9) h1 fun t10 h2 =>
mc t10 (fun k2 => k2 .normal [(0, v0), (3, v3), (4, v4)] h2) (fun k2 =>
k2 (.exit 0) [(10, t10), (9, t9), (8, v0), (7, v4), (0, v0), (3, v3), (4, v4)] h2) (seqK (fun tT h3 =>
ms (fun k3 =>
bareK (xindex P T.string (get tT 0) (get tT 4)) h3 fun t15 h4 =>
bareK (xbin P .quo T.uint8 (.tmp 15) (.const (.int .u8 16)) t15 (.int .u8 16)) h4 fun t16 h5 =>
bareK (xindex P T.string (get tT 0) (get tT 4)) h5 fun t19 h6 =>
bareK (xbin P .rem T.uint8 (.tmp 19) (.const (.int .u8 16)) t19 (.int .u8 16)) h6 fun t20 h7 =>
bothK (bldL T.uint8 [(.int .u8 0)] 2 [(0, t16), (1, t20)] h7) fun t21 h8 =>
bareK (lenS t21) h8 fun t22 h9 =>
checkK true <|
ms (fun k4 =>
L1 (get tT 0) (get tT 3) (get tT 4) t21 t22 (.int .i64 0) h9 (blkK [0, 3, 4] 2 k4)) (blkK [0, 3, 4] 1 k3)) (seqK (fun tT_1 h10 =>
bareK (xbin P .add T.int (.tmp 11) (.const (.int .i64 1)) (get tT_1 4) (.int .i64 1)) h10 fun t12 h11 =>
k .normal [(0, (get tT_1 0)), (3, (get tT_1 3)), (4, t12)] h11) (afterK [0, 3, 4] k))) (afterK [0, 3, 4] k))

noncomputable def s_law_hexed_b1 (mg : GT) (mc : CT) (ms : ST) (P : Program) (C : CallF) (L0 : Value → Value → Value → AHeap → K → Res) (L1 : Value → Value → Value → Value → Value → Value → AHeap → K → Res) (v0 : Value) (v3 : Value) (v4 : Value) (v21 : Value) (v22 : Value) (v23 : Value) (H : AHeap) (k : K) : Res :=
bareK (xbin P .lss T.int (.tmp 23) (.tmp 22) v23 v22) H fun t24 h10 =>
mc t24 (fun k5 => k5 .normal [(0, v0), (3, v3), (4, v4), (21, v21), (22, v22), (23, v23)] h10) (fun k5 =>
k5 (.exit 2) [(24, t24), (0, v0), (3, v3), (4, v4), (21, v21), (22, v22), (23, v23)] h10) (seqK (fun tT h11 =>
ms (fun k6 =>
bareK (ixS 1 (get tT 21) (get tT 23)) h11 fun t25 h12 =>
bareK (ld1 h12 t25) h12 fun t26 h13 =>
bareK (xbin P .lss T.uint8 (.tmp 27) (.const (.int .u8 10)) t26 (.int .u8 10)) h13 fun t28 h14 =>
mc t28 (fun k7 => bareK (xbin P .add T.uint8 (.const (.int .u8 48)) (.tmp 30) (.int .u8 48) t26) h14 fun t31 h15 =>
bothK (bldL T.uint8 [(.int .u8 0)] 1 [(0, t31)] h15) fun t32 h16 =>
bothK (app T.uint8 1 1 (get tT 3) (srcS 1 t32 h16) h16) fun t33 h17 =>
k7 .normal [(0, (get tT 0)), (3, t33), (4, (get tT 4)), (21, (get tT 21)), (22, (get tT 22)), (23, (get tT 23))] h17) (fun k7 =>
bareK (xbin P .add T.uint8 (.const (.int .u8 97)) (.tmp 35) (.int .u8 97) t26) h14 fun t36 h18 =>
bareK (xbin P .sub T.uint8 (.tmp 36) (.const (.int .u8 10)) t36 (.int .u8 10)) h18 fun t37 h19 =>
bothK (bldL T.uint8 [(.int .u8 0)] 1 [(0, t37)] h19) fun t38 h20 =>
bothK (app T.uint8 1 1 (get tT 3) (srcS 1 t38 h20) h20) fun t39 h21 =>
k7 .normal [(0, (get tT 0)), (3, t39), (4, (get tT 4)), (21, (get tT 21)), (22, (get tT 22)), (23, (get tT 23))] h21) (blkK [0, 3, 4, 21, 22, 23] 3 k6)) (seqK (fun tT_1 h22 =>
bareK (xbin P .add T.int (.tmp 23) (.const (.int .i64 1)) (get tT_1 23) (.int .i64 1)) h22 fun t40 h23 =>
k .normal [(0, (get tT_1 0)), (3, (get tT_1 3)), (4, (get tT_1 4)), (21, (get tT_1 21)), (22, (get tT_1 22)), (23, t40)] h23) (afterK [0, 3, 4, 21, 22, 23] k))) (afterK [0, 3, 4, 21, 22, 23] k))

theorem s_law_hexed_eq (M : CombL) (C : CallF) (LP : LoopH) (a0 : Value) (H : AHeap) : dBodyL M Tryd.prog hints C LP F.law_hexed [a0] H = s_law_hexed M.b.g M.c M.s Tryd.prog C (fun v0 v3 v4 H k => loopL M Tryd.prog hints C LP F.law_hexed 0 [(0, v0), (3, v3), (4, v4)] H k) (fun v0 v3 v4 v21 v22 v23 H k => loopL M Tryd.prog hints C LP F.law_hexed 1 [(0, v0), (3, v3), (4, v4), (21, v21), (22, v22), (23, v23)] H k) a0 H (endK Tryd.prog [.tmp 2]) := by kernel_rfl

theorem s_law_hexed_b0_eq (M : CombL) (C : CallF) (LP : LoopH) (v0 : Value) (v3 : Value) (v4 : Value) (H : AHeap) (k : K) : bodyL M Tryd.prog hints C LP F.law_hexed 0 [(0, v0), (3, v3), (4, v4)] H (afterK [0, 3, 4] k) = s_law_hexed_b0 M.b.g M.c M.s Tryd.prog C (fun v0 v3 v4 H k => loopL M Tryd.prog hints C LP F.law_hexed 0 [(0, v0), (3, v3), (4, v4)] H k) (fun v0 v3 v4 v21 v22 v23 H k => loopL M Tryd.prog hints C LP F.law_hexed 1 [(0, v0), (3, v3), (4, v4), (21, v21), (22, v22), (23, v23)] H k) v0 v3 v4 H k := by kernel_rfl

theorem s_law_hexed_b1_eq (M : CombL) (C : CallF) (LP : LoopH) (v0 : Value) (v3 : Value) (v4 : Value) (v21 : Value) (v22 : Value) (v23 : Value) (H : AHeap) (k : K) : bodyL M Tryd.prog hints C LP F.law_hexed 1 [(0, v0), (3, v3), (4, v4), (21, v21), (22, v22), (23, v23)] H (afterK [0, 3, 4, 21, 22, 23] k) = s_law_hexed_b1 M.b.g M.c M.s Tryd.prog C (fun v0 v3 v4 H k => loopL M Tryd.prog hints C LP F.law_hexed 0 [(0, v0), (3, v3), (4, v4)] H k) (fun v0 v3 v4 v21 v22 v23 H k => loopL M Tryd.prog hints C LP F.law_hexed 1 [(0, v0), (3, v3), (4, v4), (21, v21), (22, v22), (23, v23)] H k) v0 v3 v4 v21 v22 v23 H k := by kernel_rfl

/-! ticketline.ticketlinelaw44.digit -/

noncomputable def s_law_digit (mg : GT) (mc : CT) (ms : ST) (P : Program) (C : CallF) (a0 : Value) (H : AHeap) (K0 : K) : Res :=
ms (fun k1 =>
bareK (xbin P .geq T.uint8 (.tmp 4) (.const (.int .u8 48)) a0 (.int .u8 48)) H fun t5 h1 =>
mg t5 true (fun o2 => o2 a0 h1) h1 fun t7 h2 =>
mg t5 true (fun o3 => bareK (xbin P .leq T.uint8 (.tmp 7) (.const (.int .u8 57)) t7 (.int .u8 57)) h2 o3) h2 fun t8 h3 =>
pickK t5 t8 (.bool false) fun t9 =>
mc t9 (fun k4 => bareK (xbin P .sub T.uint8 (.tmp 10) (.const (.int .u8 48)) a0 (.int .u8 48)) h3 fun t11 h4 =>
bothK (xconv P T.uint8 T.int t11 h4) fun t12 h5 =>
k4 .ret [(2, t12)] h5) (fun k4 =>
bareK (xbin P .geq T.uint8 (.tmp 14) (.const (.int .u8 97)) a0 (.int .u8 97)) h3 fun t15 h6 =>
mg t15 true (fun o5 => o5 a0 h6) h6 fun t17 h7 =>
mg t15 true (fun o6 => bareK (xbin P .leq T.uint8 (.tmp 17) (.const (.int .u8 102)) t17 (.int .u8 102)) h7 o6) h7 fun t18 h8 =>
pickK t15 t18 (.bool false) fun t19 =>
mc t19 (fun k7 => bareK (xbin P .sub T.uint8 (.tmp 20) (.const (.int .u8 97)) a0 (.int .u8 97)) h8 fun t21 h9 =>
bothK (xconv P T.uint8 T.int t21 h9) fun t22 h10 =>
bareK (xbin P .add T.int (.tmp 22) (.const (.int .i64 10)) t22 (.int .i64 10)) h10 fun t23 h11 =>
k7 .ret [(2, t23)] h11) (fun k7 =>
k7 .normal [] h8) (afterK [] k4)) (blkK [] 0 k1)) (seqK (fun tT h12 =>
K0 .ret [(2, (.int .i64 (-1)))] h12) K0)

theorem s_law_digit_eq (M : CombL) (C : CallF) (LP : LoopH) (a0 : Value) (H : AHeap) : dBodyL M Tryd.prog hints C LP F.law_digit [a0] H = s_law_digit M.b.g M.c M.s Tryd.prog C a0 H (endK Tryd.prog [.tmp 2]) := by kernel_rfl

/-! ticketline.pages.Read -/

noncomputable def s_pages_Read (mg : GT) (mc : CT) (ms : ST) (P : Program) (C : CallF) (a0 : Value) (H : AHeap) (K0 : K) : Res :=
enterK C F.strings_Split [a0, (.string (mk [46]))] H fun t7 h1 =>
bareK (lenS t7) h1 fun t9 h2 =>
bareK (xbin P .neq T.int (.tmp 9) (.const (.int .i64 3)) t9 (.int .i64 3)) h2 fun t10 h3 =>
mc t10 (fun k1 => k1 .ret [(2, (.string (mk []))), (3, (.string (mk []))), (4, (.int .i64 6))] h3) (fun k1 =>
k1 .normal [(0, a0), (5, t7)] h3) (seqK (fun tT h4 =>
bareK (ixS 1 (get tT 5) (.int .i64 0)) h4 fun t12 h5 =>
bareK (ld1 h5 t12) h5 fun t13 h6 =>
enterK C F.pages_bytes [t13] h6 fun t14 h7 =>
bareK (ixS 1 (get tT 5) (.int .i64 1)) h7 fun t16 h8 =>
bareK (ld1 h8 t16) h8 fun t17 h9 =>
enterK C F.pages_bytes [t17] h9 fun t18 h10 =>
checkK (okV (some true) none h6 h7 h7 h7 && (okV (some true) none h6 h7 h7 h8 && (okV (some true) (blockOf t16) h6 h7 h8 h9 && true))) <|
enterK C F.keys_ValidKey [t18] h10 fun t20 h11 =>
bareK (xun P .not t20) h11 fun t21 h12 =>
mg t21 false (fun o2 => o2 t14 h12) h12 fun t23 h13 =>
mg t21 false (fun o3 => bareK (lenT t23) h13 o3) h13 fun t24 h14 =>
mg t21 false (fun o4 => bareK (xbin P .gtr T.int (.tmp 24) (.const (.int .i64 24)) t24 (.int .i64 24)) h14 o4) h14 fun t25 h15 =>
pickK t21 (.bool true) t25 fun t26 =>
mg t26 false (fun o5 => o5 t14 h15) h15 fun t28 h16 =>
mg t26 false (fun o6 => bareK (xbin P .neq T.string (.tmp 28) (.const (.string (mk []))) t28 (.string (mk []))) h16 o6) h16 fun t29 h17 =>
mg t26 false (fun o7 => o7 t29 h17) h17 fun t30 h18 =>
mg t30 true (fun o8 => o8 t14 h18) h18 fun t31 h19 =>
mg t30 true (fun o9 => o9 t18 h19) h19 fun t32 h20 =>
mg t30 true (fun o10 => bareK (xbin P .leq T.string (.tmp 31) (.tmp 32) t31 t32) h20 o10) h20 fun t33 h21 =>
mg t26 false (fun o11 => pickK t30 t33 (.bool false) fun v => o11 v h21) h21 fun t34 h22 =>
pickK t26 (.bool true) t34 fun t35 =>
mg t35 false (fun o12 => o12 t14 h22) h22 fun t37 h23 =>
mg t35 false (fun o13 => o13 t18 h23) h23 fun t38 h24 =>
mg t35 false (fun o14 => enterK C F.pages_marked [t37, t38] h24 o14) h24 fun t39 h25 =>
mg t35 false (fun o15 => o15 (get tT 0) h25) h25 fun t40 h26 =>
mg t35 false (fun o16 => bareK (xbin P .neq T.string (.tmp 39) (.tmp 40) t39 t40) h26 o16) h26 fun t41 h27 =>
pickK t35 (.bool true) t41 fun t42 =>
mc t42 (fun k17 => k17 .ret [(2, (.string (mk []))), (3, (.string (mk []))), (4, (.int .i64 6))] h27) (fun k17 =>
k17 .normal [(2, t14), (3, t18)] h27) (seqK (fun tT_1 h28 =>
K0 .ret [(2, (get tT_1 2)), (3, (get tT_1 3)), (4, (.int .i64 0))] h28) K0)) K0)

theorem s_pages_Read_eq (M : CombL) (C : CallF) (LP : LoopH) (a0 : Value) (H : AHeap) : dBodyL M Tryd.prog hints C LP F.pages_Read [a0] H = s_pages_Read M.b.g M.c M.s Tryd.prog C a0 H (endK Tryd.prog [.tmp 2, .tmp 3, .tmp 4]) := by kernel_rfl

/-! ticketline.pages.allowed -/

noncomputable def s_pages_allowed (mg : GT) (mc : CT) (ms : ST) (P : Program) (C : CallF) (a0 : Value) (a1 : Value) (H : AHeap) (K0 : K) : Res :=
ms (fun k1 =>
bareK (xbin P .eql T.p_model_Model (.tmp 6) (.const (.pointer none)) a0 (.pointer none)) H fun t7 h1 =>
mc t7 (fun k2 => k2 .ret [(4, (.int .i64 1))] h1) (fun k2 =>
bareK (xbin P .lss T.int (.tmp 9) (.const (.int .i64 1)) a1 (.int .i64 1)) h1 fun t10 h2 =>
mg t10 false (fun o3 => o3 a1 h2) h2 fun t12 h3 =>
mg t10 false (fun o4 => bareK (xbin P .gtr T.int (.tmp 12) (.const (.int .i64 32)) t12 (.int .i64 32)) h3 o4) h3 fun t13 h4 =>
pickK t10 (.bool true) t13 fun t14 =>
mc t14 (fun k5 => k5 .ret [(4, (.int .i64 2))] h4) (fun k5 =>
k5 .normal [] h4) (afterK [] k2)) (blkK [] 0 k1)) (seqK (fun tT h5 =>
K0 .ret [(4, (.int .i64 0))] h5) K0)

theorem s_pages_allowed_eq (M : CombL) (C : CallF) (LP : LoopH) (a0 : Value) (a1 : Value) (H : AHeap) : dBodyL M Tryd.prog hints C LP F.pages_allowed [a0, a1] H = s_pages_allowed M.b.g M.c M.s Tryd.prog C a0 a1 H (endK Tryd.prog [.tmp 4]) := by kernel_rfl

/-! ticketline.pages.page -/

noncomputable def s_pages_page (mg : GT) (mc : CT) (ms : ST) (P : Program) (C : CallF) (L0 : Value → Value → Value → Value → Value → Value → Value → Value → AHeap → K → Res) (a0 : Value) (a1 : Value) (a2 : Value) (a3 : Value) (a4 : Value) (H : AHeap) (K0 : K) : Res :=
enterK C F.model_Model_Pairs [a0] H fun t16 h1 =>
bareK (lenS t16) h1 fun t17 h2 =>
ms (fun k1 =>
L0 a1 a2 a3 a4 (.slice none 0 0) t16 t17 (.int .i64 0) h2 (blkK [12] 0 k1)) (seqK (fun tT h3 =>
K0 .ret [(10, (get tT 12)), (11, (.string (mk [])))] h3) K0)

noncomputable def s_pages_page_b0 (mg : GT) (mc : CT) (ms : ST) (P : Program) (C : CallF) (L0 : Value → Value → Value → Value → Value → Value → Value → Value → AHeap → K → Res) (v1 : Value) (v2 : Value) (v3 : Value) (v4 : Value) (v12 : Value) (v16 : Value) (v17 : Value) (v18 : Value) (H : AHeap) (k : K) : Res :=
bareK (xbin P .lss T.int (.tmp 18) (.tmp 17) v18 v17) H fun t19 h3 =>
mc t19 (fun k2 => k2 .normal [(1, v1), (2, v2), (3, v3), (4, v4), (12, v12), (16, v16), (17, v17), (18, v18)] h3) (fun k2 =>
k2 (.exit 0) [(19, t19), (1, v1), (2, v2), (3, v3), (4, v4), (12, v12), (16, v16), (17, v17), (18, v18)] h3) (seqK (fun tT h4 =>
ms (fun k3 =>
bareK (ixS 2 (get tT 16) (get tT 18)) h4 fun t20 h5 =>
bareK (ldN 2 h5 t20) h5 fun t21 h6 =>
bothK (newv T.api_Pair (.agg #[(.string (mk [])), (.string (mk []))]) h6) fun t14 h7 =>
quietK (stN 2 h7 t14 t21) fun _ h8 =>
bareK (fad 0 t14) h8 fun t22 h9 =>
bareK (ld1 h9 t22) h9 fun t23 h10 =>
bareK (xbin P .lss T.string (.tmp 23) (.tmp 24) t23 (get tT 1)) h10 fun t25 h11 =>
mg t25 false (fun o4 => o4 (get tT 2) h11) h11 fun t27 h12 =>
mg t25 false (fun o5 => o5 t27 h12) h12 fun t28 h13 =>
mg t28 true (fun o6 => bareK (fad 0 t14) h13 o6) h13 fun t29 h14 =>
mg t28 true (fun o7 => bareK (ld1 h14 t29) h14 o7) h14 fun t30 h15 =>
mg t28 true (fun o8 => o8 (get tT 1) h15) h15 fun t31 h16 =>
mg t28 true (fun o9 => bareK (xbin P .eql T.string (.tmp 30) (.tmp 31) t30 t31) h16 o9) h16 fun t32 h17 =>
mg t25 false (fun o10 => pickK t28 t32 (.bool false) fun v => o10 v h17) h17 fun t33 h18 =>
pickK t25 (.bool true) t33 fun t34 =>
mg t34 false (fun o11 => o11 (get tT 3) h18) h18 fun t36 h19 =>
mg t34 false (fun o12 => bareK (xbin P .neq T.string (.tmp 36) (.const (.string (mk []))) t36 (.string (mk []))) h19 o12) h19 fun t37 h20 =>
mg t34 false (fun o13 => o13 t37 h20) h20 fun t38 h21 =>
mg t38 true (fun o14 => bareK (fad 0 t14) h21 o14) h21 fun t39 h22 =>
mg t38 true (fun o15 => bareK (ld1 h22 t39) h22 o15) h22 fun t40 h23 =>
mg t38 true (fun o16 => o16 (get tT 3) h23) h23 fun t41 h24 =>
mg t38 true (fun o17 => bareK (xbin P .geq T.string (.tmp 40) (.tmp 41) t40 t41) h24 o17) h24 fun t42 h25 =>
mg t34 false (fun o18 => pickK t38 t42 (.bool false) fun v => o18 v h25) h25 fun t43 h26 =>
pickK t34 (.bool true) t43 fun t44 =>
mc t44 (fun k19 => k19 (.exit 1) ((44, t44) :: (43, t43) :: (42, t42) :: (41, t41) :: (40, t40) :: (39, t39) :: (38, t38) :: (37, t37) :: (36, t36) :: (35, t34) :: (34, t34) :: (33, t33) :: (32, t32) :: (31, t31) :: (30, t30) :: (29, t29) :: (28, t28) :: (27, t27) :: (26, t25) :: (25, t25) :: (24, (get tT 1)) :: (23, t23) :: (22, t22) :: (14, t14) :: (21, t21) :: (20, t20) :: tT) h26) (fun k19 =>
k19 .normal [(1, (get tT 1)), (2, (get tT 2)), (3, (get tT 3)), (4, (get tT 4)), (12, (get tT 12)), (14, t14), (16, (get tT 16)), (17, (get tT 17)), (18, (get tT 18))] h26) (seqK (fun tT_1 h27 =>
bareK (lenS (get tT_1 12)) h27 fun t46 h28 =>
bareK (xbin P .eql T.int (.tmp 46) (.tmp 47) t46 (get tT_1 4)) h28 fun t48 h29 =>
mc t48 (fun k20 => bareK (xbin P .sub T.int (.tmp 52) (.const (.int .i64 1)) (get tT_1 4) (.int .i64 1)) h29 fun t53 h30 =>
bareK (ixS 2 (get tT_1 12) t53) h30 fun t54 h31 =>
bareK (fad 0 t54) h31 fun t55 h32 =>
bareK (ld1 h32 t55) h32 fun t56 h33 =>
enterK C F.pages_marked [(get tT_1 3), t56] h33 fun t57 h34 =>
k20 .ret [(10, (get tT_1 12)), (11, t57)] h34) (fun k20 =>
k20 .normal [(1, (get tT_1 1)), (2, (get tT_1 2)), (3, (get tT_1 3)), (4, (get tT_1 4)), (12, (get tT_1 12)), (14, (get tT_1 14)), (16, (get tT_1 16)), (17, (get tT_1 17)), (18, (get tT_1 18))] h29) (seqK (fun tT_2 h35 =>
bareK (ldN 2 h35 (get tT_2 14)) h35 fun t59 h36 =>
bothK (bldL T.api_Pair [(.string (mk [])), (.string (mk []))] 1 [(0, t59)] h36) fun t60 h37 =>
bothK (app T.api_Pair 2 32 (get tT_2 12) (srcS 2 t60 h37) h37) fun t61 h38 =>
k3 .normal [(1, (get tT_2 1)), (2, (get tT_2 2)), (3, (get tT_2 3)), (4, (get tT_2 4)), (12, t61), (16, (get tT_2 16)), (17, (get tT_2 17)), (18, (get tT_2 18))] h38) (blkK [1, 2, 3, 4, 12, 16, 17, 18] 1 k3))) (blkK [1, 2, 3, 4, 12, 16, 17, 18] 1 k3))) (seqK (fun tT_3 h39 =>
bareK (xbin P .add T.int (.tmp 18) (.const (.int .i64 1)) (get tT_3 18) (.int .i64 1)) h39 fun t62 h40 =>
k .normal [(1, (get tT_3 1)), (2, (get tT_3 2)), (3, (get tT_3 3)), (4, (get tT_3 4)), (12, (get tT_3 12)), (16, (get tT_3 16)), (17, (get tT_3 17)), (18, t62)] h40) (afterK [1, 2, 3, 4, 12, 16, 17, 18] k))) (afterK [1, 2, 3, 4, 12, 16, 17, 18] k))

theorem s_pages_page_eq (M : CombL) (C : CallF) (LP : LoopH) (a0 : Value) (a1 : Value) (a2 : Value) (a3 : Value) (a4 : Value) (H : AHeap) : dBodyL M Tryd.prog hints C LP F.pages_page [a0, a1, a2, a3, a4] H = s_pages_page M.b.g M.c M.s Tryd.prog C (fun v1 v2 v3 v4 v12 v16 v17 v18 H k => loopL M Tryd.prog hints C LP F.pages_page 0 [(1, v1), (2, v2), (3, v3), (4, v4), (12, v12), (16, v16), (17, v17), (18, v18)] H k) a0 a1 a2 a3 a4 H (endK Tryd.prog [.tmp 10, .tmp 11]) := by kernel_rfl

theorem s_pages_page_b0_eq (M : CombL) (C : CallF) (LP : LoopH) (v1 : Value) (v2 : Value) (v3 : Value) (v4 : Value) (v12 : Value) (v16 : Value) (v17 : Value) (v18 : Value) (H : AHeap) (k : K) : bodyL M Tryd.prog hints C LP F.pages_page 0 [(1, v1), (2, v2), (3, v3), (4, v4), (12, v12), (16, v16), (17, v17), (18, v18)] H (afterK [1, 2, 3, 4, 12, 16, 17, 18] k) = s_pages_page_b0 M.b.g M.c M.s Tryd.prog C (fun v1 v2 v3 v4 v12 v16 v17 v18 H k => loopL M Tryd.prog hints C LP F.pages_page 0 [(1, v1), (2, v2), (3, v3), (4, v4), (12, v12), (16, v16), (17, v17), (18, v18)] H k) v1 v2 v3 v4 v12 v16 v17 v18 H k := by kernel_rfl

/-! (*ticketline.model.Model).Get -/

noncomputable def s_model_Model_Get (mg : GT) (mc : CT) (ms : ST) (P : Program) (C : CallF) (a0 : Value) (a1 : Value) (H : AHeap) (K0 : K) : Res :=
enterK C F.model_Model_at [a0, a1, (.slice none 0 0)] H fun t12 h1 =>
bareK (xextract t12 0) h1 fun t13 h2 =>
bareK (xextract t12 1) h2 fun t14 h3 =>
bareK (xextract t12 2) h3 fun t15 h4 =>
ms (fun k1 =>
bareK (xbin P .neq T.api_Errno (.tmp 17) (.const (.int .i64 0)) t15 (.int .i64 0)) h4 fun t18 h5 =>
mc t18 (fun k2 => k2 .ret [(4, (.string (mk []))), (5, t15)] h5) (fun k2 =>
bareK (xun P .not t14) h5 fun t22 h6 =>
mc t22 (fun k3 => k3 .ret [(4, (.string (mk []))), (5, (.int .i64 9))] h6) (fun k3 =>
k3 .normal [(0, a0), (6, t13)] h6) (afterK [0, 6] k2)) (blkK [0, 6] 0 k1)) (seqK (fun tT h7 =>
bareK (xnilCheck (get tT 0)) h7 fun t24 h8 =>
bareK (fad 0 t24) h8 fun t25 h9 =>
bareK (ld1 h9 t25) h9 fun t26 h10 =>
bareK (ixS 2 t26 (get tT 6)) h10 fun t28 h11 =>
bareK (fad 1 t28) h11 fun t29 h12 =>
bareK (ld1 h12 t29) h12 fun t30 h13 =>
K0 .ret [(4, t30), (5, (.int .i64 0))] h13) K0)

theorem s_model_Model_Get_eq (M : CombL) (C : CallF) (LP : LoopH) (a0 : Value) (a1 : Value) (H : AHeap) : dBodyL M Tryd.prog hints C LP F.model_Model_Get [a0, a1] H = s_model_Model_Get M.b.g M.c M.s Tryd.prog C a0 a1 H (endK Tryd.prog [.tmp 4, .tmp 5]) := by kernel_rfl

/-! (*ticketline.model.Model).place -/

noncomputable def s_model_Model_place (mg : GT) (mc : CT) (ms : ST) (P : Program) (C : CallF) (a0 : Value) (a1 : Value) (H : AHeap) (K0 : K) : Res :=
bareK (xnilCheck a0) H fun t7 h1 =>
bareK (fad 0 t7) h1 fun t8 h2 =>
bareK (ld1 h2 t8) h2 fun t9 h3 =>
enterK C F.slices_BinarySearchFunc_string [t9, a1, (.func (.func F.model_Model_place_1) #[] #[])] h3 fun t11 h4 =>
bareK (xextract t11 0) h4 fun t12 h5 =>
bareK (xextract t11 1) h5 fun t13 h6 =>
K0 .ret [(4, t12), (5, t13)] h6

theorem s_model_Model_place_eq (M : CombL) (C : CallF) (LP : LoopH) (a0 : Value) (a1 : Value) (H : AHeap) : dBodyL M Tryd.prog hints C LP F.model_Model_place [a0, a1] H = s_model_Model_place M.b.g M.c M.s Tryd.prog C a0 a1 H (endK Tryd.prog [.tmp 4, .tmp 5]) := by kernel_rfl

/-! slices.Delete[[]ticketline.api.Pair,ticketline.api.Pair] -/

noncomputable def s_slices_Delete_Pair (mg : GT) (mc : CT) (ms : ST) (P : Program) (C : CallF) (a0 : Value) (a1 : Value) (a2 : Value) (H : AHeap) (K0 : K) : Res :=
bareK (lenS a0) H fun t12 h1 =>
bareK (slS T.api_Pair 2 a0 (some a1) (some a2) (some t12) h1) h1 fun t13 h2 =>
bareK (xbin P .eql T.int (.tmp 14) (.tmp 15) a1 a2) h2 fun t16 h3 =>
mc t16 (fun k1 => k1 .ret [(6, a0)] h3) (fun k1 =>
k1 .normal [(0, a0), (1, a1), (2, a2)] h3) (seqK (fun tT h4 =>
bareK (lenS (get tT 0)) h4 fun t19 h5 =>
bareK (slS T.api_Pair 2 (get tT 0) none (some (get tT 1)) none h5) h5 fun t22 h6 =>
bareK (slS T.api_Pair 2 (get tT 0) (some (get tT 2)) none none h6) h6 fun t25 h7 =>
bothK (app T.api_Pair 2 32 t22 (srcS 2 t25 h7) h7) fun t26 h8 =>
checkK true <|
bareK (lenS t26) h8 fun t29 h9 =>
bareK (slS T.api_Pair 2 t26 (some t29) (some t19) none h9) h9 fun t31 h10 =>
bothK (xclear P [T.sl_api_Pair] t31 h10) fun _ h11 =>
K0 .ret [(6, t26)] h11) K0)

theorem s_slices_Delete_Pair_eq (M : CombL) (C : CallF) (LP : LoopH) (a0 : Value) (a1 : Value) (a2 : Value) (H : AHeap) : dBodyL M Tryd.prog hints C LP F.slices_Delete_Pair [a0, a1, a2] H = s_slices_Delete_Pair M.b.g M.c M.s Tryd.prog C a0 a1 a2 H (endK Tryd.prog [.tmp 6]) := by kernel_rfl

/-! (*ticketline.model.Model).at -/

noncomputable def s_model_Model_at (mg : GT) (mc : CT) (ms : ST) (P : Program) (C : CallF) (a0 : Value) (a1 : Value) (a2 : Value) (H : AHeap) (K0 : K) : Res :=
bareK (xbin P .eql T.p_model_Model (.tmp 13) (.const (.pointer none)) a0 (.pointer none)) H fun t14 h1 =>
mc t14 (fun k1 => k1 .ret [(6, (.int .i64 0)), (7, (.bool false)), (8, (.int .i64 1))] h1) (fun k1 =>
k1 .normal [(0, a0), (1, a1), (2, a2)] h1) (seqK (fun tT h2 =>
enterK C F.model_check [(get tT 1), (get tT 2)] h2 fun t17 h3 =>
bareK (xbin P .neq T.api_Errno (.tmp 18) (.const (.int .i64 0)) t17 (.int .i64 0)) h3 fun t19 h4 =>
mc t19 (fun k2 => k2 .ret [(6, (.int .i64 0)), (7, (.bool false)), (8, t17)] h4) (fun k2 =>
k2 .normal [(0, (get tT 0)), (1, (get tT 1))] h4) (seqK (fun tT_1 h5 =>
callK P C (.func (.func F.model_Model_place) #[(get tT_1 0)] #[]) [(get tT_1 1)] h5 fun t26 h6 =>
bareK (xextract t26 0) h6 fun t27 h7 =>
bareK (xextract t26 1) h7 fun t28 h8 =>
K0 .ret [(6, t27), (7, t28), (8, (.int .i64 0))] h8) K0)) K0)

theorem s_model_Model_at_eq (M : CombL) (C : CallF) (LP : LoopH) (a0 : Value) (a1 : Value) (a2 : Value) (H : AHeap) : dBodyL M Tryd.prog hints C LP F.model_Model_at [a0, a1, a2] H = s_model_Model_at M.b.g M.c M.s Tryd.prog C a0 a1 a2 H (endK Tryd.prog [.tmp 6, .tmp 7, .tmp 8]) := by kernel_rfl

/-! (*ticketline.model.Model).set -/

noncomputable def s_model_Model_set (mg : GT) (mc : CT) (ms : ST) (P : Program) (C : CallF) (a0 : Value) (a1 : Value) (a2 : Value) (a3 : Value) (H : AHeap) (K0 : K) : Res :=
bothK (newv T.api_Pair a3 H) fun t7 h1 =>
ms (fun k1 =>
mc a2 (fun k2 => bareK (xnilCheck a0) h1 fun t23 h2 =>
bareK (fad 0 t23) h2 fun t24 h3 =>
bareK (ld1 h3 t24) h3 fun t25 h4 =>
bareK (ldN 2 h4 t7) h4 fun t27 h5 =>
bareK (ixS 2 t25 a1) h5 fun t28 h6 =>
quietK (stN 2 h6 t28 t27) fun _ h7 =>
checkK true <|
k2 .normal [] h7) (fun k2 =>
bareK (xnilCheck a0) h1 fun t31 h8 =>
bareK (fad 0 t31) h8 fun t32 h9 =>
bareK (ld1 h9 t32) h9 fun t33 h10 =>
bareK (lenS t33) h10 fun t34 h11 =>
bareK (xbin P .eql T.int (.tmp 34) (.const (.int .i64 20000)) t34 (.int .i64 20000)) h11 fun t35 h12 =>
mc t35 (fun k3 => k3 .ret [(8, (.int .i64 7))] h12) (fun k3 =>
bareK (xnilCheck a0) h12 fun t11 h13 =>
bareK (fad 0 t11) h13 fun t12 h14 =>
bareK (ld1 h14 t12) h14 fun t13 h15 =>
bareK (ldN 2 h15 t7) h15 fun t15 h16 =>
bothK (bldL T.api_Pair [(.string (mk [])), (.string (mk []))] 1 [(0, t15)] h16) fun t16 h17 =>
enterK C F.slices_Insert_Pair [t13, a1, t16] h17 fun t17 h18 =>
bareK (xnilCheck a0) h18 fun t18 h19 =>
bareK (fad 0 t18) h19 fun t19 h20 =>
quietK (st1 h20 t19 t17) fun _ h21 =>
checkK (okV (some true) none h17 h18 h12 h12 && true) <|
k3 .normal [] h21) (afterK [] k2)) (blkK [] 0 k1)) (seqK (fun tT h22 =>
K0 .ret [(8, (.int .i64 0))] h22) K0)

theorem s_model_Model_set_eq (M : CombL) (C : CallF) (LP : LoopH) (a0 : Value) (a1 : Value) (a2 : Value) (a3 : Value) (H : AHeap) : dBodyL M Tryd.prog hints C LP F.model_Model_set [a0, a1, a2, a3] H = s_model_Model_set M.b.g M.c M.s Tryd.prog C a0 a1 a2 a3 H (endK Tryd.prog [.tmp 8]) := by kernel_rfl

/-! ticketline.model.check -/

noncomputable def s_model_check (mg : GT) (mc : CT) (ms : ST) (P : Program) (C : CallF) (a0 : Value) (a1 : Value) (H : AHeap) (K0 : K) : Res :=
ms (fun k1 =>
bareK (xbin P .eql T.string (.tmp 6) (.const (.string (mk []))) a0 (.string (mk []))) H fun t7 h1 =>
mc t7 (fun k2 => k2 .ret [(4, (.int .i64 2))] h1) (fun k2 =>
bareK (lenT a0) h1 fun t10 h2 =>
bareK (xbin P .gtr T.int (.tmp 10) (.const (.int .i64 24)) t10 (.int .i64 24)) h2 fun t11 h3 =>
mg t11 false (fun o3 => o3 a1 h3) h3 fun t13 h4 =>
mg t11 false (fun o4 => enterK C F.slices_ContainsFunc_string [t13, (.func (.func F.model_check_1) #[] #[])] h4 o4) h4 fun t14 h5 =>
pickK t11 (.bool true) t14 fun t15 =>
mc t15 (fun k5 => k5 .ret [(4, (.int .i64 5))] h5) (fun k5 =>
k5 .normal [] h5) (afterK [] k2)) (blkK [] 0 k1)) (seqK (fun tT h6 =>
K0 .ret [(4, (.int .i64 0))] h6) K0)

theorem s_model_check_eq (M : CombL) (C : CallF) (LP : LoopH) (a0 : Value) (a1 : Value) (H : AHeap) : dBodyL M Tryd.prog hints C LP F.model_check [a0, a1] H = s_model_check M.b.g M.c M.s Tryd.prog C a0 a1 H (endK Tryd.prog [.tmp 4]) := by kernel_rfl

/-! ticketline.keys.Compare -/

noncomputable def s_keys_Compare (mg : GT) (mc : CT) (ms : ST) (P : Program) (C : CallF) (a0 : Value) (a1 : Value) (H : AHeap) (K0 : K) : Res :=
enterK C F.strings_Compare [a0, a1] H fun t7 h1 =>
K0 .ret [(4, t7)] h1

theorem s_keys_Compare_eq (M : CombL) (C : CallF) (LP : LoopH) (a0 : Value) (a1 : Value) (H : AHeap) : dBodyL M Tryd.prog hints C LP F.keys_Compare [a0, a1] H = s_keys_Compare M.b.g M.c M.s Tryd.prog C a0 a1 H (endK Tryd.prog [.tmp 4]) := by kernel_rfl

/-! slices.Clone[[]ticketline.api.Pair,ticketline.api.Pair] -/

noncomputable def s_slices_Clone_Pair (mg : GT) (mc : CT) (ms : ST) (P : Program) (C : CallF) (a0 : Value) (H : AHeap) (K0 : K) : Res :=
bareK (xbin P .eql T.sl_api_Pair (.tmp 3) (.const (.slice none 0 0)) a0 (.slice none 0 0)) H fun t4 h1 =>
mc t4 (fun k1 => k1 .ret [(2, (.slice none 0 0))] h1) (fun k1 =>
k1 .normal [(0, a0)] h1) (seqK (fun tT h2 =>
bothK (bldL T.api_Pair [(.string (mk [])), (.string (mk []))] 0 [] h2) fun t5 h3 =>
bothK (app T.api_Pair 2 32 t5 (srcS 2 (get tT 0) h3) h3) fun t7 h4 =>
K0 .ret [(2, t7)] h4) K0)

theorem s_slices_Clone_Pair_eq (M : CombL) (C : CallF) (LP : LoopH) (a0 : Value) (H : AHeap) : dBodyL M Tryd.prog hints C LP F.slices_Clone_Pair [a0] H = s_slices_Clone_Pair M.b.g M.c M.s Tryd.prog C a0 H (endK Tryd.prog [.tmp 2]) := by kernel_rfl

/-! ticketline.pages.bytes -/

noncomputable def s_pages_bytes (mg : GT) (mc : CT) (ms : ST) (P : Program) (C : CallF) (L0 : Value → Value → Value → AHeap → K → Res) (a0 : Value) (H : AHeap) (K0 : K) : Res :=
ms (fun k1 =>
L0 a0 (.slice none 0 0) (.int .i64 0) H (blkK [3] 0 k1)) (seqK (fun tT h1 =>
bothK (xconv P T.sl_uint8 T.string (get tT 3) h1) fun t29 h2 =>
K0 .ret [(2, t29)] h2) K0)

noncomputable def s_pages_bytes_b0 (mg : GT) (mc : CT) (ms : ST) (P : Program) (C : CallF) (L0 : Value → Value → Value → AHeap → K → Res) (v0 : Value) (v3 : Value) (v4 : Value) (H : AHeap) (k : K) : Res :=
bareK (xbin P .add T.int (.tmp 7) (.const (.int .i64 1)) v4 (.int .i64 1)) H fun t8 h1 =>
bareK (lenT v0) h1 fun t10 h2 =>
bareK (xbin P .lss T.int (.tmp 8) (.tmp 10) t8 t10) h2 fun t11 h3 =>
mc t11 (fun k2 => k2 .normal [(0, v0), (3, v3), (4, v4)] h3) (fun k2 =>
k2 (.exit 0) [(11, t11), (10, t10), (9, v0), (8, t8), (7, v4), (0, v0), (3, v3), (4, v4)] h3) (seqK (fun tT h4 =>
ms (fun k3 =>
bareK (xbin P .add T.int (.tmp 17) (.const (.int .i64 2)) (get tT 4) (.int .i64 2)) h4 fun t18 h5 =>
bareK (slT (get tT 0) (some (get tT 4)) (some t18)) h5 fun t19 h6 =>
enterK C F.strconv_ParseUint [t19, (.int .i64 16), (.int .i64 8)] h6 fun t20 h7 =>
bareK (xextract t20 0) h7 fun t21 h8 =>
bareK (xextract t20 1) h8 fun t22 h9 =>
bothK (xconv P T.uint64 T.uint8 t21 h9) fun t25 h10 =>
bothK (bldL T.uint8 [(.int .u8 0)] 1 [(0, t25)] h10) fun t26 h11 =>
bothK (app T.uint8 1 1 (get tT 3) (srcS 1 t26 h11) h11) fun t27 h12 =>
k3 .normal [(0, (get tT 0)), (3, t27), (4, (get tT 4))] h12) (seqK (fun tT_1 h13 =>
bareK (xbin P .add T.int (.tmp 12) (.const (.int .i64 2)) (get tT_1 4) (.int .i64 2)) h13 fun t13 h14 =>
k .normal [(0, (get tT_1 0)), (3, (get tT_1 3)), (4, t13)] h14) (afterK [0, 3, 4] k))) (afterK [0, 3, 4] k))

theorem s_pages_bytes_eq (M : CombL) (C : CallF) (LP : LoopH) (a0 : Value) (H : AHeap) : dBodyL M Tryd.prog hints C LP F.pages_bytes [a0] H = s_pages_bytes M.b.g M.c M.s Tryd.prog C (fun v0 v3 v4 H k => loopL M Tryd.prog hints C LP F.pages_bytes 0 [(0, v0), (3, v3), (4, v4)] H k) a0 H (endK Tryd.prog [.tmp 2]) := by kernel_rfl

theorem s_pages_bytes_b0_eq (M : CombL) (C : CallF) (LP : LoopH) (v0 : Value) (v3 : Value) (v4 : Value) (H : AHeap) (k : K) : bodyL M Tryd.prog hints C LP F.pages_bytes 0 [(0, v0), (3, v3), (4, v4)] H (afterK [0, 3, 4] k) = s_pages_bytes_b0 M.b.g M.c M.s Tryd.prog C (fun v0 v3 v4 H k => loopL M Tryd.prog hints C LP F.pages_bytes 0 [(0, v0), (3, v3), (4, v4)] H k) v0 v3 v4 H k := by kernel_rfl

/-! ticketline.keys.ValidKey -/

noncomputable def s_keys_ValidKey (mg : GT) (mc : CT) (ms : ST) (P : Program) (C : CallF) (a0 : Value) (H : AHeap) (K0 : K) : Res :=
bareK (lenT a0) H fun t4 h1 =>
bareK (xbin P .geq T.int (.tmp 4) (.const (.int .i64 1)) t4 (.int .i64 1)) h1 fun t5 h2 =>
mg t5 true (fun o1 => o1 a0 h2) h2 fun t7 h3 =>
mg t5 true (fun o2 => bareK (lenT t7) h3 o2) h3 fun t8 h4 =>
mg t5 true (fun o3 => bareK (xbin P .leq T.int (.tmp 8) (.const (.int .i64 24)) t8 (.int .i64 24)) h4 o3) h4 fun t9 h5 =>
pickK t5 t9 (.bool false) fun t10 =>
K0 .ret [(2, t10)] h5

theorem s_keys_ValidKey_eq (M : CombL) (C : CallF) (LP : LoopH) (a0 : Value) (H : AHeap) : dBodyL M Tryd.prog hints C LP F.keys_ValidKey [a0] H = s_keys_ValidKey M.b.g M.c M.s Tryd.prog C a0 H (endK Tryd.prog [.tmp 2]) := by kernel_rfl

/-! ticketline.pages.marked -/

noncomputable def s_pages_marked (mg : GT) (mc : CT) (ms : ST) (P : Program) (C : CallF) (a0 : Value) (a1 : Value) (H : AHeap) (K0 : K) : Res :=
enterK C F.pages_hexed [a0] H fun t7 h1 =>
bareK (xbin P .add T.string (.tmp 7) (.const (.string (mk [46]))) t7 (.string (mk [46]))) h1 fun t8 h2 =>
enterK C F.pages_hexed [a1] h2 fun t10 h3 =>
bareK (xbin P .add T.string (.tmp 8) (.tmp 10) t8 t10) h3 fun t11 h4 =>
bareK (xbin P .add T.string (.tmp 11) (.const (.string (mk [46]))) t11 (.string (mk [46]))) h4 fun t12 h5 =>
enterK C F.pages_check [t12] h5 fun t15 h6 =>
bareK (xbin P .add T.string (.tmp 13) (.tmp 15) t12 t15) h6 fun t16 h7 =>
K0 .ret [(4, t16)] h7

theorem s_pages_marked_eq (M : CombL) (C : CallF) (LP : LoopH) (a0 : Value) (a1 : Value) (H : AHeap) : dBodyL M Tryd.prog hints C LP F.pages_marked [a0, a1] H = s_pages_marked M.b.g M.c M.s Tryd.prog C a0 a1 H (endK Tryd.prog [.tmp 4]) := by kernel_rfl

/-! slices.BinarySearchFunc[[]ticketline.api.Pair,ticketline.api.Pair,string] -/

noncomputable def s_slices_BinarySearchFunc_string (mg : GT) (mc : CT) (ms : ST) (P : Program) (C : CallF) (L0 : Value → Value → Value → Value → Value → Value → AHeap → K → Res) (a0 : Value) (a1 : Value) (a2 : Value) (H : AHeap) (K0 : K) : Res :=
bareK (lenS a0) H fun t13 h1 =>
ms (fun k1 =>
L0 a0 a1 a2 t13 (.int .i64 0) t13 h1 (blkK [0, 1, 2, 8, 9] 0 k1)) (seqK (fun tT h2 =>
bareK (xbin P .lss T.int (.tmp 36) (.tmp 37) (get tT 9) (get tT 8)) h2 fun t38 h3 =>
mg t38 true (fun o2 => o2 (get tT 2) h3) h3 fun t40 h4 =>
mg t38 true (fun o3 => o3 (get tT 0) h4) h4 fun t41 h5 =>
mg t38 true (fun o4 => o4 (get tT 9) h5) h5 fun t42 h6 =>
mg t38 true (fun o5 => bareK (ixS 2 t41 t42) h6 o5) h6 fun t43 h7 =>
mg t38 true (fun o6 => bareK (ldN 2 h7 t43) h7 o6) h7 fun t44 h8 =>
mg t38 true (fun o7 => o7 (get tT 1) h8) h8 fun t45 h9 =>
mg t38 true (fun o8 => callK P C t40 [t44, t45] h9 o8) h9 fun t46 h10 =>
mg t38 true (fun o9 => bareK (xbin P .eql T.int (.tmp 46) (.const (.int .i64 0)) t46 (.int .i64 0)) h10 o9) h10 fun t47 h11 =>
pickK t38 t47 (.bool false) fun t48 =>
K0 .ret [(6, (get tT 9)), (7, t48)] h11) K0)

noncomputable def s_slices_BinarySearchFunc_string_b0 (mg : GT) (mc : CT) (ms : ST) (P : Program) (C : CallF) (L0 : Value → Value → Value → Value → Value → Value → AHeap → K → Res) (v0 : Value) (v1 : Value) (v2 : Value) (v8 : Value) (v9 : Value) (v10 : Value) (H : AHeap) (k : K) : Res :=
bareK (xbin P .lss T.int (.tmp 15) (.tmp 16) v9 v10) H fun t17 h2 =>
mc t17 (fun k2 => k2 .normal [(0, v0), (1, v1), (2, v2), (8, v8), (9, v9), (10, v10)] h2) (fun k2 =>
k2 (.exit 0) [(17, t17), (16, v10), (15, v9), (0, v0), (1, v1), (2, v2), (8, v8), (9, v9), (10, v10)] h2) (seqK (fun tT h3 =>
ms (fun k3 =>
bareK (xbin P .add T.int (.tmp 18) (.tmp 19) (get tT 9) (get tT 10)) h3 fun t20 h4 =>
bothK (xconv P T.int T.uint t20 h4) fun t21 h5 =>
bareK (xbin P .shr T.uint (.tmp 21) (.const (.int .u64 1)) t21 (.int .u64 1)) h5 fun t22 h6 =>
bothK (xconv P T.uint T.int t22 h6) fun t23 h7 =>
bareK (ixS 2 (get tT 0) t23) h7 fun t27 h8 =>
bareK (ldN 2 h8 t27) h8 fun t28 h9 =>
callK P C (get tT 2) [t28, (get tT 1)] h9 fun t30 h10 =>
bareK (xbin P .lss T.int (.tmp 30) (.const (.int .i64 0)) t30 (.int .i64 0)) h10 fun t31 h11 =>
mc t31 (fun k4 => bareK (xbin P .add T.int (.tmp 32) (.const (.int .i64 1)) t23 (.int .i64 1)) h11 fun t33 h12 =>
k4 .normal [(0, (get tT 0)), (1, (get tT 1)), (2, (get tT 2)), (8, (get tT 8)), (9, t33), (10, (get tT 10))] h12) (fun k4 =>
k4 .normal [(0, (get tT 0)), (1, (get tT 1)), (2, (get tT 2)), (8, (get tT 8)), (9, (get tT 9)), (10, t23)] h11) (blkK [0, 1, 2, 8, 9, 10] 1 k3)) (afterK [0, 1, 2, 8, 9, 10] k)) (afterK [0, 1, 2, 8, 9, 10] k))

theorem s_slices_BinarySearchFunc_string_eq (M : CombL) (C : CallF) (LP : LoopH) (a0 : Value) (a1 : Value) (a2 : Value) (H : AHeap) : dBodyL M Tryd.prog hints C LP F.slices_BinarySearchFunc_string [a0, a1, a2] H = s_slices_BinarySearchFunc_string M.b.g M.c M.s Tryd.prog C (fun v0 v1 v2 v8 v9 v10 H k => loopL M Tryd.prog hints C LP F.slices_BinarySearchFunc_string 0 [(0, v0), (1, v1), (2, v2), (8, v8), (9, v9), (10, v10)] H k) a0 a1 a2 H (endK Tryd.prog [.tmp 6, .tmp 7]) := by kernel_rfl

theorem s_slices_BinarySearchFunc_string_b0_eq (M : CombL) (C : CallF) (LP : LoopH) (v0 : Value) (v1 : Value) (v2 : Value) (v8 : Value) (v9 : Value) (v10 : Value) (H : AHeap) (k : K) : bodyL M Tryd.prog hints C LP F.slices_BinarySearchFunc_string 0 [(0, v0), (1, v1), (2, v2), (8, v8), (9, v9), (10, v10)] H (afterK [0, 1, 2, 8, 9, 10] k) = s_slices_BinarySearchFunc_string_b0 M.b.g M.c M.s Tryd.prog C (fun v0 v1 v2 v8 v9 v10 H k => loopL M Tryd.prog hints C LP F.slices_BinarySearchFunc_string 0 [(0, v0), (1, v1), (2, v2), (8, v8), (9, v9), (10, v10)] H k) v0 v1 v2 v8 v9 v10 H k := by kernel_rfl

/-! (*ticketline.model.Model).place$1 -/

noncomputable def s_model_Model_place_1 (mg : GT) (mc : CT) (ms : ST) (P : Program) (C : CallF) (a0 : Value) (a1 : Value) (H : AHeap) (K0 : K) : Res :=
bothK (newv T.api_Pair a0 H) fun t2 h1 =>
bareK (fad 0 t2) h1 fun t5 h2 =>
bareK (ld1 h2 t5) h2 fun t6 h3 =>
enterK C F.keys_Compare [t6, a1] h3 fun t8 h4 =>
K0 .ret [(4, t8)] h4

theorem s_model_Model_place_1_eq (M : CombL) (C : CallF) (LP : LoopH) (a0 : Value) (a1 : Value) (H : AHeap) : dBodyL M Tryd.prog hints C LP F.model_Model_place_1 [a0, a1] H = s_model_Model_place_1 M.b.g M.c M.s Tryd.prog C a0 a1 H (endK Tryd.prog [.tmp 4]) := by kernel_rfl

/-! slices.Insert[[]ticketline.api.Pair,ticketline.api.Pair] -/

noncomputable def s_slices_Insert_Pair (mg : GT) (mc : CT) (ms : ST) (P : Program) (C : CallF) (a0 : Value) (a1 : Value) (a2 : Value) (H : AHeap) (K0 : K) : Res :=
bareK (slS T.api_Pair 2 a0 (some a1) none none H) H fun t12 h1 =>
bareK (lenS a2) h1 fun t14 h2 =>
bareK (xbin P .eql T.int (.tmp 15) (.const (.int .i64 0)) t14 (.int .i64 0)) h2 fun t16 h3 =>
mc t16 (fun k1 => k1 .ret [(6, a0)] h3) (fun k1 =>
k1 .normal [(0, a0), (1, a1), (2, a2), (7, t14)] h3) (seqK (fun tT h4 =>
bareK (lenS (get tT 0)) h4 fun t19 h5 =>
bareK (xbin P .eql T.int (.tmp 20) (.tmp 21) (get tT 1) t19) h5 fun t22 h6 =>
mc t22 (fun k2 => bothK (app T.api_Pair 2 32 (get tT 0) (srcS 2 (get tT 2) h6) h6) fun t25 h7 =>
k2 .ret [(6, t25)] h7) (fun k2 =>
k2 .normal [(0, (get tT 0)), (1, (get tT 1)), (2, (get tT 2)), (7, (get tT 7)), (8, t19)] h6) (seqK (fun tT_1 h8 =>
bareK (xbin P .add T.int (.tmp 26) (.tmp 27) (get tT_1 8) (get tT_1 7)) h8 fun t28 h9 =>
nextK C h9 (xbuiltin P .cap [T.sl_api_Pair] [(get tT_1 0)] h9) fun t30 h10 =>
bareK (xbin P .gtr T.int (.tmp 28) (.tmp 30) t28 t30) h10 fun t31 h11 =>
mc t31 (fun k3 => bareK (slS T.api_Pair 2 (get tT_1 0) none (some (get tT_1 1)) none h11) h11 fun t34 h12 =>
bareK (xbin P .add T.int (.tmp 35) (.tmp 36) (get tT_1 8) (get tT_1 7)) h12 fun t37 h13 =>
bareK (xbin P .sub T.int (.tmp 37) (.tmp 38) t37 (get tT_1 1)) h13 fun t39 h14 =>
bothK (app T.api_Pair 2 32 t34 (srcZ [(.string (mk [])), (.string (mk []))] 32 t39) h14) fun t40 h15 =>
bareK (slS T.api_Pair 2 t40 (some (get tT_1 1)) none none h15) h15 fun t43 h16 =>
bothK (cpy 2 t43 (get tT_1 2) h16) fun t45 h17 =>
bareK (xbin P .add T.int (.tmp 47) (.tmp 48) (get tT_1 1) (get tT_1 7)) h17 fun t49 h18 =>
bareK (slS T.api_Pair 2 t40 (some t49) none none h18) h18 fun t50 h19 =>
bareK (slS T.api_Pair 2 (get tT_1 0) (some (get tT_1 1)) none none h19) h19 fun t53 h20 =>
bothK (cpy 2 t50 t53 h20) fun t54 h21 =>
checkK true <|
k3 .ret [(6, t40)] h21) (fun k3 =>
k3 .normal [(0, (get tT_1 0)), (1, (get tT_1 1)), (2, (get tT_1 2)), (7, (get tT_1 7)), (8, (get tT_1 8))] h11) (seqK (fun tT_2 h22 =>
bareK (xbin P .add T.int (.tmp 57) (.tmp 58) (get tT_2 8) (get tT_2 7)) h22 fun t59 h23 =>
bareK (slS T.api_Pair 2 (get tT_2 0) none (some t59) none h23) h23 fun t60 h24 =>
bareK (xbin P .add T.int (.tmp 63) (.tmp 64) (get tT_2 1) (get tT_2 7)) h24 fun t65 h25 =>
bareK (slS T.api_Pair 2 t60 (some t65) none none h25) h25 fun t66 h26 =>
bareK (xext P Tryd.f54 [(get tT_2 2), t66] h26) h26 fun t67 h27 =>
bareK (xun P .not t67) h27 fun t68 h28 =>
mc t68 (fun k4 => bareK (xbin P .add T.int (.tmp 70) (.tmp 71) (get tT_2 1) (get tT_2 7)) h28 fun t72 h29 =>
bareK (slS T.api_Pair 2 t60 (some t72) none none h29) h29 fun t73 h30 =>
bareK (slS T.api_Pair 2 t60 (some (get tT_2 1)) none none h30) h30 fun t76 h31 =>
bothK (cpy 2 t73 t76 h31) fun t77 h32 =>
checkK true <|
bareK (slS T.api_Pair 2 t60 (some (get tT_2 1)) none none h32) h32 fun t80 h33 =>
bothK (cpy 2 t80 (get tT_2 2) h33) fun t82 h34 =>
k4 .ret [(6, t60)] h34) (fun k4 =>
k4 .normal [(0, t60), (1, (get tT_2 1)), (2, (get tT_2 2)), (7, (get tT_2 7)), (8, (get tT_2 8))] h28) (seqK (fun tT_3 h35 =>
bareK (slS T.api_Pair 2 (get tT_3 0) (some (get tT_3 8)) none none h35) h35 fun t86 h36 =>
bothK (cpy 2 t86 (get tT_3 2) h36) fun t88 h37 =>
bareK (slS T.api_Pair 2 (get tT_3 0) (some (get tT_3 1)) none none h37) h37 fun t91 h38 =>
enterK C F.slices_rotateRight_Pair [t91, (get tT_3 7)] h38 fun t93 h39 =>
K0 .ret [(6, (get tT_3 0))] h39) K0)) K0)) K0)) K0)

theorem s_slices_Insert_Pair_eq (M : CombL) (C : CallF) (LP : LoopH) (a0 : Value) (a1 : Value) (a2 : Value) (H : AHeap) : dBodyL M Tryd.prog hints C LP F.slices_Insert_Pair [a0, a1, a2] H = s_slices_Insert_Pair M.b.g M.c M.s Tryd.prog C a0 a1 a2 H (endK Tryd.prog [.tmp 6]) := by kernel_rfl

/-! slices.ContainsFunc[[]string,string] -/

noncomputable def s_slices_ContainsFunc_string (mg : GT) (mc : CT) (ms : ST) (P : Program) (C : CallF) (a0 : Value) (a1 : Value) (H : AHeap) (K0 : K) : Res :=
enterK C F.slices_IndexFunc_string [a0, a1] H fun t7 h1 =>
bareK (xbin P .geq T.int (.tmp 7) (.const (.int .i64 0)) t7 (.int .i64 0)) h1 fun t8 h2 =>
K0 .ret [(4, t8)] h2

theorem s_slices_ContainsFunc_string_eq (M : CombL) (C : CallF) (LP : LoopH) (a0 : Value) (a1 : Value) (H : AHeap) : dBodyL M Tryd.prog hints C LP F.slices_ContainsFunc_string [a0, a1] H = s_slices_ContainsFunc_string M.b.g M.c M.s Tryd.prog C a0 a1 H (endK Tryd.prog [.tmp 4]) := by kernel_rfl

/-! ticketline.model.check$1 -/

noncomputable def s_model_check_1 (mg : GT) (mc : CT) (ms : ST) (P : Program) (C : CallF) (a0 : Value) (H : AHeap) (K0 : K) : Res :=
bareK (lenT a0) H fun t4 h1 =>
bareK (xbin P .gtr T.int (.tmp 4) (.const (.int .i64 40)) t4 (.int .i64 40)) h1 fun t5 h2 =>
K0 .ret [(2, t5)] h2

theorem s_model_check_1_eq (M : CombL) (C : CallF) (LP : LoopH) (a0 : Value) (H : AHeap) : dBodyL M Tryd.prog hints C LP F.model_check_1 [a0] H = s_model_check_1 M.b.g M.c M.s Tryd.prog C a0 H (endK Tryd.prog [.tmp 2]) := by kernel_rfl

/-! strings.Compare -/

noncomputable def s_strings_Compare (mg : GT) (mc : CT) (ms : ST) (P : Program) (C : CallF) (a0 : Value) (a1 : Value) (H : AHeap) (K0 : K) : Res :=
enterK C F.internal_bytealg_CompareString [a0, a1] H fun t7 h1 =>
K0 .ret [(4, t7)] h1

theorem s_strings_Compare_eq (M : CombL) (C : CallF) (LP : LoopH) (a0 : Value) (a1 : Value) (H : AHeap) : dBodyL M Tryd.prog hints C LP F.strings_Compare [a0, a1] H = s_strings_Compare M.b.g M.c M.s Tryd.prog C a0 a1 H (endK Tryd.prog [.tmp 4]) := by kernel_rfl

/-! strconv.ParseUint -/

noncomputable def s_strconv_ParseUint (mg : GT) (mc : CT) (ms : ST) (P : Program) (C : CallF) (a0 : Value) (a1 : Value) (a2 : Value) (H : AHeap) (K0 : K) : Res :=
enterK C F.internal_strconv_ParseUint [a0, a1, a2] H fun t14 h1 =>
bareK (xextract t14 0) h1 fun t15 h2 =>
bareK (xextract t14 1) h2 fun t16 h3 =>
bareK (xbin P .neq T.error (.tmp 17) (.const .nilIface) t16 .nilIface) h3 fun t18 h4 =>
mc t18 (fun k1 => enterK C F.strconv_toError [(.string (mk [80, 97, 114, 115, 101, 85, 105, 110, 116])), a0, a1, a2, t16] h4 fun t24 h5 =>
k1 .ret [(6, t15), (7, t24)] h5) (fun k1 =>
k1 .normal [(8, t15)] h4) (seqK (fun tT h6 =>
K0 .ret [(6, (get tT 8)), (7, .nilIface)] h6) K0)

theorem s_strconv_ParseUint_eq (M : CombL) (C : CallF) (LP : LoopH) (a0 : Value) (a1 : Value) (a2 : Value) (H : AHeap) : dBodyL M Tryd.prog hints C LP F.strconv_ParseUint [a0, a1, a2] H = s_strconv_ParseUint M.b.g M.c M.s Tryd.prog C a0 a1 a2 H (endK Tryd.prog [.tmp 6, .tmp 7]) := by kernel_rfl

/-! ticketline.pages.check -/

noncomputable def s_pages_check (mg : GT) (mc : CT) (ms : ST) (P : Program) (C : CallF) (L0 : Value → Value → Value → Value → AHeap → K → Res) (a0 : Value) (H : AHeap) (K0 : K) : Res :=
bothK (xconv P T.string T.sl_uint8 a0 H) fun t7 h1 =>
bareK (lenS t7) h1 fun t8 h2 =>
ms (fun k1 =>
L0 (.int .i64 17) t7 t8 (.int .i64 0) h2 (blkK [3] 0 k1)) (seqK (fun tT h3 =>
bareK (xbin P .shr T.int (.tmp 20) (.const (.int .u64 8)) (get tT 3) (.int .u64 8)) h3 fun t21 h4 =>
bothK (xconv P T.int T.uint8 t21 h4) fun t22 h5 =>
bothK (xconv P T.int T.uint8 (get tT 3) h5) fun t24 h6 =>
bothK (bldL T.uint8 [(.int .u8 0)] 2 [(0, t22), (1, t24)] h6) fun t25 h7 =>
bothK (xconv P T.sl_uint8 T.string t25 h7) fun t26 h8 =>
enterK C F.pages_hexed [t26] h8 fun t27 h9 =>
K0 .ret [(2, t27)] h9) K0)

noncomputable def s_pages_check_b0 (mg : GT) (mc : CT) (ms : ST) (P : Program) (C : CallF) (L0 : Value → Value → Value → Value → AHeap → K → Res) (v3 : Value) (v7 : Value) (v8 : Value) (v9 : Value) (H : AHeap) (k : K) : Res :=
bareK (xbin P .lss T.int (.tmp 9) (.tmp 8) v9 v8) H fun t10 h3 =>
mc t10 (fun k2 => k2 .normal [(3, v3), (7, v7), (8, v8), (9, v9)] h3) (fun k2 =>
k2 (.exit 0) [(10, t10), (3, v3), (7, v7), (8, v8), (9, v9)] h3) (seqK (fun tT h4 =>
ms (fun k3 =>
bareK (ixS 1 (get tT 7) (get tT 9)) h4 fun t11 h5 =>
bareK (ld1 h5 t11) h5 fun t12 h6 =>
bareK (xbin P .mul T.int (.const (.int .i64 31)) (.tmp 13) (.int .i64 31) (get tT 3)) h6 fun t14 h7 =>
bothK (xconv P T.uint8 T.int t12 h7) fun t16 h8 =>
bareK (xbin P .add T.int (.tmp 14) (.tmp 16) t14 t16) h8 fun t17 h9 =>
bareK (xbin P .rem T.int (.tmp 17) (.const (.int .i64 65521)) t17 (.int .i64 65521)) h9 fun t18 h10 =>
k3 .normal [(3, t18), (7, (get tT 7)), (8, (get tT 8)), (9, (get tT 9))] h10) (seqK (fun tT_1 h11 =>
bareK (xbin P .add T.int (.tmp 9) (.const (.int .i64 1)) (get tT_1 9) (.int .i64 1)) h11 fun t19 h12 =>
k .normal [(3, (get tT_1 3)), (7, (get tT_1 7)), (8, (get tT_1 8)), (9, t19)] h12) (afterK [3, 7, 8, 9] k))) (afterK [3, 7, 8, 9] k))

theorem s_pages_check_eq (M : CombL) (C : CallF) (LP : LoopH) (a0 : Value) (H : AHeap) : dBodyL M Tryd.prog hints C LP F.pages_check [a0] H = s_pages_check M.b.g M.c M.s Tryd.prog C (fun v3 v7 v8 v9 H k => loopL M Tryd.prog hints C LP F.pages_check 0 [(3, v3), (7, v7), (8, v8), (9, v9)] H k) a0 H (endK Tryd.prog [.tmp 2]) := by kernel_rfl

theorem s_pages_check_b0_eq (M : CombL) (C : CallF) (LP : LoopH) (v3 : Value) (v7 : Value) (v8 : Value) (v9 : Value) (H : AHeap) (k : K) : bodyL M Tryd.prog hints C LP F.pages_check 0 [(3, v3), (7, v7), (8, v8), (9, v9)] H (afterK [3, 7, 8, 9] k) = s_pages_check_b0 M.b.g M.c M.s Tryd.prog C (fun v3 v7 v8 v9 H k => loopL M Tryd.prog hints C LP F.pages_check 0 [(3, v3), (7, v7), (8, v8), (9, v9)] H k) v3 v7 v8 v9 H k := by kernel_rfl

/-! slices.IndexFunc[[]string,string] -/

noncomputable def s_slices_IndexFunc_string (mg : GT) (mc : CT) (ms : ST) (P : Program) (C : CallF) (L0 : Value → Value → Value → Value → AHeap → K → Res) (a0 : Value) (a1 : Value) (H : AHeap) (K0 : K) : Res :=
bareK (lenS a0) H fun t7 h1 =>
ms (fun k1 =>
L0 a0 a1 t7 (.int .i64 0) h1 (blkK [] 0 k1)) (seqK (fun tT h2 =>
K0 .ret [(4, (.int .i64 (-1)))] h2) K0)

noncomputable def s_slices_IndexFunc_string_b0 (mg : GT) (mc : CT) (ms : ST) (P : Program) (C : CallF) (L0 : Value → Value → Value → Value → AHeap → K → Res) (v0 : Value) (v1 : Value) (v7 : Value) (v8 : Value) (H : AHeap) (k : K) : Res :=
bareK (xbin P .lss T.int (.tmp 8) (.tmp 7) v8 v7) H fun t9 h2 =>
mc t9 (fun k2 => k2 .normal [(0, v0), (1, v1), (7, v7), (8, v8)] h2) (fun k2 =>
k2 (.exit 0) [(9, t9), (0, v0), (1, v1), (7, v7), (8, v8)] h2) (seqK (fun tT h3 =>
ms (fun k3 =>
bareK (ixS 1 (get tT 0) (get tT 8)) h3 fun t14 h4 =>
bareK (ld1 h4 t14) h4 fun t15 h5 =>
callK P C (get tT 1) [t15] h5 fun t16 h6 =>
mc t16 (fun k4 => k4 .ret [(4, (get tT 8))] h6) (fun k4 =>
k4 .normal [(0, (get tT 0)), (1, (get tT 1)), (7, (get tT 7)), (8, (get tT 8))] h6) (blkK [0, 1, 7, 8] 1 k3)) (seqK (fun tT_1 h7 =>
bareK (xbin P .add T.int (.tmp 8) (.const (.int .i64 1)) (get tT_1 8) (.int .i64 1)) h7 fun t18 h8 =>
k .normal [(0, (get tT_1 0)), (1, (get tT_1 1)), (7, (get tT_1 7)), (8, t18)] h8) (afterK [0, 1, 7, 8] k))) (afterK [0, 1, 7, 8] k))

theorem s_slices_IndexFunc_string_eq (M : CombL) (C : CallF) (LP : LoopH) (a0 : Value) (a1 : Value) (H : AHeap) : dBodyL M Tryd.prog hints C LP F.slices_IndexFunc_string [a0, a1] H = s_slices_IndexFunc_string M.b.g M.c M.s Tryd.prog C (fun v0 v1 v7 v8 H k => loopL M Tryd.prog hints C LP F.slices_IndexFunc_string 0 [(0, v0), (1, v1), (7, v7), (8, v8)] H k) a0 a1 H (endK Tryd.prog [.tmp 4]) := by kernel_rfl

theorem s_slices_IndexFunc_string_b0_eq (M : CombL) (C : CallF) (LP : LoopH) (v0 : Value) (v1 : Value) (v7 : Value) (v8 : Value) (H : AHeap) (k : K) : bodyL M Tryd.prog hints C LP F.slices_IndexFunc_string 0 [(0, v0), (1, v1), (7, v7), (8, v8)] H (afterK [0, 1, 7, 8] k) = s_slices_IndexFunc_string_b0 M.b.g M.c M.s Tryd.prog C (fun v0 v1 v7 v8 H k => loopL M Tryd.prog hints C LP F.slices_IndexFunc_string 0 [(0, v0), (1, v1), (7, v7), (8, v8)] H k) v0 v1 v7 v8 H k := by kernel_rfl

/-! internal.bytealg.CompareString -/

noncomputable def s_internal_bytealg_CompareString (mg : GT) (mc : CT) (ms : ST) (P : Program) (C : CallF) (a0 : Value) (a1 : Value) (H : AHeap) (K0 : K) : Res :=
bareK (xext P Tryd.f66 [a0, a1] H) H fun t7 h1 =>
K0 .ret [(4, t7)] h1

theorem s_internal_bytealg_CompareString_eq (M : CombL) (C : CallF) (LP : LoopH) (a0 : Value) (a1 : Value) (H : AHeap) : dBodyL M Tryd.prog hints C LP F.internal_bytealg_CompareString [a0, a1] H = s_internal_bytealg_CompareString M.b.g M.c M.s Tryd.prog C a0 a1 H (endK Tryd.prog [.tmp 4]) := by kernel_rfl

/-! internal.strconv.ParseUint -/

noncomputable def s_internal_strconv_ParseUint (mg : GT) (mc : CT) (ms : ST) (P : Program) (C : CallF) (L0 : Value → Value → Value → Value → Value → Value → Value → Value → Value → Value → AHeap → K → Res) (a0 : Value) (a1 : Value) (a2 : Value) (H : AHeap) (K0 : K) : Res :=
bareK (xbin P .eql T.string (.tmp 18) (.const (.string (mk []))) a0 (.string (mk []))) H fun t19 h1 =>
mc t19 (fun k1 => k1 .ret [(6, (.int .u64 0)), (7, (.iface T.internal_strconv_Error (.int .i64 2)))] h1) (fun k1 =>
k1 .normal [(0, a0), (1, a1), (2, a2)] h1) (seqK (fun tT h2 =>
bareK (xbin P .eql T.int (.tmp 21) (.const (.int .i64 0)) (get tT 1) (.int .i64 0)) h2 fun t22 h3 =>
ms (fun k2 =>
bareK (xbin P .leq T.int (.const (.int .i64 2)) (.tmp 26) (.int .i64 2) (get tT 1)) h3 fun t27 h4 =>
mg t27 true (fun o3 => o3 (get tT 1) h4) h4 fun t29 h5 =>
mg t27 true (fun o4 => bareK (xbin P .leq T.int (.tmp 29) (.const (.int .i64 36)) t29 (.int .i64 36)) h5 o4) h5 fun t30 h6 =>
pickK t27 t30 (.bool false) fun t31 =>
mc t31 (fun k5 => k5 .normal [(0, (get tT 0)), (1, (get tT 1)), (2, (get tT 2)), (8, t22), (9, (get tT 0))] h6) (fun k5 =>
bareK (xbin P .eql T.int (.tmp 33) (.const (.int .i64 0)) (get tT 1) (.int .i64 0)) h6 fun t34 h7 =>
mc t34 (fun k6 => bareK (xindex P T.string (get tT 0) (.int .i64 0)) h7 fun t36 h8 =>
bareK (xbin P .eql T.uint8 (.tmp 36) (.const (.int .u8 48)) t36 (.int .u8 48)) h8 fun t37 h9 =>
mc t37 (fun k7 => ms (fun k8 =>
bareK (lenT (get tT 0)) h9 fun t42 h10 =>
bareK (xbin P .geq T.int (.tmp 42) (.const (.int .i64 3)) t42 (.int .i64 3)) h10 fun t43 h11 =>
mg t43 true (fun o9 => o9 (get tT 0) h11) h11 fun t45 h12 =>
mg t43 true (fun o10 => bareK (xindex P T.string t45 (.int .i64 1)) h12 o10) h12 fun t46 h13 =>
mg t43 true (fun o11 => enterK C F.internal_strconv_lower [t46] h13 o11) h13 fun t47 h14 =>
mg t43 true (fun o12 => bareK (xbin P .eql T.uint8 (.tmp 47) (.const (.int .u8 98)) t47 (.int .u8 98)) h14 o12) h14 fun t48 h15 =>
pickK t43 t48 (.bool false) fun t49 =>
mc t49 (fun k13 => bareK (slT (get tT 0) (some (.int .i64 2)) none) h15 fun t51 h16 =>
k13 .normal [(0, t51), (1, (.int .i64 2)), (2, (get tT 2)), (8, t22), (9, (get tT 0))] h16) (fun k13 =>
bareK (lenT (get tT 0)) h15 fun t54 h17 =>
bareK (xbin P .geq T.int (.tmp 54) (.const (.int .i64 3)) t54 (.int .i64 3)) h17 fun t55 h18 =>
mg t55 true (fun o14 => o14 (get tT 0) h18) h18 fun t57 h19 =>
mg t55 true (fun o15 => bareK (xindex P T.string t57 (.int .i64 1)) h19 o15) h19 fun t58 h20 =>
mg t55 true (fun o16 => enterK C F.internal_strconv_lower [t58] h20 o16) h20 fun t59 h21 =>
mg t55 true (fun o17 => bareK (xbin P .eql T.uint8 (.tmp 59) (.const (.int .u8 111)) t59 (.int .u8 111)) h21 o17) h21 fun t60 h22 =>
pickK t55 t60 (.bool false) fun t61 =>
mc t61 (fun k18 => bareK (slT (get tT 0) (some (.int .i64 2)) none) h22 fun t63 h23 =>
k18 .normal [(0, t63), (1, (.int .i64 8)), (2, (get tT 2)), (8, t22), (9, (get tT 0))] h23) (fun k18 =>
bareK (lenT (get tT 0)) h22 fun t66 h24 =>
bareK (xbin P .geq T.int (.tmp 66) (.const (.int .i64 3)) t66 (.int .i64 3)) h24 fun t67 h25 =>
mg t67 true (fun o19 => o19 (get tT 0) h25) h25 fun t69 h26 =>
mg t67 true (fun o20 => bareK (xindex P T.string t69 (.int .i64 1)) h26 o20) h26 fun t70 h27 =>
mg t67 true (fun o21 => enterK C F.internal_strconv_lower [t70] h27 o21) h27 fun t71 h28 =>
mg t67 true (fun o22 => bareK (xbin P .eql T.uint8 (.tmp 71) (.const (.int .u8 120)) t71 (.int .u8 120)) h28 o22) h28 fun t72 h29 =>
pickK t67 t72 (.bool false) fun t73 =>
mc t73 (fun k23 => bareK (slT (get tT 0) (some (.int .i64 2)) none) h29 fun t75 h30 =>
k23 .normal [(0, t75), (1, (.int .i64 16)), (2, (get tT 2)), (8, t22), (9, (get tT 0))] h30) (fun k23 =>
bareK (slT (get tT 0) (some (.int .i64 1)) none) h29 fun t39 h31 =>
k23 .normal [(0, t39), (1, (.int .i64 8)), (2, (get tT 2)), (8, t22), (9, (get tT 0))] h31) (afterK [0, 1, 2, 8, 9] k18)) (afterK [0, 1, 2, 8, 9] k13)) (blkK [0, 1, 2, 8, 9] 1 k8)) (afterK [0, 1, 2, 8, 9] k7)) (fun k7 =>
k7 .normal [(0, (get tT 0)), (1, (.int .i64 10)), (2, (get tT 2)), (8, t22), (9, (get tT 0))] h9) (afterK [0, 1, 2, 8, 9] k6)) (fun k6 =>
k6 .ret [(6, (.int .u64 0)), (7, (.iface T.internal_strconv_Error (.int .i64 3)))] h7) (afterK [0, 1, 2, 8, 9] k5)) (blkK [0, 1, 2, 8, 9] 0 k2)) (seqK (fun tT_1 h32 =>
bareK (xbin P .eql T.int (.tmp 76) (.const (.int .i64 0)) (get tT_1 2) (.int .i64 0)) h32 fun t77 h33 =>
mc t77 (fun k24 => k24 .normal [(0, (get tT_1 0)), (1, (get tT_1 1)), (2, (.int .i64 64)), (8, (get tT_1 8)), (9, (get tT_1 9))] h33) (fun k24 =>
bareK (xbin P .lss T.int (.tmp 78) (.const (.int .i64 0)) (get tT_1 2) (.int .i64 0)) h33 fun t79 h34 =>
mg t79 false (fun o25 => o25 (get tT_1 2) h34) h34 fun t81 h35 =>
mg t79 false (fun o26 => bareK (xbin P .gtr T.int (.tmp 81) (.const (.int .i64 64)) t81 (.int .i64 64)) h35 o26) h35 fun t82 h36 =>
pickK t79 (.bool true) t82 fun t83 =>
mc t83 (fun k27 => k27 .ret [(6, (.int .u64 0)), (7, (.iface T.internal_strconv_Error (.int .i64 4)))] h36) (fun k27 =>
k27 .normal [(0, (get tT_1 0)), (1, (get tT_1 1)), (2, (get tT_1 2)), (8, (get tT_1 8)), (9, (get tT_1 9))] h36) (afterK [0, 1, 2, 8, 9] k24)) (seqK (fun tT_2 h37 =>
ms (fun k28 =>
bareK (xbin P .eql T.int (.tmp 85) (.const (.int .i64 10)) (get tT_2 1) (.int .i64 10)) h37 fun t91 h38 =>
mc t91 (fun k29 => k29 .normal [(0, (get tT_2 0)), (1, (get tT_2 1)), (2, (get tT_2 2)), (8, (get tT_2 8)), (9, (get tT_2 9)), (10, (.int .u64 1844674407370955162))] h38) (fun k29 =>
bareK (xbin P .eql T.int (.tmp 85) (.const (.int .i64 16)) (get tT_2 1) (.int .i64 16)) h38 fun t93 h39 =>
mc t93 (fun k30 => k30 .normal [(0, (get tT_2 0)), (1, (get tT_2 1)), (2, (get tT_2 2)), (8, (get tT_2 8)), (9, (get tT_2 9)), (10, (.int .u64 1152921504606846976))] h39) (fun k30 =>
bothK (xconv P T.int T.uint64 (get tT_2 1) h39) fun t87 h40 =>
bareK (xbin P .quo T.uint64 (.const (.int .u64 18446744073709551615)) (.tmp 87) (.int .u64 18446744073709551615) t87) h40 fun t88 h41 =>
bareK (xbin P .add T.uint64 (.tmp 88) (.const (.int .u64 1)) t88 (.int .u64 1)) h41 fun t89 h42 =>
k30 .normal [(0, (get tT_2 0)), (1, (get tT_2 1)), (2, (get tT_2 2)), (8, (get tT_2 8)), (9, (get tT_2 9)), (10, t89)] h42) (afterK [0, 1, 2, 8, 9, 10] k29)) (blkK [0, 1, 2, 8, 9, 10] 2 k28)) (seqK (fun tT_3 h43 =>
bothK (xconv P T.int T.uint (get tT_3 2) h43) fun t95 h44 =>
bareK (xbin P .shl T.uint64 (.const (.int .u64 1)) (.tmp 95) (.int .u64 1) t95) h44 fun t96 h45 =>
bareK (xbin P .sub T.uint64 (.tmp 96) (.const (.int .u64 1)) t96 (.int .u64 1)) h45 fun t97 h46 =>
bothK (xconv P T.string T.sl_uint8 (get tT_3 0) h46) fun t99 h47 =>
bareK (lenS t99) h47 fun t100 h48 =>
ms (fun k31 =>
L0 (get tT_3 1) (get tT_3 8) (get tT_3 9) (get tT_3 10) t97 (.bool false) (.int .u64 0) t99 t100 (.int .i64 0) h48 (blkK [9, 12, 13] 3 k31)) (seqK (fun tT_4 h49 =>
mg (get tT_4 12) true (fun o32 => o32 (get tT_4 9) h49) h49 fun t166 h50 =>
mg (get tT_4 12) true (fun o33 => enterK C F.internal_strconv_underscoreOK [t166] h50 o33) h50 fun t167 h51 =>
mg (get tT_4 12) true (fun o34 => bareK (xun P .not t167) h51 o34) h51 fun t168 h52 =>
pickK (get tT_4 12) t168 (.bool false) fun t169 =>
mc t169 (fun k35 => k35 .ret [(6, (.int .u64 0)), (7, (.iface T.internal_strconv_Error (.int .i64 2)))] h52) (fun k35 =>
k35 .normal [(13, (get tT_4 13))] h52) (seqK (fun tT_5 h53 =>
K0 .ret [(6, (get tT_5 13)), (7, .nilIface)] h53) K0)) K0)) K0)) K0)) K0)) K0)

noncomputable def s_internal_strconv_ParseUint_b0 (mg : GT) (mc : CT) (ms : ST) (P : Program) (C : CallF) (L0 : Value → Value → Value → Value → Value → Value → Value → Value → Value → Value → AHeap → K → Res) (v1 : Value) (v8 : Value) (v9 : Value) (v10 : Value) (v11 : Value) (v12 : Value) (v13 : Value) (v99 : Value) (v100 : Value) (v101 : Value) (H : AHeap) (k : K) : Res :=
bareK (xbin P .lss T.int (.tmp 101) (.tmp 100) v101 v100) H fun t102 h49 =>
mc t102 (fun k32 => k32 .normal [(1, v1), (8, v8), (9, v9), (10, v10), (11, v11), (12, v12), (13, v13), (99, v99), (100, v100), (101, v101)] h49) (fun k32 =>
k32 (.exit 3) [(102, t102), (1, v1), (8, v8), (9, v9), (10, v10), (11, v11), (12, v12), (13, v13), (99, v99), (100, v100), (101, v101)] h49) (seqK (fun tT h50 =>
ms (fun k33 =>
bareK (ixS 1 (get tT 99) (get tT 101)) h50 fun t103 h51 =>
bareK (ld1 h51 t103) h51 fun t104 h52 =>
ms (fun k34 =>
bareK (xbin P .eql T.uint8 (.tmp 107) (.const (.int .u8 95)) t104 (.int .u8 95)) h52 fun t108 h53 =>
mg t108 true (fun o35 => o35 (get tT 8) h53) h53 fun t110 h54 =>
pickK t108 t110 (.bool false) fun t111 =>
mc t111 (fun k36 => k36 (.exit 4) ((12, (.bool true)) :: (106, t111) :: (111, t111) :: (110, t110) :: (109, t108) :: (108, t108) :: (107, t104) :: (16, (.int .u8 0)) :: (15, t104) :: (104, t104) :: (103, t103) :: tT) h54) (fun k36 =>
bareK (xbin P .leq T.uint8 (.const (.int .u8 48)) (.tmp 113) (.int .u8 48) t104) h54 fun t114 h55 =>
mg t114 true (fun o37 => o37 t104 h55) h55 fun t116 h56 =>
mg t114 true (fun o38 => bareK (xbin P .leq T.uint8 (.tmp 116) (.const (.int .u8 57)) t116 (.int .u8 57)) h56 o38) h56 fun t117 h57 =>
pickK t114 t117 (.bool false) fun t118 =>
mc t118 (fun k39 => bareK (xbin P .sub T.uint8 (.tmp 119) (.const (.int .u8 48)) t104 (.int .u8 48)) h57 fun t120 h58 =>
k39 .normal [(1, (get tT 1)), (8, (get tT 8)), (9, (get tT 9)), (10, (get tT 10)), (11, (get tT 11)), (12, (get tT 12)), (13, (get tT 13)), (16, t120), (99, (get tT 99)), (100, (get tT 100)), (101, (get tT 101))] h58) (fun k39 =>
enterK C F.internal_strconv_lower [t104] h57 fun t123 h59 =>
bareK (xbin P .leq T.uint8 (.const (.int .u8 97)) (.tmp 123) (.int .u8 97) t123) h59 fun t124 h60 =>
mg t124 true (fun o40 => o40 t104 h60) h60 fun t126 h61 =>
mg t124 true (fun o41 => enterK C F.internal_strconv_lower [t126] h61 o41) h61 fun t127 h62 =>
mg t124 true (fun o42 => bareK (xbin P .leq T.uint8 (.tmp 127) (.const (.int .u8 122)) t127 (.int .u8 122)) h62 o42) h62 fun t128 h63 =>
pickK t124 t128 (.bool false) fun t129 =>
mc t129 (fun k43 => enterK C F.internal_strconv_lower [t104] h63 fun t131 h64 =>
bareK (xbin P .sub T.uint8 (.tmp 131) (.const (.int .u8 97)) t131 (.int .u8 97)) h64 fun t132 h65 =>
bareK (xbin P .add T.uint8 (.tmp 132) (.const (.int .u8 10)) t132 (.int .u8 10)) h65 fun t133 h66 =>
k43 .normal [(1, (get tT 1)), (8, (get tT 8)), (9, (get tT 9)), (10, (get tT 10)), (11, (get tT 11)), (12, (get tT 12)), (13, (get tT 13)), (16, t133), (99, (get tT 99)), (100, (get tT 100)), (101, (get tT 101))] h66) (fun k43 =>
k43 .ret [(6, (.int .u64 0)), (7, (.iface T.internal_strconv_Error (.int .i64 2)))] h63) (afterK [1, 8, 9, 10, 11, 12, 13, 16, 99, 100, 101] k39)) (afterK [1, 8, 9, 10, 11, 12, 13, 16, 99, 100, 101] k36)) (blkK [1, 8, 9, 10, 11, 12, 13, 16, 99, 100, 101] 5 k34)) (seqK (fun tT_1 h67 =>
bothK (xconv P T.int T.uint8 (get tT_1 1) h67) fun t136 h68 =>
bareK (xbin P .geq T.uint8 (.tmp 134) (.tmp 136) (get tT_1 16) t136) h68 fun t137 h69 =>
mc t137 (fun k44 => k44 .ret [(6, (.int .u64 0)), (7, (.iface T.internal_strconv_Error (.int .i64 2)))] h69) (fun k44 =>
k44 .normal [(1, (get tT_1 1)), (8, (get tT_1 8)), (9, (get tT_1 9)), (10, (get tT_1 10)), (11, (get tT_1 11)), (12, (get tT_1 12)), (13, (get tT_1 13)), (16, (get tT_1 16)), (99, (get tT_1 99)), (100, (get tT_1 100)), (101, (get tT_1 101))] h69) (seqK (fun tT_2 h70 =>
bareK (xbin P .geq T.uint64 (.tmp 139) (.tmp 140) (get tT_2 13) (get tT_2 10)) h70 fun t141 h71 =>
mc t141 (fun k45 => k45 .ret [(6, (get tT_2 11)), (7, (.iface T.internal_strconv_Error (.int .i64 1)))] h71) (fun k45 =>
k45 .normal [(1, (get tT_2 1)), (8, (get tT_2 8)), (9, (get tT_2 9)), (10, (get tT_2 10)), (11, (get tT_2 11)), (12, (get tT_2 12)), (13, (get tT_2 13)), (16, (get tT_2 16)), (99, (get tT_2 99)), (100, (get tT_2 100)), (101, (get tT_2 101))] h71) (seqK (fun tT_3 h72 =>
bothK (xconv P T.int T.uint64 (get tT_3 1) h72) fun t146 h73 =>
bareK (xbin P .mul T.uint64 (.tmp 144) (.tmp 146) (get tT_3 13) t146) h73 fun t147 h74 =>
bothK (xconv P T.uint8 T.uint64 (get tT_3 16) h74) fun t150 h75 =>
bareK (xbin P .add T.uint64 (.tmp 148) (.tmp 150) t147 t150) h75 fun t151 h76 =>
bareK (xbin P .lss T.uint64 (.tmp 152) (.tmp 153) t151 t147) h76 fun t154 h77 =>
mg t154 false (fun o46 => o46 t151 h77) h77 fun t156 h78 =>
mg t154 false (fun o47 => o47 (get tT_3 11) h78) h78 fun t157 h79 =>
mg t154 false (fun o48 => bareK (xbin P .gtr T.uint64 (.tmp 156) (.tmp 157) t156 t157) h79 o48) h79 fun t158 h80 =>
pickK t154 (.bool true) t158 fun t159 =>
mc t159 (fun k49 => k49 .ret [(6, (get tT_3 11)), (7, (.iface T.internal_strconv_Error (.int .i64 1)))] h80) (fun k49 =>
k49 .normal [(1, (get tT_3 1)), (8, (get tT_3 8)), (9, (get tT_3 9)), (10, (get tT_3 10)), (11, (get tT_3 11)), (12, (get tT_3 12)), (17, t151), (99, (get tT_3 99)), (100, (get tT_3 100)), (101, (get tT_3 101))] h80) (seqK (fun tT_4 h81 =>
k33 .normal [(1, (get tT_4 1)), (8, (get tT_4 8)), (9, (get tT_4 9)), (10, (get tT_4 10)), (11, (get tT_4 11)), (12, (get tT_4 12)), (13, (get tT_4 17)), (99, (get tT_4 99)), (100, (get tT_4 100)), (101, (get tT_4 101))] h81) (blkK [1, 8, 9, 10, 11, 12, 13, 99, 100, 101] 4 k33))) (blkK [1, 8, 9, 10, 11, 12, 13, 99, 100, 101] 4 k33))) (blkK [1, 8, 9, 10, 11, 12, 13, 99, 100, 101] 4 k33))) (blkK [1, 8, 9, 10, 11, 12, 13, 99, 100, 101] 4 k33))) (seqK (fun tT_5 h82 =>
bareK (xbin P .add T.int (.tmp 101) (.const (.int .i64 1)) (get tT_5 101) (.int .i64 1)) h82 fun t163 h83 =>
k .normal [(1, (get tT_5 1)), (8, (get tT_5 8)), (9, (get tT_5 9)), (10, (get tT_5 10)), (11, (get tT_5 11)), (12, (get tT_5 12)), (13, (get tT_5 13)), (99, (get tT_5 99)), (100, (get tT_5 100)), (101, t163)] h83) (afterK [1, 8, 9, 10, 11, 12, 13, 99, 100, 101] k))) (afterK [1, 8, 9, 10, 11, 12, 13, 99, 100, 101] k))

theorem s_internal_strconv_ParseUint_eq (M : CombL) (C : CallF) (LP : LoopH) (a0 : Value) (a1 : Value) (a2 : Value) (H : AHeap) : dBodyL M Tryd.prog hints C LP F.internal_strconv_ParseUint [a0, a1, a2] H = s_internal_strconv_ParseUint M.b.g M.c M.s Tryd.prog C (fun v1 v8 v9 v10 v11 v12 v13 v99 v100 v101 H k => loopL M Tryd.prog hints C LP F.internal_strconv_ParseUint 0 [(1, v1), (8, v8), (9, v9), (10, v10), (11, v11), (12, v12), (13, v13), (99, v99), (100, v100), (101, v101)] H k) a0 a1 a2 H (endK Tryd.prog [.tmp 6, .tmp 7]) := by kernel_rfl

theorem s_internal_strconv_ParseUint_b0_eq (M : CombL) (C : CallF) (LP : LoopH) (v1 : Value) (v8 : Value) (v9 : Value) (v10 : Value) (v11 : Value) (v12 : Value) (v13 : Value) (v99 : Value) (v100 : Value) (v101 : Value) (H : AHeap) (k : K) : bodyL M Tryd.prog hints C LP F.internal_strconv_ParseUint 0 [(1, v1), (8, v8), (9, v9), (10, v10), (11, v11), (12, v12), (13, v13), (99, v99), (100, v100), (101, v101)] H (afterK [1, 8, 9, 10, 11, 12, 13, 99, 100, 101] k) = s_internal_strconv_ParseUint_b0 M.b.g M.c M.s Tryd.prog C (fun v1 v8 v9 v10 v11 v12 v13 v99 v100 v101 H k => loopL M Tryd.prog hints C LP F.internal_strconv_ParseUint 0 [(1, v1), (8, v8), (9, v9), (10, v10), (11, v11), (12, v12), (13, v13), (99, v99), (100, v100), (101, v101)] H k) v1 v8 v9 v10 v11 v12 v13 v99 v100 v101 H k := by kernel_rfl

/-! internal.strconv.lower -/

noncomputable def s_internal_strconv_lower (mg : GT) (mc : CT) (ms : ST) (P : Program) (C : CallF) (a0 : Value) (H : AHeap) (K0 : K) : Res :=
bareK (xbin P .or T.uint8 (.tmp 3) (.const (.int .u8 32)) a0 (.int .u8 32)) H fun t4 h1 =>
K0 .ret [(2, t4)] h1

theorem s_internal_strconv_lower_eq (M : CombL) (C : CallF) (LP : LoopH) (a0 : Value) (H : AHeap) : dBodyL M Tryd.prog hints C LP F.internal_strconv_lower [a0] H = s_internal_strconv_lower M.b.g M.c M.s Tryd.prog C a0 H (endK Tryd.prog [.tmp 2]) := by kernel_rfl



end Go.Proofs.YtlkgfbcencoahaaDoor

/-
  The equations of the seat's functions over calls in the limit (a program of ours printed it).
  Conditions: none. By an AI agent.
-/
set_option linter.unusedVariables false
namespace Go.Proofs.YtlkgfbcencoahaaDoor
open Go Eng

theorem u_int64 : Tryd.prog.underlying T.int64 = Tryd.prog.underlying 2 := rfl
theorem u_int : Tryd.prog.underlying T.int = Tryd.prog.underlying 3 := rfl
theorem u_uint8 : Tryd.prog.underlying T.uint8 = Tryd.prog.underlying 5 := rfl
theorem u_string : Tryd.prog.underlying T.string = Tryd.prog.underlying 9 := rfl
theorem u_int32 : Tryd.prog.underlying T.int32 = Tryd.prog.underlying 21 := rfl
theorem u_sl_api_Pair : Tryd.prog.underlying T.sl_api_Pair = Tryd.prog.underlying 22 := rfl
theorem u_p_model_Model : Tryd.prog.underlying T.p_model_Model = Tryd.prog.underlying 25 := rfl
theorem u_sl_uint8 : Tryd.prog.underlying T.sl_uint8 = Tryd.prog.underlying 34 := rfl
theorem u_api_Pair : Tryd.prog.underlying T.api_Pair = Tryd.prog.underlying 43 := rfl
theorem u_api_Errno : Tryd.prog.underlying T.api_Errno = Tryd.prog.underlying 48 := rfl
theorem u_model_Model : Tryd.prog.underlying T.model_Model = Tryd.prog.underlying 62 := rfl
theorem u_n2_string : Tryd.prog.underlying T.n2_string = Tryd.prog.underlying 67 := rfl
theorem u_uint64 : Tryd.prog.underlying T.uint64 = Tryd.prog.underlying 89 := rfl
theorem u_error : Tryd.prog.underlying T.error = Tryd.prog.underlying 91 := rfl
theorem u_uint : Tryd.prog.underlying T.uint = Tryd.prog.underlying 94 := rfl
theorem u_p_strings_Builder : Tryd.prog.underlying T.p_strings_Builder = Tryd.prog.underlying 99 := rfl
theorem u_strings_Builder : Tryd.prog.underlying T.strings_Builder = Tryd.prog.underlying 101 := rfl
theorem u_internal_strconv_Error : Tryd.prog.underlying T.internal_strconv_Error = Tryd.prog.underlying 108 := rfl
theorem u_p_strconv_NumError : Tryd.prog.underlying T.p_strconv_NumError = Tryd.prog.underlying 110 := rfl
theorem u_p_uint8 : Tryd.prog.underlying T.p_uint8 = Tryd.prog.underlying 113 := rfl
theorem u_strconv_NumError : Tryd.prog.underlying T.strconv_NumError = Tryd.prog.underlying 117 := rfl
theorem u_unsafe_Pointer : Tryd.prog.underlying T.unsafe_Pointer = Tryd.prog.underlying 120 := rfl
theorem u_unicode_utf8_acceptRange : Tryd.prog.underlying T.unicode_utf8_acceptRange = Tryd.prog.underlying 124 := rfl
theorem u_uint32 : Tryd.prog.underlying T.uint32 = Tryd.prog.underlying 126 := rfl
theorem u_p_errors_errorString : Tryd.prog.underlying T.p_errors_errorString = Tryd.prog.underlying 129 := rfl
theorem u_errors_errorString : Tryd.prog.underlying T.errors_errorString = Tryd.prog.underlying 131 := rfl
theorem u_n24_uint8 : Tryd.prog.underlying T.n24_uint8 = Tryd.prog.underlying 133 := rfl
theorem u_n65_uint8 : Tryd.prog.underlying T.n65_uint8 = Tryd.prog.underlying 140 := rfl
@[go_sem] theorem x_int64_uint64 {n : Int} {H : AHeap} : xconv Tryd.prog T.int64 T.uint64 (.int .i64 n) H = some (.int .u64 (IntKind.wrap .u64 n), H) := xconv_int (P := Tryd.prog) (s := 2) (t := 89) Tryd.underlying2 Tryd.underlying89
@[go_sem] theorem x_int_uint8 {n : Int} {H : AHeap} : xconv Tryd.prog T.int T.uint8 (.int .i64 n) H = some (.int .u8 (IntKind.wrap .u8 n), H) := xconv_int (P := Tryd.prog) (s := 3) (t := 5) Tryd.underlying3 Tryd.underlying5
@[go_sem] theorem x_int_uint64 {n : Int} {H : AHeap} : xconv Tryd.prog T.int T.uint64 (.int .i64 n) H = some (.int .u64 (IntKind.wrap .u64 n), H) := xconv_int (P := Tryd.prog) (s := 3) (t := 89) Tryd.underlying3 Tryd.underlying89
@[go_sem] theorem x_int_uint {n : Int} {H : AHeap} : xconv Tryd.prog T.int T.uint (.int .i64 n) H = some (.int .u64 (IntKind.wrap .u64 n), H) := xconv_int (P := Tryd.prog) (s := 3) (t := 94) Tryd.underlying3 Tryd.underlying94
@[go_sem] theorem x_uint8_int {n : Int} {H : AHeap} : xconv Tryd.prog T.uint8 T.int (.int .u8 n) H = some (.int .i64 (IntKind.wrap .i64 n), H) := xconv_int (P := Tryd.prog) (s := 5) (t := 3) Tryd.underlying5 Tryd.underlying3
@[go_sem] theorem x_uint8_int32 {n : Int} {H : AHeap} : xconv Tryd.prog T.uint8 T.int32 (.int .u8 n) H = some (.int .i32 (IntKind.wrap .i32 n), H) := xconv_int (P := Tryd.prog) (s := 5) (t := 21) Tryd.underlying5 Tryd.underlying21
@[go_sem] theorem x_uint8_uint64 {n : Int} {H : AHeap} : xconv Tryd.prog T.uint8 T.uint64 (.int .u8 n) H = some (.int .u64 (IntKind.wrap .u64 n), H) := xconv_int (P := Tryd.prog) (s := 5) (t := 89) Tryd.underlying5 Tryd.underlying89
@[go_sem] theorem x_uint8_uint32 {n : Int} {H : AHeap} : xconv Tryd.prog T.uint8 T.uint32 (.int .u8 n) H = some (.int .u32 (IntKind.wrap .u32 n), H) := xconv_int (P := Tryd.prog) (s := 5) (t := 126) Tryd.underlying5 Tryd.underlying126
@[go_sem] theorem x_uint64_uint8 {n : Int} {H : AHeap} : xconv Tryd.prog T.uint64 T.uint8 (.int .u64 n) H = some (.int .u8 (IntKind.wrap .u8 n), H) := xconv_int (P := Tryd.prog) (s := 89) (t := 5) Tryd.underlying89 Tryd.underlying5
@[go_sem] theorem x_uint64_uint32 {n : Int} {H : AHeap} : xconv Tryd.prog T.uint64 T.uint32 (.int .u64 n) H = some (.int .u32 (IntKind.wrap .u32 n), H) := xconv_int (P := Tryd.prog) (s := 89) (t := 126) Tryd.underlying89 Tryd.underlying126
@[go_sem] theorem x_uint_int {n : Int} {H : AHeap} : xconv Tryd.prog T.uint T.int (.int .u64 n) H = some (.int .i64 (IntKind.wrap .i64 n), H) := xconv_int (P := Tryd.prog) (s := 94) (t := 3) Tryd.underlying94 Tryd.underlying3
@[go_sem] theorem x_uint_uint32 {n : Int} {H : AHeap} : xconv Tryd.prog T.uint T.uint32 (.int .u64 n) H = some (.int .u32 (IntKind.wrap .u32 n), H) := xconv_int (P := Tryd.prog) (s := 94) (t := 126) Tryd.underlying94 Tryd.underlying126
@[go_sem] theorem x_uint32_uint8 {n : Int} {H : AHeap} : xconv Tryd.prog T.uint32 T.uint8 (.int .u32 n) H = some (.int .u8 (IntKind.wrap .u8 n), H) := xconv_int (P := Tryd.prog) (s := 126) (t := 5) Tryd.underlying126 Tryd.underlying5
theorem c_model_Model_place {call : CallF} {x c : Array Value} {args : List Value} {H : AHeap} {k : Value → AHeap → Res} : callK Tryd.prog call (.func (.func F.model_Model_place) x c) args H k = enterK call F.model_Model_place (x.toList ++ args ++ c.toList) H k := by kernel_rfl
theorem c_model_Model_place_1 {call : CallF} {x c : Array Value} {args : List Value} {H : AHeap} {k : Value → AHeap → Res} : callK Tryd.prog call (.func (.func F.model_Model_place_1) x c) args H k = enterK call F.model_Model_place_1 (x.toList ++ args ++ c.toList) H k := by kernel_rfl
theorem c_model_check_1 {call : CallF} {x c : Array Value} {args : List Value} {H : AHeap} {k : Value → AHeap → Res} : callK Tryd.prog call (.func (.func F.model_check_1) x c) args H k = enterK call F.model_check_1 (x.toList ++ args ++ c.toList) H k := by kernel_rfl

noncomputable def l_law_small_0 (v0 : Value) (v3 : Value) (H : AHeap) (k : K) : Res := loopL stdL Tryd.prog hints CC limLP F.law_small 0 [(0, v0), (3, v3)] H k
theorem r_law_small_0 (v0 : Value) (v3 : Value) (H : AHeap) (k : K) : l_law_small_0 v0 v3 H k = s_law_small_b0 guardK condL shareL Tryd.prog CC l_law_small_0 v0 v3 H (seqK (fun T H => l_law_small_0 (get T 0) (get T 3) H k) k) := ((loopL_next (by kernel_rfl) rfl H k).trans (s_law_small_b0_eq stdL CC limLP v0 v3 H _)).trans (by kernel_rfl)
theorem d_law_small (a0 : Value) (H : AHeap) {r : Value × AHeap} (h : s_law_small guardK condL shareL Tryd.prog CC l_law_small_0 a0 H (endK Tryd.prog [.tmp 2]) = some r) : CC F.law_small [a0] H = some (tidy H r) := D_body (by kernel_rfl) ((s_law_small_eq stdL CC limLP a0 H).trans (Eq.trans (show s_law_small stdL.b.g stdL.c stdL.s Tryd.prog CC (fun v0 v3 H k => loopL stdL Tryd.prog hints CC limLP F.law_small 0 [(0, v0), (3, v3)] H k) a0 H (endK Tryd.prog [.tmp 2]) = s_law_small guardK condL shareL Tryd.prog CC l_law_small_0 a0 H (endK Tryd.prog [.tmp 2]) by kernel_rfl) h))

noncomputable def l_law_filled_0 (v0 : Value) (v3 : Value) (v4 : Value) (H : AHeap) (k : K) : Res := loopL stdL Tryd.prog hints CC limLP F.law_filled 0 [(0, v0), (3, v3), (4, v4)] H k
theorem r_law_filled_0 (v0 : Value) (v3 : Value) (v4 : Value) (H : AHeap) (k : K) : l_law_filled_0 v0 v3 v4 H k = s_law_filled_b0 guardK condL shareL Tryd.prog CC l_law_filled_0 v0 v3 v4 H (seqK (fun T H => l_law_filled_0 (get T 0) (get T 3) (get T 4) H k) k) := ((loopL_next (by kernel_rfl) rfl H k).trans (s_law_filled_b0_eq stdL CC limLP v0 v3 v4 H _)).trans (by kernel_rfl)
theorem d_law_filled (a0 : Value) (H : AHeap) {r : Value × AHeap} (h : s_law_filled guardK condL shareL Tryd.prog CC l_law_filled_0 a0 H (endK Tryd.prog [.tmp 2]) = some r) : CC F.law_filled [a0] H = some (tidy H r) := D_body (by kernel_rfl) ((s_law_filled_eq stdL CC limLP a0 H).trans (Eq.trans (show s_law_filled stdL.b.g stdL.c stdL.s Tryd.prog CC (fun v0 v3 v4 H k => loopL stdL Tryd.prog hints CC limLP F.law_filled 0 [(0, v0), (3, v3), (4, v4)] H k) a0 H (endK Tryd.prog [.tmp 2]) = s_law_filled guardK condL shareL Tryd.prog CC l_law_filled_0 a0 H (endK Tryd.prog [.tmp 2]) by kernel_rfl) h))

theorem d_law_first (a0 : Value) (a1 : Value) (a2 : Value) (a3 : Value) (a4 : Value) (a5 : Value) (a6 : Value) (H : AHeap) {r : Value × AHeap} (h : s_law_first guardK condL shareL Tryd.prog CC a0 a1 a2 a3 a4 a5 a6 H (endK Tryd.prog [.tmp 14]) = some r) : CC F.law_first [a0, a1, a2, a3, a4, a5, a6] H = some (tidy H r) := D_body (by kernel_rfl) ((s_law_first_eq stdL CC limLP a0 a1 a2 a3 a4 a5 a6 H).trans (Eq.trans (show s_law_first stdL.b.g stdL.c stdL.s Tryd.prog CC a0 a1 a2 a3 a4 a5 a6 H (endK Tryd.prog [.tmp 14]) = s_law_first guardK condL shareL Tryd.prog CC a0 a1 a2 a3 a4 a5 a6 H (endK Tryd.prog [.tmp 14]) by kernel_rfl) h))

noncomputable def l_law_alls_0 (v4 : Value) (v13 : Value) (v15 : Value) (H : AHeap) (k : K) : Res := loopL stdL Tryd.prog hints CC limLP F.law_alls 0 [(4, v4), (13, v13), (15, v15)] H k
theorem r_law_alls_0 (v4 : Value) (v13 : Value) (v15 : Value) (H : AHeap) (k : K) : l_law_alls_0 v4 v13 v15 H k = s_law_alls_b0 guardK condL shareL Tryd.prog CC l_law_alls_0 v4 v13 v15 H (seqK (fun T H => l_law_alls_0 (get T 4) (get T 13) (get T 15) H k) k) := ((loopL_next (by kernel_rfl) rfl H k).trans (s_law_alls_b0_eq stdL CC limLP v4 v13 v15 H _)).trans (by kernel_rfl)
theorem d_law_alls (a0 : Value) (a1 : Value) (a2 : Value) (a3 : Value) (a4 : Value) (a5 : Value) (H : AHeap) {r : Value × AHeap} (h : s_law_alls guardK condL shareL Tryd.prog CC l_law_alls_0 a0 a1 a2 a3 a4 a5 H (endK Tryd.prog [.tmp 12]) = some r) : CC F.law_alls [a0, a1, a2, a3, a4, a5] H = some (tidy H r) := D_body (by kernel_rfl) ((s_law_alls_eq stdL CC limLP a0 a1 a2 a3 a4 a5 H).trans (Eq.trans (show s_law_alls stdL.b.g stdL.c stdL.s Tryd.prog CC (fun v4 v13 v15 H k => loopL stdL Tryd.prog hints CC limLP F.law_alls 0 [(4, v4), (13, v13), (15, v15)] H k) a0 a1 a2 a3 a4 a5 H (endK Tryd.prog [.tmp 12]) = s_law_alls guardK condL shareL Tryd.prog CC l_law_alls_0 a0 a1 a2 a3 a4 a5 H (endK Tryd.prog [.tmp 12]) by kernel_rfl) h))

noncomputable def l_law_in_0 (v1 : Value) (v2 : Value) (v3 : Value) (v9 : Value) (v10 : Value) (v11 : Value) (H : AHeap) (k : K) : Res := loopL stdL Tryd.prog hints CC limLP F.law_in 0 [(1, v1), (2, v2), (3, v3), (9, v9), (10, v10), (11, v11)] H k
theorem r_law_in_0 (v1 : Value) (v2 : Value) (v3 : Value) (v9 : Value) (v10 : Value) (v11 : Value) (H : AHeap) (k : K) : l_law_in_0 v1 v2 v3 v9 v10 v11 H k = s_law_in_b0 guardK condL shareL Tryd.prog CC l_law_in_0 v1 v2 v3 v9 v10 v11 H (seqK (fun T H => l_law_in_0 (get T 1) (get T 2) (get T 3) (get T 9) (get T 10) (get T 11) H k) k) := ((loopL_next (by kernel_rfl) rfl H k).trans (s_law_in_b0_eq stdL CC limLP v1 v2 v3 v9 v10 v11 H _)).trans (by kernel_rfl)
theorem d_law_in (a0 : Value) (a1 : Value) (a2 : Value) (a3 : Value) (H : AHeap) {r : Value × AHeap} (h : s_law_in guardK condL shareL Tryd.prog CC l_law_in_0 a0 a1 a2 a3 H (endK Tryd.prog [.tmp 8]) = some r) : CC F.law_in [a0, a1, a2, a3] H = some (tidy H r) := D_body (by kernel_rfl) ((s_law_in_eq stdL CC limLP a0 a1 a2 a3 H).trans (Eq.trans (show s_law_in stdL.b.g stdL.c stdL.s Tryd.prog CC (fun v1 v2 v3 v9 v10 v11 H k => loopL stdL Tryd.prog hints CC limLP F.law_in 0 [(1, v1), (2, v2), (3, v3), (9, v9), (10, v10), (11, v11)] H k) a0 a1 a2 a3 H (endK Tryd.prog [.tmp 8]) = s_law_in guardK condL shareL Tryd.prog CC l_law_in_0 a0 a1 a2 a3 H (endK Tryd.prog [.tmp 8]) by kernel_rfl) h))

theorem d_law_cut (a0 : Value) (a1 : Value) (a2 : Value) (H : AHeap) {r : Value × AHeap} (h : s_law_cut guardK condL shareL Tryd.prog CC a0 a1 a2 H (endK Tryd.prog [.tmp 6, .tmp 7]) = some r) : CC F.law_cut [a0, a1, a2] H = some (tidy H r) := D_body (by kernel_rfl) ((s_law_cut_eq stdL CC limLP a0 a1 a2 H).trans (Eq.trans (show s_law_cut stdL.b.g stdL.c stdL.s Tryd.prog CC a0 a1 a2 H (endK Tryd.prog [.tmp 6, .tmp 7]) = s_law_cut guardK condL shareL Tryd.prog CC a0 a1 a2 H (endK Tryd.prog [.tmp 6, .tmp 7]) by kernel_rfl) h))

noncomputable def l_law_marked_0 (v5 : Value) (v6 : Value) (v7 : Value) (H : AHeap) (k : K) : Res := loopL stdL Tryd.prog hints CC limLP F.law_marked 0 [(5, v5), (6, v6), (7, v7)] H k
theorem r_law_marked_0 (v5 : Value) (v6 : Value) (v7 : Value) (H : AHeap) (k : K) : l_law_marked_0 v5 v6 v7 H k = s_law_marked_b0 guardK condL shareL Tryd.prog CC l_law_marked_0 v5 v6 v7 H (seqK (fun T H => l_law_marked_0 (get T 5) (get T 6) (get T 7) H k) k) := ((loopL_next (by kernel_rfl) rfl H k).trans (s_law_marked_b0_eq stdL CC limLP v5 v6 v7 H _)).trans (by kernel_rfl)
theorem d_law_marked (a0 : Value) (a1 : Value) (H : AHeap) {r : Value × AHeap} (h : s_law_marked guardK condL shareL Tryd.prog CC l_law_marked_0 a0 a1 H (endK Tryd.prog [.tmp 4]) = some r) : CC F.law_marked [a0, a1] H = some (tidy H r) := D_body (by kernel_rfl) ((s_law_marked_eq stdL CC limLP a0 a1 H).trans (Eq.trans (show s_law_marked stdL.b.g stdL.c stdL.s Tryd.prog CC (fun v5 v6 v7 H k => loopL stdL Tryd.prog hints CC limLP F.law_marked 0 [(5, v5), (6, v6), (7, v7)] H k) a0 a1 H (endK Tryd.prog [.tmp 4]) = s_law_marked guardK condL shareL Tryd.prog CC l_law_marked_0 a0 a1 H (endK Tryd.prog [.tmp 4]) by kernel_rfl) h))

noncomputable def l_law_unmarked_0 (v0 : Value) (v5 : Value) (v6 : Value) (v7 : Value) (H : AHeap) (k : K) : Res := loopL stdL Tryd.prog hints CC limLP F.law_unmarked 0 [(0, v0), (5, v5), (6, v6), (7, v7)] H k
noncomputable def l_law_unmarked_1 (v0 : Value) (v5 : Value) (v6 : Value) (v7 : Value) (H : AHeap) (k : K) : Res := loopL stdL Tryd.prog hints CC limLP F.law_unmarked 1 [(0, v0), (5, v5), (6, v6), (7, v7)] H k
theorem r_law_unmarked_0 (v0 : Value) (v5 : Value) (v6 : Value) (v7 : Value) (H : AHeap) (k : K) : l_law_unmarked_0 v0 v5 v6 v7 H k = s_law_unmarked_b0 guardK condL shareL Tryd.prog CC l_law_unmarked_0 l_law_unmarked_1 v0 v5 v6 v7 H (seqK (fun T H => l_law_unmarked_0 (get T 0) (get T 5) (get T 6) (get T 7) H k) k) := ((loopL_next (by kernel_rfl) rfl H k).trans (s_law_unmarked_b0_eq stdL CC limLP v0 v5 v6 v7 H _)).trans (by kernel_rfl)
theorem r_law_unmarked_1 (v0 : Value) (v5 : Value) (v6 : Value) (v7 : Value) (H : AHeap) (k : K) : l_law_unmarked_1 v0 v5 v6 v7 H k = s_law_unmarked_b1 guardK condL shareL Tryd.prog CC l_law_unmarked_0 l_law_unmarked_1 v0 v5 v6 v7 H (seqK (fun T H => l_law_unmarked_1 (get T 0) (get T 5) (get T 6) (get T 7) H k) k) := ((loopL_next (by kernel_rfl) rfl H k).trans (s_law_unmarked_b1_eq stdL CC limLP v0 v5 v6 v7 H _)).trans (by kernel_rfl)
theorem d_law_unmarked (a0 : Value) (H : AHeap) {r : Value × AHeap} (h : s_law_unmarked guardK condL shareL Tryd.prog CC l_law_unmarked_0 l_law_unmarked_1 a0 H (endK Tryd.prog [.tmp 2, .tmp 3, .tmp 4]) = some r) : CC F.law_unmarked [a0] H = some (tidy H r) := D_body (by kernel_rfl) ((s_law_unmarked_eq stdL CC limLP a0 H).trans (Eq.trans (show s_law_unmarked stdL.b.g stdL.c stdL.s Tryd.prog CC (fun v0 v5 v6 v7 H k => loopL stdL Tryd.prog hints CC limLP F.law_unmarked 0 [(0, v0), (5, v5), (6, v6), (7, v7)] H k) (fun v0 v5 v6 v7 H k => loopL stdL Tryd.prog hints CC limLP F.law_unmarked 1 [(0, v0), (5, v5), (6, v6), (7, v7)] H k) a0 H (endK Tryd.prog [.tmp 2, .tmp 3, .tmp 4]) = s_law_unmarked guardK condL shareL Tryd.prog CC l_law_unmarked_0 l_law_unmarked_1 a0 H (endK Tryd.prog [.tmp 2, .tmp 3, .tmp 4]) by kernel_rfl) h))

theorem d_law_read (a0 : Value) (a1 : Value) (a2 : Value) (a3 : Value) (H : AHeap) {r : Value × AHeap} (h : s_law_read guardK condL shareL Tryd.prog CC a0 a1 a2 a3 H (endK Tryd.prog [.tmp 8]) = some r) : CC F.law_read [a0, a1, a2, a3] H = some (tidy H r) := D_body (by kernel_rfl) ((s_law_read_eq stdL CC limLP a0 a1 a2 a3 H).trans (Eq.trans (show s_law_read stdL.b.g stdL.c stdL.s Tryd.prog CC a0 a1 a2 a3 H (endK Tryd.prog [.tmp 8]) = s_law_read guardK condL shareL Tryd.prog CC a0 a1 a2 a3 H (endK Tryd.prog [.tmp 8]) by kernel_rfl) h))

theorem d_law_next (a0 : Value) (a1 : Value) (a2 : Value) (a3 : Value) (a4 : Value) (a5 : Value) (H : AHeap) {r : Value × AHeap} (h : s_law_next guardK condL shareL Tryd.prog CC a0 a1 a2 a3 a4 a5 H (endK Tryd.prog [.tmp 12]) = some r) : CC F.law_next [a0, a1, a2, a3, a4, a5] H = some (tidy H r) := D_body (by kernel_rfl) ((s_law_next_eq stdL CC limLP a0 a1 a2 a3 a4 a5 H).trans (Eq.trans (show s_law_next stdL.b.g stdL.c stdL.s Tryd.prog CC a0 a1 a2 a3 a4 a5 H (endK Tryd.prog [.tmp 12]) = s_law_next guardK condL shareL Tryd.prog CC a0 a1 a2 a3 a4 a5 H (endK Tryd.prog [.tmp 12]) by kernel_rfl) h))

theorem d_pages_First (a0 : Value) (a1 : Value) (a2 : Value) (a3 : Value) (H : AHeap) {r : Value × AHeap} (h : s_pages_First guardK condL shareL Tryd.prog CC a0 a1 a2 a3 H (endK Tryd.prog [.tmp 8, .tmp 9, .tmp 10]) = some r) : CC F.pages_First [a0, a1, a2, a3] H = some (tidy H r) := D_body (by kernel_rfl) ((s_pages_First_eq stdL CC limLP a0 a1 a2 a3 H).trans (Eq.trans (show s_pages_First stdL.b.g stdL.c stdL.s Tryd.prog CC a0 a1 a2 a3 H (endK Tryd.prog [.tmp 8, .tmp 9, .tmp 10]) = s_pages_First guardK condL shareL Tryd.prog CC a0 a1 a2 a3 H (endK Tryd.prog [.tmp 8, .tmp 9, .tmp 10]) by kernel_rfl) h))

theorem d_model_Model_Delete (a0 : Value) (a1 : Value) (H : AHeap) {r : Value × AHeap} (h : s_model_Model_Delete guardK condL shareL Tryd.prog CC a0 a1 H (endK Tryd.prog [.tmp 4, .tmp 5]) = some r) : CC F.model_Model_Delete [a0, a1] H = some (tidy H r) := D_body (by kernel_rfl) ((s_model_Model_Delete_eq stdL CC limLP a0 a1 H).trans (Eq.trans (show s_model_Model_Delete stdL.b.g stdL.c stdL.s Tryd.prog CC a0 a1 H (endK Tryd.prog [.tmp 4, .tmp 5]) = s_model_Model_Delete guardK condL shareL Tryd.prog CC a0 a1 H (endK Tryd.prog [.tmp 4, .tmp 5]) by kernel_rfl) h))

theorem d_model_Model_Put (a0 : Value) (a1 : Value) (a2 : Value) (H : AHeap) {r : Value × AHeap} (h : s_model_Model_Put guardK condL shareL Tryd.prog CC a0 a1 a2 H (endK Tryd.prog [.tmp 6]) = some r) : CC F.model_Model_Put [a0, a1, a2] H = some (tidy H r) := D_body (by kernel_rfl) ((s_model_Model_Put_eq stdL CC limLP a0 a1 a2 H).trans (Eq.trans (show s_model_Model_Put stdL.b.g stdL.c stdL.s Tryd.prog CC a0 a1 a2 H (endK Tryd.prog [.tmp 6]) = s_model_Model_Put guardK condL shareL Tryd.prog CC a0 a1 a2 H (endK Tryd.prog [.tmp 6]) by kernel_rfl) h))

theorem d_pages_Next (a0 : Value) (a1 : Value) (a2 : Value) (H : AHeap) {r : Value × AHeap} (h : s_pages_Next guardK condL shareL Tryd.prog CC a0 a1 a2 H (endK Tryd.prog [.tmp 6, .tmp 7, .tmp 8]) = some r) : CC F.pages_Next [a0, a1, a2] H = some (tidy H r) := D_body (by kernel_rfl) ((s_pages_Next_eq stdL CC limLP a0 a1 a2 H).trans (Eq.trans (show s_pages_Next stdL.b.g stdL.c stdL.s Tryd.prog CC a0 a1 a2 H (endK Tryd.prog [.tmp 6, .tmp 7, .tmp 8]) = s_pages_Next guardK condL shareL Tryd.prog CC a0 a1 a2 H (endK Tryd.prog [.tmp 6, .tmp 7, .tmp 8]) by kernel_rfl) h))

noncomputable def l_law_same_0 (v0 : Value) (v1 : Value) (v5 : Value) (H : AHeap) (k : K) : Res := loopL stdL Tryd.prog hints CC limLP F.law_same 0 [(0, v0), (1, v1), (5, v5)] H k
theorem r_law_same_0 (v0 : Value) (v1 : Value) (v5 : Value) (H : AHeap) (k : K) : l_law_same_0 v0 v1 v5 H k = s_law_same_b0 guardK condL shareL Tryd.prog CC l_law_same_0 v0 v1 v5 H (seqK (fun T H => l_law_same_0 (get T 0) (get T 1) (get T 5) H k) k) := ((loopL_next (by kernel_rfl) rfl H k).trans (s_law_same_b0_eq stdL CC limLP v0 v1 v5 H _)).trans (by kernel_rfl)
theorem d_law_same (a0 : Value) (a1 : Value) (H : AHeap) {r : Value × AHeap} (h : s_law_same guardK condL shareL Tryd.prog CC l_law_same_0 a0 a1 H (endK Tryd.prog [.tmp 4]) = some r) : CC F.law_same [a0, a1] H = some (tidy H r) := D_body (by kernel_rfl) ((s_law_same_eq stdL CC limLP a0 a1 H).trans (Eq.trans (show s_law_same stdL.b.g stdL.c stdL.s Tryd.prog CC (fun v0 v1 v5 H k => loopL stdL Tryd.prog hints CC limLP F.law_same 0 [(0, v0), (1, v1), (5, v5)] H k) a0 a1 H (endK Tryd.prog [.tmp 4]) = s_law_same guardK condL shareL Tryd.prog CC l_law_same_0 a0 a1 H (endK Tryd.prog [.tmp 4]) by kernel_rfl) h))

noncomputable def l_model_Of_0 (v0 : Value) (v7 : Value) (v8 : Value) (v9 : Value) (H : AHeap) (k : K) : Res := loopL stdL Tryd.prog hints CC limLP F.model_Of 0 [(0, v0), (7, v7), (8, v8), (9, v9)] H k
theorem r_model_Of_0 (v0 : Value) (v7 : Value) (v8 : Value) (v9 : Value) (H : AHeap) (k : K) : l_model_Of_0 v0 v7 v8 v9 H k = s_model_Of_b0 guardK condL shareL Tryd.prog CC l_model_Of_0 v0 v7 v8 v9 H (seqK (fun T H => l_model_Of_0 (get T 0) (get T 7) (get T 8) (get T 9) H k) k) := ((loopL_next (by kernel_rfl) rfl H k).trans (s_model_Of_b0_eq stdL CC limLP v0 v7 v8 v9 H _)).trans (by kernel_rfl)
theorem d_model_Of (a0 : Value) (H : AHeap) {r : Value × AHeap} (h : s_model_Of guardK condL shareL Tryd.prog CC l_model_Of_0 a0 H (endK Tryd.prog [.tmp 2, .tmp 3]) = some r) : CC F.model_Of [a0] H = some (tidy H r) := D_body (by kernel_rfl) ((s_model_Of_eq stdL CC limLP a0 H).trans (Eq.trans (show s_model_Of stdL.b.g stdL.c stdL.s Tryd.prog CC (fun v0 v7 v8 v9 H k => loopL stdL Tryd.prog hints CC limLP F.model_Of 0 [(0, v0), (7, v7), (8, v8), (9, v9)] H k) a0 H (endK Tryd.prog [.tmp 2, .tmp 3]) = s_model_Of guardK condL shareL Tryd.prog CC l_model_Of_0 a0 H (endK Tryd.prog [.tmp 2, .tmp 3]) by kernel_rfl) h))

noncomputable def l_pages_All_0 (v0 : Value) (v3 : Value) (v10 : Value) (v11 : Value) (v13 : Value) (H : AHeap) (k : K) : Res := loopL stdL Tryd.prog hints CC limLP F.pages_All 0 [(0, v0), (3, v3), (10, v10), (11, v11), (13, v13)] H k
theorem r_pages_All_0 (v0 : Value) (v3 : Value) (v10 : Value) (v11 : Value) (v13 : Value) (H : AHeap) (k : K) : l_pages_All_0 v0 v3 v10 v11 v13 H k = s_pages_All_b0 guardK condL shareL Tryd.prog CC l_pages_All_0 v0 v3 v10 v11 v13 H (seqK (fun T H => l_pages_All_0 (get T 0) (get T 3) (get T 10) (get T 11) (get T 13) H k) k) := ((loopL_next (by kernel_rfl) rfl H k).trans (s_pages_All_b0_eq stdL CC limLP v0 v3 v10 v11 v13 H _)).trans (by kernel_rfl)
theorem d_pages_All (a0 : Value) (a1 : Value) (a2 : Value) (a3 : Value) (H : AHeap) {r : Value × AHeap} (h : s_pages_All guardK condL shareL Tryd.prog CC l_pages_All_0 a0 a1 a2 a3 H (endK Tryd.prog [.tmp 8, .tmp 9]) = some r) : CC F.pages_All [a0, a1, a2, a3] H = some (tidy H r) := D_body (by kernel_rfl) ((s_pages_All_eq stdL CC limLP a0 a1 a2 a3 H).trans (Eq.trans (show s_pages_All stdL.b.g stdL.c stdL.s Tryd.prog CC (fun v0 v3 v10 v11 v13 H k => loopL stdL Tryd.prog hints CC limLP F.pages_All 0 [(0, v0), (3, v3), (10, v10), (11, v11), (13, v13)] H k) a0 a1 a2 a3 H (endK Tryd.prog [.tmp 8, .tmp 9]) = s_pages_All guardK condL shareL Tryd.prog CC l_pages_All_0 a0 a1 a2 a3 H (endK Tryd.prog [.tmp 8, .tmp 9]) by kernel_rfl) h))

theorem d_model_Model_Pairs (a0 : Value) (H : AHeap) {r : Value × AHeap} (h : s_model_Model_Pairs guardK condL shareL Tryd.prog CC a0 H (endK Tryd.prog [.tmp 2]) = some r) : CC F.model_Model_Pairs [a0] H = some (tidy H r) := D_body (by kernel_rfl) ((s_model_Model_Pairs_eq stdL CC limLP a0 H).trans (Eq.trans (show s_model_Model_Pairs stdL.b.g stdL.c stdL.s Tryd.prog CC a0 H (endK Tryd.prog [.tmp 2]) = s_model_Model_Pairs guardK condL shareL Tryd.prog CC a0 H (endK Tryd.prog [.tmp 2]) by kernel_rfl) h))

noncomputable def l_law_hexed_0 (v0 : Value) (v3 : Value) (v4 : Value) (H : AHeap) (k : K) : Res := loopL stdL Tryd.prog hints CC limLP F.law_hexed 0 [(0, v0), (3, v3), (4, v4)] H k
noncomputable def l_law_hexed_1 (v0 : Value) (v3 : Value) (v4 : Value) (v21 : Value) (v22 : Value) (v23 : Value) (H : AHeap) (k : K) : Res := loopL stdL Tryd.prog hints CC limLP F.law_hexed 1 [(0, v0), (3, v3), (4, v4), (21, v21), (22, v22), (23, v23)] H k
theorem r_law_hexed_0 (v0 : Value) (v3 : Value) (v4 : Value) (H : AHeap) (k : K) : l_law_hexed_0 v0 v3 v4 H k = s_law_hexed_b0 guardK condL shareL Tryd.prog CC l_law_hexed_0 l_law_hexed_1 v0 v3 v4 H (seqK (fun T H => l_law_hexed_0 (get T 0) (get T 3) (get T 4) H k) k) := ((loopL_next (by kernel_rfl) rfl H k).trans (s_law_hexed_b0_eq stdL CC limLP v0 v3 v4 H _)).trans (by kernel_rfl)
theorem r_law_hexed_1 (v0 : Value) (v3 : Value) (v4 : Value) (v21 : Value) (v22 : Value) (v23 : Value) (H : AHeap) (k : K) : l_law_hexed_1 v0 v3 v4 v21 v22 v23 H k = s_law_hexed_b1 guardK condL shareL Tryd.prog CC l_law_hexed_0 l_law_hexed_1 v0 v3 v4 v21 v22 v23 H (seqK (fun T H => l_law_hexed_1 (get T 0) (get T 3) (get T 4) (get T 21) (get T 22) (get T 23) H k) k) := ((loopL_next (by kernel_rfl) rfl H k).trans (s_law_hexed_b1_eq stdL CC limLP v0 v3 v4 v21 v22 v23 H _)).trans (by kernel_rfl)
theorem d_law_hexed (a0 : Value) (H : AHeap) {r : Value × AHeap} (h : s_law_hexed guardK condL shareL Tryd.prog CC l_law_hexed_0 l_law_hexed_1 a0 H (endK Tryd.prog [.tmp 2]) = some r) : CC F.law_hexed [a0] H = some (tidy H r) := D_body (by kernel_rfl) ((s_law_hexed_eq stdL CC limLP a0 H).trans (Eq.trans (show s_law_hexed stdL.b.g stdL.c stdL.s Tryd.prog CC (fun v0 v3 v4 H k => loopL stdL Tryd.prog hints CC limLP F.law_hexed 0 [(0, v0), (3, v3), (4, v4)] H k) (fun v0 v3 v4 v21 v22 v23 H k => loopL stdL Tryd.prog hints CC limLP F.law_hexed 1 [(0, v0), (3, v3), (4, v4), (21, v21), (22, v22), (23, v23)] H k) a0 H (endK Tryd.prog [.tmp 2]) = s_law_hexed guardK condL shareL Tryd.prog CC l_law_hexed_0 l_law_hexed_1 a0 H (endK Tryd.prog [.tmp 2]) by kernel_rfl) h))

theorem d_law_digit (a0 : Value) (H : AHeap) {r : Value × AHeap} (h : s_law_digit guardK condL shareL Tryd.prog CC a0 H (endK Tryd.prog [.tmp 2]) = some r) : CC F.law_digit [a0] H = some (tidy H r) := D_body (by kernel_rfl) ((s_law_digit_eq stdL CC limLP a0 H).trans (Eq.trans (show s_law_digit stdL.b.g stdL.c stdL.s Tryd.prog CC a0 H (endK Tryd.prog [.tmp 2]) = s_law_digit guardK condL shareL Tryd.prog CC a0 H (endK Tryd.prog [.tmp 2]) by kernel_rfl) h))

theorem d_pages_Read (a0 : Value) (H : AHeap) {r : Value × AHeap} (h : s_pages_Read guardK condL shareL Tryd.prog CC a0 H (endK Tryd.prog [.tmp 2, .tmp 3, .tmp 4]) = some r) : CC F.pages_Read [a0] H = some (tidy H r) := D_body (by kernel_rfl) ((s_pages_Read_eq stdL CC limLP a0 H).trans (Eq.trans (show s_pages_Read stdL.b.g stdL.c stdL.s Tryd.prog CC a0 H (endK Tryd.prog [.tmp 2, .tmp 3, .tmp 4]) = s_pages_Read guardK condL shareL Tryd.prog CC a0 H (endK Tryd.prog [.tmp 2, .tmp 3, .tmp 4]) by kernel_rfl) h))

theorem d_pages_allowed (a0 : Value) (a1 : Value) (H : AHeap) {r : Value × AHeap} (h : s_pages_allowed guardK condL shareL Tryd.prog CC a0 a1 H (endK Tryd.prog [.tmp 4]) = some r) : CC F.pages_allowed [a0, a1] H = some (tidy H r) := D_body (by kernel_rfl) ((s_pages_allowed_eq stdL CC limLP a0 a1 H).trans (Eq.trans (show s_pages_allowed stdL.b.g stdL.c stdL.s Tryd.prog CC a0 a1 H (endK Tryd.prog [.tmp 4]) = s_pages_allowed guardK condL shareL Tryd.prog CC a0 a1 H (endK Tryd.prog [.tmp 4]) by kernel_rfl) h))

noncomputable def l_pages_page_0 (v1 : Value) (v2 : Value) (v3 : Value) (v4 : Value) (v12 : Value) (v16 : Value) (v17 : Value) (v18 : Value) (H : AHeap) (k : K) : Res := loopL stdL Tryd.prog hints CC limLP F.pages_page 0 [(1, v1), (2, v2), (3, v3), (4, v4), (12, v12), (16, v16), (17, v17), (18, v18)] H k
theorem r_pages_page_0 (v1 : Value) (v2 : Value) (v3 : Value) (v4 : Value) (v12 : Value) (v16 : Value) (v17 : Value) (v18 : Value) (H : AHeap) (k : K) : l_pages_page_0 v1 v2 v3 v4 v12 v16 v17 v18 H k = s_pages_page_b0 guardK condL shareL Tryd.prog CC l_pages_page_0 v1 v2 v3 v4 v12 v16 v17 v18 H (seqK (fun T H => l_pages_page_0 (get T 1) (get T 2) (get T 3) (get T 4) (get T 12) (get T 16) (get T 17) (get T 18) H k) k) := ((loopL_next (by kernel_rfl) rfl H k).trans (s_pages_page_b0_eq stdL CC limLP v1 v2 v3 v4 v12 v16 v17 v18 H _)).trans (by kernel_rfl)
theorem d_pages_page (a0 : Value) (a1 : Value) (a2 : Value) (a3 : Value) (a4 : Value) (H : AHeap) {r : Value × AHeap} (h : s_pages_page guardK condL shareL Tryd.prog CC l_pages_page_0 a0 a1 a2 a3 a4 H (endK Tryd.prog [.tmp 10, .tmp 11]) = some r) : CC F.pages_page [a0, a1, a2, a3, a4] H = some (tidy H r) := D_body (by kernel_rfl) ((s_pages_page_eq stdL CC limLP a0 a1 a2 a3 a4 H).trans (Eq.trans (show s_pages_page stdL.b.g stdL.c stdL.s Tryd.prog CC (fun v1 v2 v3 v4 v12 v16 v17 v18 H k => loopL stdL Tryd.prog hints CC limLP F.pages_page 0 [(1, v1), (2, v2), (3, v3), (4, v4), (12, v12), (16, v16), (17, v17), (18, v18)] H k) a0 a1 a2 a3 a4 H (endK Tryd.prog [.tmp 10, .tmp 11]) = s_pages_page guardK condL shareL Tryd.prog CC l_pages_page_0 a0 a1 a2 a3 a4 H (endK Tryd.prog [.tmp 10, .tmp 11]) by kernel_rfl) h))

theorem d_model_Model_Get (a0 : Value) (a1 : Value) (H : AHeap) {r : Value × AHeap} (h : s_model_Model_Get guardK condL shareL Tryd.prog CC a0 a1 H (endK Tryd.prog [.tmp 4, .tmp 5]) = some r) : CC F.model_Model_Get [a0, a1] H = some (tidy H r) := D_body (by kernel_rfl) ((s_model_Model_Get_eq stdL CC limLP a0 a1 H).trans (Eq.trans (show s_model_Model_Get stdL.b.g stdL.c stdL.s Tryd.prog CC a0 a1 H (endK Tryd.prog [.tmp 4, .tmp 5]) = s_model_Model_Get guardK condL shareL Tryd.prog CC a0 a1 H (endK Tryd.prog [.tmp 4, .tmp 5]) by kernel_rfl) h))

theorem d_model_Model_place (a0 : Value) (a1 : Value) (H : AHeap) {r : Value × AHeap} (h : s_model_Model_place guardK condL shareL Tryd.prog CC a0 a1 H (endK Tryd.prog [.tmp 4, .tmp 5]) = some r) : CC F.model_Model_place [a0, a1] H = some (tidy H r) := D_body (by kernel_rfl) ((s_model_Model_place_eq stdL CC limLP a0 a1 H).trans (Eq.trans (show s_model_Model_place stdL.b.g stdL.c stdL.s Tryd.prog CC a0 a1 H (endK Tryd.prog [.tmp 4, .tmp 5]) = s_model_Model_place guardK condL shareL Tryd.prog CC a0 a1 H (endK Tryd.prog [.tmp 4, .tmp 5]) by kernel_rfl) h))

theorem d_slices_Delete_Pair (a0 : Value) (a1 : Value) (a2 : Value) (H : AHeap) {r : Value × AHeap} (h : s_slices_Delete_Pair guardK condL shareL Tryd.prog CC a0 a1 a2 H (endK Tryd.prog [.tmp 6]) = some r) : CC F.slices_Delete_Pair [a0, a1, a2] H = some (tidy H r) := D_body (by kernel_rfl) ((s_slices_Delete_Pair_eq stdL CC limLP a0 a1 a2 H).trans (Eq.trans (show s_slices_Delete_Pair stdL.b.g stdL.c stdL.s Tryd.prog CC a0 a1 a2 H (endK Tryd.prog [.tmp 6]) = s_slices_Delete_Pair guardK condL shareL Tryd.prog CC a0 a1 a2 H (endK Tryd.prog [.tmp 6]) by kernel_rfl) h))

theorem d_model_Model_at (a0 : Value) (a1 : Value) (a2 : Value) (H : AHeap) {r : Value × AHeap} (h : s_model_Model_at guardK condL shareL Tryd.prog CC a0 a1 a2 H (endK Tryd.prog [.tmp 6, .tmp 7, .tmp 8]) = some r) : CC F.model_Model_at [a0, a1, a2] H = some (tidy H r) := D_body (by kernel_rfl) ((s_model_Model_at_eq stdL CC limLP a0 a1 a2 H).trans (Eq.trans (show s_model_Model_at stdL.b.g stdL.c stdL.s Tryd.prog CC a0 a1 a2 H (endK Tryd.prog [.tmp 6, .tmp 7, .tmp 8]) = s_model_Model_at guardK condL shareL Tryd.prog CC a0 a1 a2 H (endK Tryd.prog [.tmp 6, .tmp 7, .tmp 8]) by kernel_rfl) h))

theorem d_model_Model_set (a0 : Value) (a1 : Value) (a2 : Value) (a3 : Value) (H : AHeap) {r : Value × AHeap} (h : s_model_Model_set guardK condL shareL Tryd.prog CC a0 a1 a2 a3 H (endK Tryd.prog [.tmp 8]) = some r) : CC F.model_Model_set [a0, a1, a2, a3] H = some (tidy H r) := D_body (by kernel_rfl) ((s_model_Model_set_eq stdL CC limLP a0 a1 a2 a3 H).trans (Eq.trans (show s_model_Model_set stdL.b.g stdL.c stdL.s Tryd.prog CC a0 a1 a2 a3 H (endK Tryd.prog [.tmp 8]) = s_model_Model_set guardK condL shareL Tryd.prog CC a0 a1 a2 a3 H (endK Tryd.prog [.tmp 8]) by kernel_rfl) h))

theorem d_model_check (a0 : Value) (a1 : Value) (H : AHeap) {r : Value × AHeap} (h : s_model_check guardK condL shareL Tryd.prog CC a0 a1 H (endK Tryd.prog [.tmp 4]) = some r) : CC F.model_check [a0, a1] H = some (tidy H r) := D_body (by kernel_rfl) ((s_model_check_eq stdL CC limLP a0 a1 H).trans (Eq.trans (show s_model_check stdL.b.g stdL.c stdL.s Tryd.prog CC a0 a1 H (endK Tryd.prog [.tmp 4]) = s_model_check guardK condL shareL Tryd.prog CC a0 a1 H (endK Tryd.prog [.tmp 4]) by kernel_rfl) h))

theorem d_keys_Compare (a0 : Value) (a1 : Value) (H : AHeap) {r : Value × AHeap} (h : s_keys_Compare guardK condL shareL Tryd.prog CC a0 a1 H (endK Tryd.prog [.tmp 4]) = some r) : CC F.keys_Compare [a0, a1] H = some (tidy H r) := D_body (by kernel_rfl) ((s_keys_Compare_eq stdL CC limLP a0 a1 H).trans (Eq.trans (show s_keys_Compare stdL.b.g stdL.c stdL.s Tryd.prog CC a0 a1 H (endK Tryd.prog [.tmp 4]) = s_keys_Compare guardK condL shareL Tryd.prog CC a0 a1 H (endK Tryd.prog [.tmp 4]) by kernel_rfl) h))

theorem d_slices_Clone_Pair (a0 : Value) (H : AHeap) {r : Value × AHeap} (h : s_slices_Clone_Pair guardK condL shareL Tryd.prog CC a0 H (endK Tryd.prog [.tmp 2]) = some r) : CC F.slices_Clone_Pair [a0] H = some (tidy H r) := D_body (by kernel_rfl) ((s_slices_Clone_Pair_eq stdL CC limLP a0 H).trans (Eq.trans (show s_slices_Clone_Pair stdL.b.g stdL.c stdL.s Tryd.prog CC a0 H (endK Tryd.prog [.tmp 2]) = s_slices_Clone_Pair guardK condL shareL Tryd.prog CC a0 H (endK Tryd.prog [.tmp 2]) by kernel_rfl) h))

noncomputable def l_pages_bytes_0 (v0 : Value) (v3 : Value) (v4 : Value) (H : AHeap) (k : K) : Res := loopL stdL Tryd.prog hints CC limLP F.pages_bytes 0 [(0, v0), (3, v3), (4, v4)] H k
theorem r_pages_bytes_0 (v0 : Value) (v3 : Value) (v4 : Value) (H : AHeap) (k : K) : l_pages_bytes_0 v0 v3 v4 H k = s_pages_bytes_b0 guardK condL shareL Tryd.prog CC l_pages_bytes_0 v0 v3 v4 H (seqK (fun T H => l_pages_bytes_0 (get T 0) (get T 3) (get T 4) H k) k) := ((loopL_next (by kernel_rfl) rfl H k).trans (s_pages_bytes_b0_eq stdL CC limLP v0 v3 v4 H _)).trans (by kernel_rfl)
theorem d_pages_bytes (a0 : Value) (H : AHeap) {r : Value × AHeap} (h : s_pages_bytes guardK condL shareL Tryd.prog CC l_pages_bytes_0 a0 H (endK Tryd.prog [.tmp 2]) = some r) : CC F.pages_bytes [a0] H = some (tidy H r) := D_body (by kernel_rfl) ((s_pages_bytes_eq stdL CC limLP a0 H).trans (Eq.trans (show s_pages_bytes stdL.b.g stdL.c stdL.s Tryd.prog CC (fun v0 v3 v4 H k => loopL stdL Tryd.prog hints CC limLP F.pages_bytes 0 [(0, v0), (3, v3), (4, v4)] H k) a0 H (endK Tryd.prog [.tmp 2]) = s_pages_bytes guardK condL shareL Tryd.prog CC l_pages_bytes_0 a0 H (endK Tryd.prog [.tmp 2]) by kernel_rfl) h))

theorem d_keys_ValidKey (a0 : Value) (H : AHeap) {r : Value × AHeap} (h : s_keys_ValidKey guardK condL shareL Tryd.prog CC a0 H (endK Tryd.prog [.tmp 2]) = some r) : CC F.keys_ValidKey [a0] H = some (tidy H r) := D_body (by kernel_rfl) ((s_keys_ValidKey_eq stdL CC limLP a0 H).trans (Eq.trans (show s_keys_ValidKey stdL.b.g stdL.c stdL.s Tryd.prog CC a0 H (endK Tryd.prog [.tmp 2]) = s_keys_ValidKey guardK condL shareL Tryd.prog CC a0 H (endK Tryd.prog [.tmp 2]) by kernel_rfl) h))

theorem d_pages_marked (a0 : Value) (a1 : Value) (H : AHeap) {r : Value × AHeap} (h : s_pages_marked guardK condL shareL Tryd.prog CC a0 a1 H (endK Tryd.prog [.tmp 4]) = some r) : CC F.pages_marked [a0, a1] H = some (tidy H r) := D_body (by kernel_rfl) ((s_pages_marked_eq stdL CC limLP a0 a1 H).trans (Eq.trans (show s_pages_marked stdL.b.g stdL.c stdL.s Tryd.prog CC a0 a1 H (endK Tryd.prog [.tmp 4]) = s_pages_marked guardK condL shareL Tryd.prog CC a0 a1 H (endK Tryd.prog [.tmp 4]) by kernel_rfl) h))

noncomputable def l_slices_BinarySearchFunc_string_0 (v0 : Value) (v1 : Value) (v2 : Value) (v8 : Value) (v9 : Value) (v10 : Value) (H : AHeap) (k : K) : Res := loopL stdL Tryd.prog hints CC limLP F.slices_BinarySearchFunc_string 0 [(0, v0), (1, v1), (2, v2), (8, v8), (9, v9), (10, v10)] H k
theorem r_slices_BinarySearchFunc_string_0 (v0 : Value) (v1 : Value) (v2 : Value) (v8 : Value) (v9 : Value) (v10 : Value) (H : AHeap) (k : K) : l_slices_BinarySearchFunc_string_0 v0 v1 v2 v8 v9 v10 H k = s_slices_BinarySearchFunc_string_b0 guardK condL shareL Tryd.prog CC l_slices_BinarySearchFunc_string_0 v0 v1 v2 v8 v9 v10 H (seqK (fun T H => l_slices_BinarySearchFunc_string_0 (get T 0) (get T 1) (get T 2) (get T 8) (get T 9) (get T 10) H k) k) := ((loopL_next (by kernel_rfl) rfl H k).trans (s_slices_BinarySearchFunc_string_b0_eq stdL CC limLP v0 v1 v2 v8 v9 v10 H _)).trans (by kernel_rfl)
theorem d_slices_BinarySearchFunc_string (a0 : Value) (a1 : Value) (a2 : Value) (H : AHeap) {r : Value × AHeap} (h : s_slices_BinarySearchFunc_string guardK condL shareL Tryd.prog CC l_slices_BinarySearchFunc_string_0 a0 a1 a2 H (endK Tryd.prog [.tmp 6, .tmp 7]) = some r) : CC F.slices_BinarySearchFunc_string [a0, a1, a2] H = some (tidy H r) := D_body (by kernel_rfl) ((s_slices_BinarySearchFunc_string_eq stdL CC limLP a0 a1 a2 H).trans (Eq.trans (show s_slices_BinarySearchFunc_string stdL.b.g stdL.c stdL.s Tryd.prog CC (fun v0 v1 v2 v8 v9 v10 H k => loopL stdL Tryd.prog hints CC limLP F.slices_BinarySearchFunc_string 0 [(0, v0), (1, v1), (2, v2), (8, v8), (9, v9), (10, v10)] H k) a0 a1 a2 H (endK Tryd.prog [.tmp 6, .tmp 7]) = s_slices_BinarySearchFunc_string guardK condL shareL Tryd.prog CC l_slices_BinarySearchFunc_string_0 a0 a1 a2 H (endK Tryd.prog [.tmp 6, .tmp 7]) by kernel_rfl) h))

theorem d_model_Model_place_1 (a0 : Value) (a1 : Value) (H : AHeap) {r : Value × AHeap} (h : s_model_Model_place_1 guardK condL shareL Tryd.prog CC a0 a1 H (endK Tryd.prog [.tmp 4]) = some r) : CC F.model_Model_place_1 [a0, a1] H = some (tidy H r) := D_body (by kernel_rfl) ((s_model_Model_place_1_eq stdL CC limLP a0 a1 H).trans (Eq.trans (show s_model_Model_place_1 stdL.b.g stdL.c stdL.s Tryd.prog CC a0 a1 H (endK Tryd.prog [.tmp 4]) = s_model_Model_place_1 guardK condL shareL Tryd.prog CC a0 a1 H (endK Tryd.prog [.tmp 4]) by kernel_rfl) h))

theorem d_slices_ContainsFunc_string (a0 : Value) (a1 : Value) (H : AHeap) {r : Value × AHeap} (h : s_slices_ContainsFunc_string guardK condL shareL Tryd.prog CC a0 a1 H (endK Tryd.prog [.tmp 4]) = some r) : CC F.slices_ContainsFunc_string [a0, a1] H = some (tidy H r) := D_body (by kernel_rfl) ((s_slices_ContainsFunc_string_eq stdL CC limLP a0 a1 H).trans (Eq.trans (show s_slices_ContainsFunc_string stdL.b.g stdL.c stdL.s Tryd.prog CC a0 a1 H (endK Tryd.prog [.tmp 4]) = s_slices_ContainsFunc_string guardK condL shareL Tryd.prog CC a0 a1 H (endK Tryd.prog [.tmp 4]) by kernel_rfl) h))

theorem d_model_check_1 (a0 : Value) (H : AHeap) {r : Value × AHeap} (h : s_model_check_1 guardK condL shareL Tryd.prog CC a0 H (endK Tryd.prog [.tmp 2]) = some r) : CC F.model_check_1 [a0] H = some (tidy H r) := D_body (by kernel_rfl) ((s_model_check_1_eq stdL CC limLP a0 H).trans (Eq.trans (show s_model_check_1 stdL.b.g stdL.c stdL.s Tryd.prog CC a0 H (endK Tryd.prog [.tmp 2]) = s_model_check_1 guardK condL shareL Tryd.prog CC a0 H (endK Tryd.prog [.tmp 2]) by kernel_rfl) h))

theorem d_strings_Compare (a0 : Value) (a1 : Value) (H : AHeap) {r : Value × AHeap} (h : s_strings_Compare guardK condL shareL Tryd.prog CC a0 a1 H (endK Tryd.prog [.tmp 4]) = some r) : CC F.strings_Compare [a0, a1] H = some (tidy H r) := D_body (by kernel_rfl) ((s_strings_Compare_eq stdL CC limLP a0 a1 H).trans (Eq.trans (show s_strings_Compare stdL.b.g stdL.c stdL.s Tryd.prog CC a0 a1 H (endK Tryd.prog [.tmp 4]) = s_strings_Compare guardK condL shareL Tryd.prog CC a0 a1 H (endK Tryd.prog [.tmp 4]) by kernel_rfl) h))

theorem d_strconv_ParseUint (a0 : Value) (a1 : Value) (a2 : Value) (H : AHeap) {r : Value × AHeap} (h : s_strconv_ParseUint guardK condL shareL Tryd.prog CC a0 a1 a2 H (endK Tryd.prog [.tmp 6, .tmp 7]) = some r) : CC F.strconv_ParseUint [a0, a1, a2] H = some (tidy H r) := D_body (by kernel_rfl) ((s_strconv_ParseUint_eq stdL CC limLP a0 a1 a2 H).trans (Eq.trans (show s_strconv_ParseUint stdL.b.g stdL.c stdL.s Tryd.prog CC a0 a1 a2 H (endK Tryd.prog [.tmp 6, .tmp 7]) = s_strconv_ParseUint guardK condL shareL Tryd.prog CC a0 a1 a2 H (endK Tryd.prog [.tmp 6, .tmp 7]) by kernel_rfl) h))

noncomputable def l_pages_check_0 (v3 : Value) (v7 : Value) (v8 : Value) (v9 : Value) (H : AHeap) (k : K) : Res := loopL stdL Tryd.prog hints CC limLP F.pages_check 0 [(3, v3), (7, v7), (8, v8), (9, v9)] H k
theorem r_pages_check_0 (v3 : Value) (v7 : Value) (v8 : Value) (v9 : Value) (H : AHeap) (k : K) : l_pages_check_0 v3 v7 v8 v9 H k = s_pages_check_b0 guardK condL shareL Tryd.prog CC l_pages_check_0 v3 v7 v8 v9 H (seqK (fun T H => l_pages_check_0 (get T 3) (get T 7) (get T 8) (get T 9) H k) k) := ((loopL_next (by kernel_rfl) rfl H k).trans (s_pages_check_b0_eq stdL CC limLP v3 v7 v8 v9 H _)).trans (by kernel_rfl)
theorem d_pages_check (a0 : Value) (H : AHeap) {r : Value × AHeap} (h : s_pages_check guardK condL shareL Tryd.prog CC l_pages_check_0 a0 H (endK Tryd.prog [.tmp 2]) = some r) : CC F.pages_check [a0] H = some (tidy H r) := D_body (by kernel_rfl) ((s_pages_check_eq stdL CC limLP a0 H).trans (Eq.trans (show s_pages_check stdL.b.g stdL.c stdL.s Tryd.prog CC (fun v3 v7 v8 v9 H k => loopL stdL Tryd.prog hints CC limLP F.pages_check 0 [(3, v3), (7, v7), (8, v8), (9, v9)] H k) a0 H (endK Tryd.prog [.tmp 2]) = s_pages_check guardK condL shareL Tryd.prog CC l_pages_check_0 a0 H (endK Tryd.prog [.tmp 2]) by kernel_rfl) h))

noncomputable def l_slices_IndexFunc_string_0 (v0 : Value) (v1 : Value) (v7 : Value) (v8 : Value) (H : AHeap) (k : K) : Res := loopL stdL Tryd.prog hints CC limLP F.slices_IndexFunc_string 0 [(0, v0), (1, v1), (7, v7), (8, v8)] H k
theorem r_slices_IndexFunc_string_0 (v0 : Value) (v1 : Value) (v7 : Value) (v8 : Value) (H : AHeap) (k : K) : l_slices_IndexFunc_string_0 v0 v1 v7 v8 H k = s_slices_IndexFunc_string_b0 guardK condL shareL Tryd.prog CC l_slices_IndexFunc_string_0 v0 v1 v7 v8 H (seqK (fun T H => l_slices_IndexFunc_string_0 (get T 0) (get T 1) (get T 7) (get T 8) H k) k) := ((loopL_next (by kernel_rfl) rfl H k).trans (s_slices_IndexFunc_string_b0_eq stdL CC limLP v0 v1 v7 v8 H _)).trans (by kernel_rfl)
theorem d_slices_IndexFunc_string (a0 : Value) (a1 : Value) (H : AHeap) {r : Value × AHeap} (h : s_slices_IndexFunc_string guardK condL shareL Tryd.prog CC l_slices_IndexFunc_string_0 a0 a1 H (endK Tryd.prog [.tmp 4]) = some r) : CC F.slices_IndexFunc_string [a0, a1] H = some (tidy H r) := D_body (by kernel_rfl) ((s_slices_IndexFunc_string_eq stdL CC limLP a0 a1 H).trans (Eq.trans (show s_slices_IndexFunc_string stdL.b.g stdL.c stdL.s Tryd.prog CC (fun v0 v1 v7 v8 H k => loopL stdL Tryd.prog hints CC limLP F.slices_IndexFunc_string 0 [(0, v0), (1, v1), (7, v7), (8, v8)] H k) a0 a1 H (endK Tryd.prog [.tmp 4]) = s_slices_IndexFunc_string guardK condL shareL Tryd.prog CC l_slices_IndexFunc_string_0 a0 a1 H (endK Tryd.prog [.tmp 4]) by kernel_rfl) h))

theorem d_internal_bytealg_CompareString (a0 : Value) (a1 : Value) (H : AHeap) {r : Value × AHeap} (h : s_internal_bytealg_CompareString guardK condL shareL Tryd.prog CC a0 a1 H (endK Tryd.prog [.tmp 4]) = some r) : CC F.internal_bytealg_CompareString [a0, a1] H = some (tidy H r) := D_body (by kernel_rfl) ((s_internal_bytealg_CompareString_eq stdL CC limLP a0 a1 H).trans (Eq.trans (show s_internal_bytealg_CompareString stdL.b.g stdL.c stdL.s Tryd.prog CC a0 a1 H (endK Tryd.prog [.tmp 4]) = s_internal_bytealg_CompareString guardK condL shareL Tryd.prog CC a0 a1 H (endK Tryd.prog [.tmp 4]) by kernel_rfl) h))

noncomputable def l_internal_strconv_ParseUint_0 (v1 : Value) (v8 : Value) (v9 : Value) (v10 : Value) (v11 : Value) (v12 : Value) (v13 : Value) (v99 : Value) (v100 : Value) (v101 : Value) (H : AHeap) (k : K) : Res := loopL stdL Tryd.prog hints CC limLP F.internal_strconv_ParseUint 0 [(1, v1), (8, v8), (9, v9), (10, v10), (11, v11), (12, v12), (13, v13), (99, v99), (100, v100), (101, v101)] H k
theorem r_internal_strconv_ParseUint_0 (v1 : Value) (v8 : Value) (v9 : Value) (v10 : Value) (v11 : Value) (v12 : Value) (v13 : Value) (v99 : Value) (v100 : Value) (v101 : Value) (H : AHeap) (k : K) : l_internal_strconv_ParseUint_0 v1 v8 v9 v10 v11 v12 v13 v99 v100 v101 H k = s_internal_strconv_ParseUint_b0 guardK condL shareL Tryd.prog CC l_internal_strconv_ParseUint_0 v1 v8 v9 v10 v11 v12 v13 v99 v100 v101 H (seqK (fun T H => l_internal_strconv_ParseUint_0 (get T 1) (get T 8) (get T 9) (get T 10) (get T 11) (get T 12) (get T 13) (get T 99) (get T 100) (get T 101) H k) k) := ((loopL_next (by kernel_rfl) rfl H k).trans (s_internal_strconv_ParseUint_b0_eq stdL CC limLP v1 v8 v9 v10 v11 v12 v13 v99 v100 v101 H _)).trans (by kernel_rfl)
theorem d_internal_strconv_ParseUint (a0 : Value) (a1 : Value) (a2 : Value) (H : AHeap) {r : Value × AHeap} (h : s_internal_strconv_ParseUint guardK condL shareL Tryd.prog CC l_internal_strconv_ParseUint_0 a0 a1 a2 H (endK Tryd.prog [.tmp 6, .tmp 7]) = some r) : CC F.internal_strconv_ParseUint [a0, a1, a2] H = some (tidy H r) := D_body (by kernel_rfl) ((s_internal_strconv_ParseUint_eq stdL CC limLP a0 a1 a2 H).trans (Eq.trans (show s_internal_strconv_ParseUint stdL.b.g stdL.c stdL.s Tryd.prog CC (fun v1 v8 v9 v10 v11 v12 v13 v99 v100 v101 H k => loopL stdL Tryd.prog hints CC limLP F.internal_strconv_ParseUint 0 [(1, v1), (8, v8), (9, v9), (10, v10), (11, v11), (12, v12), (13, v13), (99, v99), (100, v100), (101, v101)] H k) a0 a1 a2 H (endK Tryd.prog [.tmp 6, .tmp 7]) = s_internal_strconv_ParseUint guardK condL shareL Tryd.prog CC l_internal_strconv_ParseUint_0 a0 a1 a2 H (endK Tryd.prog [.tmp 6, .tmp 7]) by kernel_rfl) h))

theorem d_internal_strconv_lower (a0 : Value) (H : AHeap) {r : Value × AHeap} (h : s_internal_strconv_lower guardK condL shareL Tryd.prog CC a0 H (endK Tryd.prog [.tmp 2]) = some r) : CC F.internal_strconv_lower [a0] H = some (tidy H r) := D_body (by kernel_rfl) ((s_internal_strconv_lower_eq stdL CC limLP a0 H).trans (Eq.trans (show s_internal_strconv_lower stdL.b.g stdL.c stdL.s Tryd.prog CC a0 H (endK Tryd.prog [.tmp 2]) = s_internal_strconv_lower guardK condL shareL Tryd.prog CC a0 H (endK Tryd.prog [.tmp 2]) by kernel_rfl) h))

end Go.Proofs.YtlkgfbcencoahaaDoor
