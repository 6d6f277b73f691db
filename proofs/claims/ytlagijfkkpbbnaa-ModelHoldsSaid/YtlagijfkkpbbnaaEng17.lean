/-
  The engine, part 17: the world in which a law begins, as an abstract heap; from the engine's run of a law to the law's contract.
  Conditions: none. By an AI agent.
-/
import Derived.Test.YtlagijfkkpbbnaaEng16
import Derived.SizedLaws
import Derived.WalkKit
import Derived.ProofKit
import Derived.OpenShut
import Derived.ShutString
import Derived.ChangeOld
import Derived.Carry
namespace Go.Proofs.Ytlagijfkkpbbnaa.Eng
open Go

/-- A concrete value, read abstractly in a world of n blocks: what is not told becomes 'any value'. -/
def conv (n : Nat) : Value → Value
  | .bool b => .bool b
  | .int k m => .int k m
  | .float k m => .float k m
  | .string s => .string s
  | .pointer none => .pointer none
  | .pointer (some ⟨b, o, none⟩) => if b < n then .pointer (some ⟨b, o, none⟩) else top
  | .slice none 0 0 => .slice none 0 0
  | .slice (some ⟨b, o, none⟩) l c => if b < n ∧ l ≤ c then .slice (some ⟨b, o, none⟩) l (2 * c) else top
  | .nilFunc => .nilFunc
  | .nilIface => .nilIface
  | .map none => .map none
  | _ => top

def convA (n : Nat) : Value → Value
  | .agg cs => .agg (cs.map (conv n))
  | v => conv n v

/-- Each block stands for itself. -/
def idE (w : World) : Emb := fun b => if b < w.heap.size then some ⟨b, 0, 0, match w.heap[b]? with | some (.cells cs _ _) => cs.size | _ => 0⟩ else none

def absHeap (w : World) : AHeap := ⟨w.heap.size, 1, fun b => match w.heap[b]? with | some (.cells cs e _) => .cells (cs.toList.map (conv w.heap.size)) e false | _ => .dead, fun _ => 0⟩

theorem idE_some (w : World) {b : Nat} (h : b < w.heap.size) : ∃ L, idE w b = some L ∧ L.cb = b ∧ L.base = 0 := ⟨_, by simp [idE, h]; rfl, rfl, rfl⟩

theorem conv_rel (w : World) (v : Value) : RV (idE w) (conv w.heap.size v) v := by
  unfold conv
  split
  · exact .bool _
  · exact .int _ _
  · exact .flo _ _
  · exact .str _
  · exact .nilp
  · rename_i b o
    split
    · rename_i h
      obtain ⟨L, h1, rfl, h3⟩ := idE_some w h
      have := RV.ptr (o := o) h1
      rwa [h3, Nat.zero_add] at this
    · exact .unk _
  · exact .nils
  · rename_i b o l c
    split
    · rename_i h
      obtain ⟨L, h1, rfl, h3⟩ := idE_some w h.1
      have := RV.sle (o := o) h1 h.2
      rwa [h3, Nat.zero_add] at this
    · exact .unk _
  · exact .nilfn
  · exact .nili
  · exact .nilm
  · exact .unk _

theorem convA_rel (w : World) (v : Value) : RV (idE w) (convA w.heap.size v) v := by
  unfold convA
  split
  · rename_i cs
    refine .agg (by simp) fun i u u' h h' => ?_
    simp only [Array.getElem?_map, Option.map_eq_some_iff] at h
    obtain ⟨x, hx, rfl⟩ := h
    rw [h'] at hx
    cases hx
    exact conv_rel w u'
  · exact conv_rel w v

theorem conv_ad (n : Nat) (v : Value) : AD n (conv n v) := by
  unfold conv
  split
  · exact .bool _
  · exact .int _ _
  · exact .flo _ _
  · exact .str _
  · exact .nilp
  · split
    · exact .ptr (by assumption)
    · exact .unk
  · exact .nils
  · split
    · rename_i h; exact .sl h.1
    · exact .unk
  · exact .nilfn
  · exact .nili
  · exact .nilm
  · exact .unk

theorem convA_ad (n : Nat) (v : Value) : AD n (convA n v) := by
  unfold convA
  split
  · refine .agg fun u hu => ?_
    simp only [Array.toList_map, List.mem_map] at hu
    obtain ⟨x, _, rfl⟩ := hu
    exact conv_ad n x
  · exact conv_ad n v

theorem absHeap_rel (P : Program) (w : World) : Rel P w.heap.size (idE w) (absHeap w) w := by
  refine ⟨fun b L h => ?_, fun b L h => ?_, fun b c L M h1 h2 hne ho ha => ?_, Nat.le_refl _, fun _ => Nat.zero_lt_one⟩
  · unfold idE at h
    split at h
    · rename_i hb
      simp at h
      subst h
      simp only [absHeap]
      cases hq : w.heap[b]? with
      | none => trivial
      | some o =>
        cases o with
        | cells cs e fr =>
          refine ⟨cs, e, fr, hq, rfl, by simp, fun i v hv => ?_, fun h => by cases h⟩
          simp only [List.getElem?_map, Option.map_eq_some_iff] at hv
          obtain ⟨x, hx, rfl⟩ := hv
          exact ⟨x, by simpa using hx, conv_rel w x⟩
        | _ => trivial
    · simp at h
  · unfold idE at h
    split at h
    · rename_i hb
      simp at h
      subst h
      exact ⟨hb, hb⟩
    · simp at h
  · exfalso
    simp only [absHeap] at ho
    split at ho <;> simp [owned] at ho

theorem absHeap_cl (w : World) : Cl (absHeap w) := by
  refine ⟨fun b xs e rw h => ?_, fun b es h => ?_, fun _ => Nat.zero_lt_one⟩
  · simp only [absHeap] at h
    split at h
    · cases h
      intro v hv
      obtain ⟨x, _, rfl⟩ := List.mem_map.1 hv
      exact conv_ad _ x
    · cases h
  · simp only [absHeap] at h
    split at h <;> cases h

/-- A law that the engine runs to 'true'. -/
theorem law_calls {P : Program} {prims : Prims} {hints : Hints} (hp : PrimsOK P prims) (hm : P.follows .mixedOrders = true) {f : FuncId} {args : Array Value} {W : World}
    (h : ∃ n H', dCall P prims hints n f (args.toList.map (convA W.heap.size)) (absHeap W) = some (.bool true, H')) :
    Calls P f args W fun e W' => e = .returned (.bool true) ∧ RowKit.Below W.heap.size W W' := by
  obtain ⟨n, H', h⟩ := h
  have hrel := absHeap_rel P W
  have hargs : RVs (idE W) (args.toList.map (convA W.heap.size)) args.toList := RVs.of_get (by simp) fun i v v' hv hv' => by
    simp only [List.getElem?_map, Option.map_eq_some_iff] at hv
    obtain ⟨x, hx, rfl⟩ := hv
    rw [hv'] at hx
    cases hx
    exact convA_rel W v'
  have had : ADs (absHeap W).n (args.toList.map (convA W.heap.size)) := fun v hv => by
    obtain ⟨x, _, rfl⟩ := List.mem_map.1 hv
    exact convA_ad _ x
  have := call_sound hp hm n f _ _ _ _ h (absHeap_cl W) had _ _ W args.toList hrel hargs
  rw [Array.toArray_toList] at this
  refine this.mono ?_
  rintro e w' ⟨v', ι', rfl, hv, hr, hs⟩
  refine ⟨?_, hs.below hrel⟩
  cases hv
  rfl

/-- The empty heap. -/
def H0 : AHeap := ⟨0, 1, fun _ => .dead, fun _ => 0⟩

/-- A law whose arguments name no memory. -/
theorem law_calls0 {P : Program} {prims : Prims} {hints : Hints} (hp : PrimsOK P prims) (hm : P.follows .mixedOrders = true) {f : FuncId} {args : Array Value} {W : World} (hg : args.toList.all (gr 9) = true)
    (h : ∃ n H', dCall P prims hints n f args.toList H0 = some (.bool true, H')) :
    Calls P f args W fun e W' => e = .returned (.bool true) ∧ RowKit.Below W.heap.size W W' := by
  obtain ⟨n, H', h⟩ := h
  have hrel : Rel P W.heap.size (fun _ => none) H0 W := ⟨fun b L h => by simp at h, fun b L h => by simp at h, fun b c L M h => by simp at h, Nat.le_refl _, fun _ => Nat.zero_lt_one⟩
  have hcl : Cl H0 := ⟨fun b xs e rw h => by simp [H0] at h, fun b es h => by simp [H0] at h, fun _ => Nat.zero_lt_one⟩
  have hargs : RVs (fun _ => none) args.toList args.toList := RVs.of_get rfl fun i v v' hv hv' => by
    rw [hv] at hv'
    cases hv'
    exact gr_rel (List.all_eq_true.1 hg v (List.mem_of_getElem? hv))
  have had : ADs H0.n args.toList := fun v hv => AD.of_gr (List.all_eq_true.1 hg v hv)
  have := call_sound hp hm n f _ _ _ _ h hcl had _ _ W args.toList hrel hargs
  rw [Array.toArray_toList] at this
  refine this.mono ?_
  rintro e w' ⟨v', ι', rfl, hv, hr, hs⟩
  refine ⟨?_, hs.below hrel⟩
  cases hv
  rfl

theorem below_rel {P : Program} {B : Nat} {ι : Emb} {H : AHeap} {w w' : World} (r : Rel P B ι H w) (b : RowKit.Below w.heap.size w w') : Rel P B ι H w' ∧ Stp ι H w ι H w' := by
  have hsame : ∀ c, c < w.heap.size → w'.heap[c]? = w.heap[c]? := fun c hc => b.block c hc
  refine ⟨⟨fun c L h => (r.blk c L h).keep (hsame _ (r.lt c L h).2), fun c L h => ⟨(r.lt c L h).1, Nat.lt_of_lt_of_le (r.lt c L h).2 b.size⟩, r.inj, Nat.le_trans r.base b.size, r.ver⟩, ?_⟩
  exact ⟨fun _ _ => rfl, Nat.le_refl _, b.size, b.os, b.tape, b.output, fun c hc _ => hsame c hc, fun c L hc h => absurd (r.dom c L h) (by omega), fun _ _ _ _ h => h, VO.refl _⟩

/-- A function without arguments that returns true, taken as a whole. -/
def trueP : List Value → AHeap → Res := fun as H => match as with | [] => some (.bool true, H) | _ => none

theorem true_prim {P : Program} {prims : Prims} {hints : Hints} (hp : PrimsOK P prims) (hm : P.follows .mixedOrders = true) {f : FuncId} (h : ∃ n H', dCall P prims hints n f [] H0 = some (.bool true, H')) :
    (CallAd fun _ args H => trueP args H) ∧ CallOK P fun g args H => if g = f then trueP args H else none := by
  constructor
  · intro g args H v H' h hl _
    replace h : trueP args H = some (v, H') := h
    unfold trueP at h
    split at h
    · cases h; exact OkV.still hl (.bool _)
    · cases h
  · intro g args H v H' h2 hl had B ι w args' r ha
    by_cases hg : g = f
    · subst hg
      simp only [if_true] at h2
      unfold trueP at h2
      split at h2
      · cases h2
        cases ha
        have := law_calls0 (args := #[]) (W := w) hp hm rfl (by simpa using h)
        refine Calls.mono this ?_
        rintro e w' ⟨rfl, hb⟩
        obtain ⟨h3, h4⟩ := below_rel r hb
        exact ⟨_, ι, rfl, .bool true, h3, h4⟩
      · cases h2
    · simp [hg] at h2

end Go.Proofs.Ytlagijfkkpbbnaa.Eng
