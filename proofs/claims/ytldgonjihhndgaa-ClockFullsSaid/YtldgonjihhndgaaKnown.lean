/-
  Chapter 02: slices.Insert as a Prim; known() returns true.
  Conditions: none. By an AI agent.
-/
import Derived.Test.YtldgonjihhndgaaEng20
import Derived.Test.YtldgonjihhndgaaEng22
import Derived.Test.YtldgonjihhndgaaHints
import Derived.Test.YtldgonjihhndgaaChecked
import Derived.KernelRfl
namespace Go.Proofs.Ytldgonjihhndgaa
open Go Eng

def zAlarm : List Value := [.int .i64 0, .int .i64 0]

theorem mixed : Try.prog.follows .mixedOrders = true := by kernel_rfl

theorem insOK : InsOK Try.prog hints 31 51 3 62 zAlarm 43 44 where
  mixed := mixed
  body := fun C n a0 a1 a2 H => by kernel_rfl
  hS := Try.underlying51
  hI := Try.underlying3
  hz := by kernel_rfl
  hsz := by kernel_rfl
  ovl := ⟨Try.f43, by kernel_rfl, by decide, by kernel_rfl, by kernel_rfl, by kernel_rfl, by kernel_rfl⟩

noncomputable def prims0 : Prims := fun f => if f = 31 then some (insP Try.prog hints 31 62 zAlarm) else none

theorem prims0_ok : PrimsOK Try.prog prims0 := by
  intro f p h
  unfold prims0 at h
  split at h
  · rename_i hf
    cases h
    subst hf
    exact ins_prim insOK
  · cases h

theorem known_run : dCall Try.prog prims0 hints 60 11 [] H0 = some (.bool true, H0) := by kernel_rfl

noncomputable def prims1 : Prims := fun f => if f = 11 then some trueP else prims0 f

theorem prims1_ok : PrimsOK Try.prog prims1 := by
  intro f p h
  unfold prims1 at h
  split at h
  · rename_i hf
    cases h
    subst hf
    exact true_prim prims0_ok mixed ⟨60, _, known_run⟩
  · exact prims0_ok f p h

/-- What a call gives. -/
noncomputable def CC : CallF := D Try.prog prims1 hints

end Go.Proofs.Ytldgonjihhndgaa
