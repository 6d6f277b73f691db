/-
  Chapter 42: slices.Insert as a Prim; known() returns true.
  Conditions: none. By an AI agent.
-/
import Derived.Test.YtmbppjilnnjdaaaEng20
import Derived.Test.YtmbppjilnnjdaaaEng22
import Derived.Test.YtmbppjilnnjdaaaHints
import Derived.Test.YtmbppjilnnjdaaaChecked
import Derived.KernelRfl
namespace Go.Proofs.Ytmbppjilnnjdaaa
open Go Eng

theorem mixed : Try.prog.follows .mixedOrders = true := by kernel_rfl

def zIns0 : List Value := [(.string (mk [])), (.string (mk []))]
theorem insOK0 : InsOK Try.prog hints 55 33 3 54 zIns0 64 65 where
  mixed := mixed
  body := fun C n a0 a1 a2 H => by kernel_rfl
  hS := Try.underlying33
  hI := Try.underlying3
  hz := by kernel_rfl
  hsz := by kernel_rfl
  ovl := ⟨Try.f64, by kernel_rfl, by decide, by kernel_rfl, by kernel_rfl, by kernel_rfl, by kernel_rfl⟩

noncomputable def prims0 : Prims := fun f => if f = 55 then some (insP Try.prog hints 55 54 zIns0) else none

theorem prims0_ok : PrimsOK Try.prog prims0 := by
  intro f p h
  unfold prims0 at h
  split at h
  · rename_i hf
    have e := Option.some.inj h
    subst hf
    rw [← e]
    exact ins_prim insOK0
  · cases h

theorem known_run : dCall Try.prog prims0 hints 60 7 [] H0 = some (.bool true, H0) := by kernel_rfl

noncomputable def prims1 : Prims := fun f => if f = 7 then some trueP else prims0 f

theorem prims1_ok : PrimsOK Try.prog prims1 := by
  intro f p h
  unfold prims1 at h
  split at h
  · rename_i hf
    have e := Option.some.inj h
    subst hf
    rw [← e]
    exact true_prim prims0_ok mixed ⟨60, _, known_run⟩
  · exact prims0_ok f p h

/-- What a call gives. -/
noncomputable def CC : CallF := D Try.prog prims1 hints

end Go.Proofs.Ytmbppjilnnjdaaa
