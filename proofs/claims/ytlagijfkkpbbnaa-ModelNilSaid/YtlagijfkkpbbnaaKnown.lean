/-
  Chapter 24: slices.Insert as a Prim; known() returns true.
  Conditions: none. By an AI agent.
-/
import Derived.Test.YtlagijfkkpbbnaaEng20
import Derived.Test.YtlagijfkkpbbnaaHints
import Derived.Test.YtlagijfkkpbbnaaChecked
import Derived.KernelRfl
namespace Go.Proofs.Ytlagijfkkpbbnaa
open Go Eng

def zPair : List Value := [.string (mk []), .string (mk [])]

theorem mixed : Try.prog.follows .mixedOrders = true := by kernel_rfl

theorem insOK : InsOK Try.prog hints 52 22 3 31 zPair 60 61 where
  mixed := mixed
  body := fun C n a0 a1 a2 H => by kernel_rfl
  hS := Try.underlying22
  hI := Try.underlying3
  hz := by kernel_rfl
  hsz := by kernel_rfl
  ovl := ⟨Try.f60, by kernel_rfl, by decide, by kernel_rfl, by kernel_rfl, by kernel_rfl, by kernel_rfl⟩

noncomputable def prims0 : Prims := fun f => if f = 52 then some (insP Try.prog hints 52 31 zPair) else none

theorem prims0_ok : PrimsOK Try.prog prims0 := by
  intro f p h
  unfold prims0 at h
  split at h
  · rename_i hf
    cases h
    subst hf
    exact ins_prim insOK
  · cases h

theorem known_run : dCall Try.prog prims0 hints 60 9 [] H0 = some (.bool true, H0) := by kernel_rfl

end Go.Proofs.Ytlagijfkkpbbnaa
