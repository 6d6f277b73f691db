/-
  Pairs as elements of an argument.
  Conditions: none. By an AI agent.
-/
import Derived.Test.YtlagijfkkpbbnaaM1
import Derived.Test.YtlagijfkkpbbnaaEng27
set_option maxRecDepth 10000
set_option linter.unusedSimpArgs false
set_option linter.unusedVariables false
namespace Go.Proofs.Ytlagijfkkpbbnaa
open Go Eng

theorem absHeap_ok (W : World) : ∀ b, (absHeap W).ver b < (absHeap W).clk := fun _ => Nat.zero_lt_one

theorem decPr {W : World} {H : Type} {enc : TypeId × Value → H} {cs : List Value} {n : Nat} {y : DataW H × List MemPlace} (h : DataW.trod enc Try.prog W 0 (fun _ => true) true n T.api_Pair cs = some y) (hl : cs.length = EPr.w) :
    ∃ a : Pr, cs = EPr.enc a ∧ True ∧ cs.all plain = true := by
  have ht := Try.underlying31
  obtain ⟨c0, c1, rfl⟩ : ∃ c0 c1, cs = [c0, c1] := by
    match cs, hl with
    | [c0, c1], _ => exact ⟨_, _, rfl⟩
  obtain ⟨m0, z0, h0⟩ := dec_field ht h (i := 0) rfl rfl (by kernel_rfl) rfl
  obtain ⟨m1, z1, h1⟩ := dec_field ht h (i := 1) rfl rfl (by kernel_rfl) rfl
  obtain ⟨s0, rfl, _⟩ := dec_str Try.underlying9 h0
  obtain ⟨s1, rfl, _⟩ := dec_str Try.underlying9 h1
  exact ⟨⟨s0, s1⟩, rfl, trivial, rfl⟩

end Go.Proofs.Ytlagijfkkpbbnaa
