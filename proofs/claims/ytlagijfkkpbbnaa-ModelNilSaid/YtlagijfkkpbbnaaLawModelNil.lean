/-
  Chapter 24: the law ModelNil: for every input it returns true, and its input reads as it did.
  Conditions: none. By an AI agent.
-/
import Derived.Test.YtlagijfkkpbbnaaRows
import Derived.Test.YtlagijfkkpbbnaaNil
import Derived.WalkKit
import Derived.ProofKit
import Derived.OpenShut
import Derived.ShutString
import Derived.ChangeOld
import Derived.Below
import Derived.SizedLaws
import Derived.ChangeArms
import Derived.Carry
namespace Go.Proofs.Ytlagijfkkpbbnaa.modelNil
open Go.ChangeShapes Go.WideShapes Go.ChangeAt Go.RowKit
open Go.ChangeMaps (open_string shut_string)
set_option linter.unusedVariables false
theorem own : ownKnob Try.prog.godebug = none := by kernel_rfl
theorem laidOut : laidOutB Try.prog = true := by kernel_rfl

theorem five {cs : Array Value} (h : cs.size = 5) : ∃ a b c d e, cs = #[a, b, c, d, e] := by
  obtain ⟨l⟩ := cs
  match l, h with
  | [a, b, c, d, e], _ => exact ⟨a, b, c, d, e, rfl⟩

set_option maxRecDepth 100000 in
theorem lifted (os : Os) (started : os.Started) (H : Type) (enc : TypeId × Value → H) :
    ReturnsInHanded {} Try.checked os 8 .any (Rows.modelNilSpec.pre6 enc Try.prog Try.f8 Rows.modelNilRow.domain false) (Rows.modelNilSpec.post enc Try.prog Try.f8 false true false false) := by
  refine returnsInHanded_of_change_sized (C := Try.checked) own started (by kernel_rfl) Try.func8
    (ChangeSpec.witness6 (enc := enc) (C := Try.checked) false ⟨#[], #[.agg #[.int .i64 0, .string ByteArray.empty, .string ByteArray.empty, .string ByteArray.empty, .int .i64 0]], []⟩ 8 (by kernel_rfl) (by kernel_rfl) (by kernel_rfl) (by kernel_rfl)) ?_
  intro W base args ds gs before hval0 hW hcnd hsz0 _
  have hval : ∀ (j : Nat) t v, Try.f8.params[j]? = some t → args[j]? = some v → Value.okWide Try.prog W .any base t v := hval0
  have hW' := hW
  obtain ⟨p, q, hA0, hV, rfl, hfz, hnd⟩ := hW
  have hA : DataW.TrodAll enc Try.prog W 0 (fun _ => true) true Try.f8.params.toList args.toList ds p := hA0
  rw [Try.params8] at hA hval
  obtain ⟨v0, vs0, d0, ds0, p0, q0, hargs, rfl, rfl, h0, r0⟩ := trodAll_cons hA
  obtain ⟨rfl, rfl, rfl⟩ := trodAll_nil r0
  obtain rfl : args = #[v0] := by cases args; simp_all
  obtain ⟨rfl, rfl⟩ := trodVars_none hV
  have k0 := h0
  have lt0 : ∀ x ∈ p0, x.block < W.heap.size := by obtain ⟨m, hm⟩ := k0; exact DataW.trod_lt m _ _ _ hm
  obtain ⟨cs, rfl, hsz⟩ := okWide_struct Try.underlying49 (hval 0 49 v0 rfl rfl)
  obtain ⟨c0, c1, c2, c3, c4, rfl⟩ := five (hsz.trans (by kernel_rfl))
  obtain ⟨m, hm⟩ := h0
  obtain ⟨xs, n, _, _, hl, hxl, hf⟩ := DataW.trod_struct Try.underlying49 hm
  have get : ∀ i, i < 5 → ∃ x, xs[i]? = some x := fun i hi => ⟨_, List.getElem?_eq_getElem (by rw [hxl]; exact hi)⟩
  obtain ⟨x0, e0⟩ := get 0 (by omega)
  obtain ⟨x1, e1⟩ := get 1 (by omega)
  obtain ⟨x2, e2⟩ := get 2 (by omega)
  obtain ⟨x3, e3⟩ := get 3 (by omega)
  obtain ⟨x4, e4⟩ := get 4 (by omega)
  obtain ⟨w, g0, _, _⟩ := DataW.trod_int Try.underlying3 ((hf 0 _ rfl).trans e0)
  obtain ⟨k, g1, _⟩ := DataW.trod_string Try.underlying9 ((hf 1 _ rfl).trans e1)
  obtain ⟨v, g2, _⟩ := DataW.trod_string Try.underlying9 ((hf 2 _ rfl).trans e2)
  obtain ⟨o, g3, _⟩ := DataW.trod_string Try.underlying9 ((hf 3 _ rfl).trans e3)
  obtain ⟨lim, g4, _, _⟩ := DataW.trod_int Try.underlying3 ((hf 4 _ rfl).trans e4)
  obtain rfl : c0 = .int .i64 w := (List.cons.inj g0).1
  obtain rfl : c1 = .string k := (List.cons.inj g1).1
  obtain rfl : c2 = .string v := (List.cons.inj g2).1
  obtain rfl : c3 = .string o := (List.cons.inj g3).1
  obtain rfl : c4 = .int .i64 lim := (List.cons.inj g4).1
  refine (Eng.law_calls0 (args := #[actV w lim k v o]) prims1_ok mixed rfl nil_run).mono fun e W' ⟨he, bel⟩ => ?_
  subst he
  exact ⟨_, rfl, _, _, _, [], _, [], hW', trodAll_mk1 (shut_bool Try.underlying4 _), (trodAll_cons_mk (Below.trod laidOut (by kernel_rfl) (of_decide_eq_true (by kernel_rfl)) k0 bel lt0) trodAll_mk0), rfl, bel.frame _, fun h => by cases h⟩

theorem over : Rows.modelNilRow.holds Try.pinned (OpenSpec.ofChange Rows.modelNilSpec) :=
  OpenClaim.holds_of_wide 8 Try.f8 rfl rfl rfl rfl rfl rfl rfl ⟨rfl, rfl, rfl, rfl, rfl⟩ rfl rfl rfl rfl rfl (by kernel_rfl) Try.func8 (by kernel_rfl)
    (of_decide_eq_true (by kernel_rfl)) (by unfold Func.isWrapper; first | (rw [if_pos (by decide +kernel)]; kernel_rfl) | (rw [if_neg (by decide +kernel)]; exact ⟨rfl, rfl⟩))
    (fun os started H enc _ => lifted os started H enc)
theorem proved : Rows.ModelNilSaid := over
#print axioms proved
end Go.Proofs.Ytlagijfkkpbbnaa.modelNil
namespace Go.Proofs.Ytlagijfkkpbbnaa
/-- The row, under a short name, for the claim. -/
theorem modelNil_holds : Rows.ModelNilSaid := modelNil.proved
end Go.Proofs.Ytlagijfkkpbbnaa
