/-
  Chapter 24: ModelNil returns true.
  Conditions: none. By an AI agent.
-/
import Derived.Test.YtlagijfkkpbbnaaKnown
import Derived.Test.YtlagijfkkpbbnaaShA
set_option maxRecDepth 100000
namespace Go.Proofs.Ytlagijfkkpbbnaa
open Go Eng

noncomputable def prims1 : Prims := fun f => if f = 9 then some trueP else prims0 f

theorem prims1_ok : PrimsOK Try.prog prims1 := by
  intro f p h
  unfold prims1 at h
  split at h
  · rename_i hf
    cases h
    subst hf
    exact true_prim prims0_ok mixed ⟨60, _, known_run⟩
  · exact prims0_ok f p h

section
variable (w lim : Int) (k v o : ByteArray)

def actL : List Value := [.int .i64 w, .string k, .string v, .string o, .int .i64 lim]
def actV : Value := .agg #[.int .i64 w, .string k, .string v, .string o, .int .i64 lim]
def nilH : AHeap := H0.push (.cells (actL w lim k v o) 49 true)

variable {w lim : Int} {k v o : ByteArray}

theorem short_step {C : CallF} {n : Nat} {b : Bool} (h : ∀ K0, s21 std Try.prog C n (actV w lim k v o) (nilH w lim k v o) K0 = K0 .ret [(2, .bool b)] ((nilH w lim k v o).push (.cells (actL w lim k v o) 49 true))) :
    (dBody Try.prog hints C n 21 [actV w lim k v o] (nilH w lim k v o)).map (tidy (nilH w lim k v o)) = some (.bool b, nilH w lim k v o) := by
  rw [← dBodyK_eq, s21_eq, h]
  rfl

theorem short_long {C : CallF} {n : Nat} (hk : ¬ (bl k).length ≤ 60) : ∀ K0, s21 std Try.prog C n (actV w lim k v o) (nilH w lim k v o) K0 = K0 .ret [(2, .bool false)] ((nilH w lim k v o).push (.cells (actL w lim k v o) 49 true)) := by
  intro K0
  unfold s21
  refine bothK_step (v := .pointer (some ⟨1, 0, none⟩)) (H' := (nilH w lim k v o).push (.cells (actL w lim k v o) 49 true)) rfl ?_
  refine bareK_step (v := .pointer (some ⟨1, 1, none⟩)) (by kernel_rfl) ?_
  refine bareK_step (v := .string k) (by kernel_rfl) ?_
  refine bareK_step (v := goInt (bl k).length) (by kernel_rfl) ?_
  refine bareK_step (v := .bool false) (by rw [goInt, xbin_leq]; simp; omega) ?_
  rfl

theorem short_start {C : CallF} {n : Nat} {K0 : K} {r : Res} (hk : (bl k).length ≤ 60)
    (h : ∀ h8 : AHeap, h8 = (nilH w lim k v o).push (.cells (actL w lim k v o) 49 true) →
      bareK (xbin Try.prog .leq 3 (.tmp 10) (.const (.int .i64 60)) (goInt (bl v).length) (.int .i64 60)) h8 (fun t11 h9 =>
        pickK (.bool true) t11 (.bool false) fun t12 =>
        std.g t12 true (fun o5 => bareK (xfieldAddr Try.prog 49 (.pointer (some ⟨1, 0, none⟩)) 3) h9 o5) h9 fun t14 h10 =>
        std.g t12 true (fun o6 => bareK (xload Try.prog 9 t14 h10) h10 o6) h10 fun t15 h11 =>
        std.g t12 true (fun o7 => bareK (xlen Try.prog [9] t15) h11 o7) h11 fun t16 h12 =>
        std.g t12 true (fun o8 => bareK (xbin Try.prog .leq 3 (.tmp 16) (.const (.int .i64 60)) t16 (.int .i64 60)) h12 o8) h12 fun t17 h13 =>
        pickK t12 t17 (.bool false) fun t18 =>
        K0 .ret [(2, t18)] h13) = r) : s21 std Try.prog C n (actV w lim k v o) (nilH w lim k v o) K0 = r := by
  unfold s21
  refine bothK_step (v := .pointer (some ⟨1, 0, none⟩)) (H' := (nilH w lim k v o).push (.cells (actL w lim k v o) 49 true)) rfl ?_
  refine bareK_step (v := .pointer (some ⟨1, 1, none⟩)) (by kernel_rfl) ?_
  refine bareK_step (v := .string k) (by kernel_rfl) ?_
  refine bareK_step (v := goInt (bl k).length) (by kernel_rfl) ?_
  refine bareK_step (v := .bool true) (by rw [goInt, xbin_leq]; simp; omega) ?_
  refine Eq.trans std_g_true ?_
  refine bareK_step (v := .pointer (some ⟨1, 2, none⟩)) (by kernel_rfl) ?_
  refine Eq.trans std_g_true ?_
  refine bareK_step (v := .string v) (by kernel_rfl) ?_
  refine Eq.trans std_g_true ?_
  refine bareK_step (v := goInt (bl v).length) (by kernel_rfl) ?_
  refine Eq.trans std_g_true ?_
  exact h _ rfl

theorem short_long2 {C : CallF} {n : Nat} (hk : (bl k).length ≤ 60) (hv : ¬ (bl v).length ≤ 60) : ∀ K0, s21 std Try.prog C n (actV w lim k v o) (nilH w lim k v o) K0 = K0 .ret [(2, .bool false)] ((nilH w lim k v o).push (.cells (actL w lim k v o) 49 true)) := by
  intro K0
  refine short_start hk fun h8 e8 => ?_
  subst e8
  refine bareK_step (v := .bool false) (by rw [goInt, xbin_leq]; simp; omega) ?_
  rfl

theorem short_end {C : CallF} {n : Nat} (hk : (bl k).length ≤ 60) (hv : (bl v).length ≤ 60) {b : Bool} (hb : decide ((bl o).length ≤ 60) = b) : ∀ K0, s21 std Try.prog C n (actV w lim k v o) (nilH w lim k v o) K0 = K0 .ret [(2, .bool b)] ((nilH w lim k v o).push (.cells (actL w lim k v o) 49 true)) := by
  intro K0
  refine short_start hk fun h8 e8 => ?_
  subst e8
  refine bareK_step (v := .bool true) (by rw [goInt, xbin_leq]; simp; omega) ?_
  refine Eq.trans pickK_true ?_
  refine Eq.trans std_g_true ?_
  refine bareK_step (v := .pointer (some ⟨1, 3, none⟩)) (by kernel_rfl) ?_
  refine Eq.trans std_g_true ?_
  refine bareK_step (v := .string o) (by kernel_rfl) ?_
  refine Eq.trans std_g_true ?_
  refine bareK_step (v := goInt (bl o).length) (by kernel_rfl) ?_
  refine Eq.trans std_g_true ?_
  refine bareK_step (v := .bool b) (by rw [goInt, xbin_leq, ← hb]; simp [decide_eq_decide]; omega) ?_
  rfl

/-- short, at any strings. -/
theorem short_any (n : Nat) : dCall Try.prog prims1 hints (n + 1) 21 [actV w lim k v o] (nilH w lim k v o) = some (.bool true, nilH w lim k v o) ∨ dCall Try.prog prims1 hints (n + 1) 21 [actV w lim k v o] (nilH w lim k v o) = some (.bool false, nilH w lim k v o) := by
  have e : dCall Try.prog prims1 hints (n + 1) 21 [actV w lim k v o] (nilH w lim k v o) = (dBody Try.prog hints (dCall Try.prog prims1 hints n) n 21 [actV w lim k v o] (nilH w lim k v o)).map (tidy (nilH w lim k v o)) := rfl
  rw [e]
  by_cases hk : (bl k).length ≤ 60
  · by_cases hv : (bl v).length ≤ 60
    · cases hb : decide ((bl o).length ≤ 60) with
      | true => exact .inl (short_step (short_end hk hv hb))
      | false => exact .inr (short_step (short_end hk hv hb))
    · exact .inr (short_step (short_long2 hk hv))
  · exact .inr (short_step (short_long hk))

theorem nil_run : ∃ n H', dCall Try.prog prims1 hints n 8 [actV w lim k v o] H0 = some (.bool true, H') := by
  refine ⟨61, ?_⟩
  have e : dCall Try.prog prims1 hints 61 8 [actV w lim k v o] H0 = (dBody Try.prog hints (dCall Try.prog prims1 hints 60) 60 8 [actV w lim k v o] H0).map (tidy H0) := rfl
  rw [e, ← dBodyK_eq, s8_eq]
  have hfst : ∀ x : Res, x.map (·.1) = some (.bool true) → ∃ H', x.map (tidy H0) = some (.bool true, H') := by
    intro x hx
    cases x with
    | none => cases hx
    | some r =>
      obtain ⟨v, H⟩ := r
      simp at hx
      subst hx
      simp only [Option.map_some, tidy]
      split
      · exact ⟨_, rfl⟩
      · exact ⟨_, rfl⟩
  refine hfst _ ?_
  unfold s8
  refine Eq.trans (congrArg (Option.map (·.1)) (bothK_step (v := .pointer (some ⟨0, 0, none⟩)) (H' := nilH w lim k v o) rfl rfl)) ?_
  refine Eq.trans (congrArg (Option.map (·.1)) (bareK_step (v := actV w lim k v o) (by kernel_rfl) rfl)) ?_
  rcases short_any (w := w) (lim := lim) (k := k) (v := v) (o := o) 59 with h | h
  · refine Eq.trans (congrArg (Option.map (·.1)) (enterK_some h)) ?_
    kernel_rfl
  · refine Eq.trans (congrArg (Option.map (·.1)) (enterK_some h)) ?_
    kernel_rfl

end
end Go.Proofs.Ytlagijfkkpbbnaa
