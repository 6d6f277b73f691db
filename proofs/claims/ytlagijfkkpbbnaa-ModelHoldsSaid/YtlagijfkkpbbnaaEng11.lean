/-
  The engine, part 11: operations that turn no memory look at one block, and make one.
  Conditions: none. By an AI agent.
-/
import Derived.Test.YtlagijfkkpbbnaaEng10
namespace Go.Proofs.Ytlagijfkkpbbnaa.Eng
open Go

variable {P : Program} {H H' G : AHeap}

/-- A value that names a new block. -/
def Fresh (f : Nat → Value) : Prop := (f = fun n => .pointer (some ⟨n, 0, none⟩)) ∨ ∃ l c, f = fun n => .slice (some ⟨n, 0, none⟩) l c

/-- The same on another heap. -/
def Alike (H G : AHeap) (v : Value) (H' : AHeap) (r : Option (Value × AHeap)) : Prop :=
  (H' = H ∧ r = some (v, G)) ∨ ∃ k f, Fresh f ∧ H' = H.push k ∧ v = f H.n ∧ r = some (f G.n, G.push k)

def AlikeN (H G : AHeap) (v : Value) (H' : AHeap) (r : Option DNext) : Prop :=
  (H' = H ∧ r = some (.val v G)) ∨ ∃ k f, Fresh f ∧ H' = H.push k ∧ v = f H.n ∧ r = some (.val (f G.n) (G.push k))

theorem Alike.both {v : Value} {r : Option (Value × AHeap)} (h : Alike H G v H' r) : AlikeN H G v H' (Eng.both r) := by
  rcases h with ⟨h1, h2⟩ | ⟨k, f, h1, h2, h3, h4⟩
  · exact .inl ⟨h1, by rw [h2]; rfl⟩
  · exact .inr ⟨k, f, h1, h2, h3, by rw [h4]; rfl⟩

theorem both_val {r : Option (Value × AHeap)} {v : Value} (h : both r = some (.val v H')) : r = some (v, H') := by
  unfold both at h
  cases r with
  | none => simp at h
  | some p => simp at h; cases p; simp_all

theorem bare_val {r : Option Value} {v : Value} (h : bare r H = some (.val v H')) : r = some v ∧ H' = H := by
  unfold bare at h
  cases r with
  | none => simp at h
  | some p => simp at h; exact ⟨by rw [h.1], h.2.symm⟩

theorem AlikeN.bare {v : Value} {r s : Option Value} (h : bare r H = some (.val v H')) (he : r = some v → s = some v) : AlikeN H G v H' (bare s G) := by
  obtain ⟨h1, h2⟩ := bare_val h
  exact .inl ⟨h2, by rw [he h1]; rfl⟩

theorem newv_alike {t : TypeId} {x v : Value} (h : newv t x H = some (v, H')) : Alike H G v H' (newv t x G) := by
  unfold newv at h ⊢
  cases hf : flat x with
  | none => simp [hf] at h
  | some l =>
    simp [hf] at h
    exact .inr ⟨_, _, .inl rfl, h.2.symm, h.1.symm, rfl⟩

theorem xload_alike {t : TypeId} {a v : Value} (hg : ∀ k, blockOf a = some k → G.f k = H.f k) (h : xload P t a H = some v) : xload P t a G = some v := by
  rw [← h]
  unfold xload
  split
  · unfold ldN
    split
    · rename_i b o
      simp [cut, hg b rfl]
    · rfl
  · unfold ld1
    split
    · rename_i b o
      simp [hg b rfl]
    · rfl
  · rfl

theorem xslice_alike {t : TypeId} {x v : Value} {lo hi mx : Option Value} (hg : ∀ k, blockOf x = some k → G.f k = H.f k) (h : xslice P t x lo hi mx H = some v) : xslice P t x lo hi mx G = some v := by
  rw [← h]
  unfold xslice
  split
  · congr 1
    funext sz
    unfold slS
    split
    · rename_i b o len code
      rw [hg b rfl]
    · rfl
    · rfl
  · rfl
  · rfl
  · rfl

theorem xconv_alike {s d : TypeId} {x v : Value} (hg : ∀ k, blockOf x = some k → G.f k = H.f k) (h : xconv P s d x H = some (v, H')) : Alike H G v H' (xconv P s d x G) := by
  unfold xconv at h ⊢
  split at h
  · split at h
    · split at h
      · simp at h
        exact .inr ⟨_, _, .inr ⟨_, _, rfl⟩, h.2.symm, h.1.symm, by simp_all⟩
      · simp at h
    · simp at h
  · rename_i b o n _ _ _
    split at h
    · split at h
      · simp at h; obtain ⟨rfl, rfl⟩ := h
        exact .inl ⟨rfl, by simp_all⟩
      · rename_i hn
        simp only [Option.bind_eq_some_iff, Option.map_eq_some_iff] at h
        obtain ⟨l, h1, s, h2, h3⟩ := h
        cases h3
        refine .inl ⟨rfl, ?_⟩
        have hc : cut G b o n = some l := by rw [← h1]; simp [cut, hg b rfl]
        simp_all
    · simp at h
  · rename_i h1 h2
    split at h
    · simp only [Option.map_eq_some_iff] at h
      obtain ⟨u, h3, h4⟩ := h
      cases h4
      exact .inl ⟨rfl, by simp_all⟩
    · simp at h

theorem xbuildSlice_alike {t : TypeId} {len : Nat} {parts : List (Nat × Value)} {v : Value} (h : xbuildSlice P t len parts H = some (v, H')) : Alike H G v H' (xbuildSlice P t len parts G) := by
  unfold xbuildSlice at h ⊢
  split at h
  · rename_i e he
    simp only [Option.bind_eq_some_iff] at h
    obtain ⟨z, hz, h⟩ := h
    split at h
    · rename_i hl
      unfold bldL at h
      simp only [Option.map_eq_some_iff] at h
      obtain ⟨cs, h1, h2⟩ := h
      cases h2
      exact .inr ⟨_, _, .inr ⟨_, _, rfl⟩, rfl, rfl, by simp [hz, hl, bldL, h1]⟩
    · simp at h
  · simp at h

theorem xmakeSlice_alike {t : TypeId} {l c v : Value} (h : xmakeSlice P t l c H = some (v, H')) : Alike H G v H' (xmakeSlice P t l c G) := by
  unfold xmakeSlice at h ⊢
  split at h
  · rename_i e he
    simp only [Option.bind_eq_some_iff] at h
    obtain ⟨z, hz, h⟩ := h
    unfold mkS at h
    split at h
    · split at h
      · rename_i hl
        simp at h
        exact .inr ⟨_, _, .inr ⟨_, _, rfl⟩, h.2.symm, h.1.symm, by simp [hz, mkS, hl]⟩
      · simp at h
    · simp at h
  · simp at h

theorem xbuiltin_alike {b : Builtin} {ts : List TypeId} {args : List Value} {v : Value} (hb : b = .len ∨ b = .min ∨ b = .max) (h : xbuiltin P b ts args H = some (.val v H')) : AlikeN H G v H' (xbuiltin P b ts args G) := by
  rcases hb with rfl | rfl | rfl <;> unfold xbuiltin at h ⊢ <;> split at h <;> simp_all <;> first
    | exact AlikeN.bare h id
    | exact AlikeN.bare h.2 id
    | exact .inl ⟨by simp_all, rfl⟩

theorem dOp_alike {ρ : Operand → Value} {o : Op} {v : Value} (he : isEff o = false) (hg : ∀ k, rdBlk ρ o = some k → G.f k = H.f k) (h : dOp P ρ o H = some (.val v H')) : AlikeN H G v H' (dOp P ρ o G) := by
  cases o with
  | move x => simp [dOp] at h; exact .inl ⟨h.2.symm, by simp [dOp, h.1]⟩
  | assign x => simp [dOp] at h; exact .inl ⟨h.2.symm, by simp [dOp, h.1]⟩
  | pick c a b =>
    simp only [dOp] at h ⊢
    split at h
    · simp at h; exact .inl ⟨h.2.symm, by simp_all⟩
    · simp at h
  | alloc t =>
    simp only [dOp] at h ⊢
    refine Alike.both ?_
    have h := both_val h
    unfold xalloc at h ⊢
    simp only [Option.bind_eq_some_iff] at h
    obtain ⟨z, hz, h⟩ := h
    rw [hz]
    exact newv_alike h
  | box t x => exact Alike.both (newv_alike (both_val h))
  | build t parts => exact AlikeN.bare h id
  | buildSlice t len parts => exact Alike.both (xbuildSlice_alike (both_val h))
  | load t a => exact AlikeN.bare h (xload_alike fun k hk => hg k (by simpa [rdBlk] using hk))
  | nilCheck x => exact AlikeN.bare h id
  | binOp op t x y g => exact AlikeN.bare h id
  | unOp op t x => exact AlikeN.bare h id
  | convert src dst x => exact Alike.both (xconv_alike (fun k hk => hg k (by simpa [rdBlk] using hk)) (both_val h))
  | makeInterface t x =>
    simp only [dOp] at h ⊢
    split at h
    · simp at h
    · simp at h
    · simp at h
      exact .inl ⟨h.2.symm, by simp [h.1]⟩
  | makeFunc f x c =>
    cases f <;> simp [dOp] at h
    exact .inl ⟨h.2.symm, by simp [dOp, h.1]⟩
  | makeSlice t l c => exact Alike.both (xmakeSlice_alike (both_val h))
  | slice t x lo hi mx => exact AlikeN.bare h (xslice_alike fun k hk => hg k (by simpa [rdBlk] using hk))
  | fieldAddr t x f => exact AlikeN.bare h id
  | field t x f => exact AlikeN.bare h id
  | indexAddr t x i => exact AlikeN.bare h id
  | index t x i => exact AlikeN.bare h id
  | extract x i => exact AlikeN.bare h id
  | call c =>
    simp only [dOp, isEff] at h he ⊢
    cases hc : c.callee with
    | builtin b =>
      simp only [hc] at h he ⊢
      exact xbuiltin_alike (by cases b <;> simp at he <;> simp) h
    | value f => simp [hc] at he
    | invoke a b => simp [hc] at he
  | _ => simp [isEff] at he

theorem dOp_pure {ρ : Operand → Value} {o : Op} {f : FuncId} {args : List Value} (he : isEff o = false) (h : dOp P ρ o H = some (.enter f args)) : False := by
  have hb : ∀ r : Option Value, bare r H ≠ some (.enter f args) := fun r => by cases r <;> simp [bare]
  have hc : ∀ r : Option (Value × AHeap), both r ≠ some (.enter f args) := fun r => by cases r <;> simp [both]
  unfold dOp at h
  split at h
  all_goals first
    | (simp at h; done)
    | exact hb _ h
    | exact hc _ h
    | (split at h <;> simp at h; done)
    | (unfold isEff at he; simp at he; done)
    | skip
  · rename_i c
    cases hq : c.callee with
    | builtin b =>
      simp only [isEff, hq] at h he
      unfold xbuiltin at h
      split at h
      all_goals first
        | exact hb _ h
        | exact hc _ h
        | (simp at h; done)
        | (split at h <;> first | exact hb _ h | simp at h)
    | value f => simp [isEff, hq] at he
    | invoke a b => simp [isEff, hq] at he

theorem step_alike {N : Nat} {call : CallF} {ops : Array Oper} {o : Oper} {T : Env} {v : Value} (he : isEff o.op = false)
    (hg : goes ops o T ≠ some false → ∀ k, rdBlk (ev T) o.op = some k → G.f k = H.f k) (h : dStep P N call ops o T H = some (v, H')) : Alike H G v H' (dStep P N call ops o T G) := by
  unfold dStep at h ⊢
  split at h
  · rename_i hd
    rw [if_pos hd]
    split at h
    · rename_i hgo
      split at h
      · rename_i v0 H0 hop
        simp at h
        obtain ⟨rfl, rfl⟩ := h
        rcases dOp_alike (G := G) he (hg (by simp [hgo])) hop with ⟨h1, h2⟩ | ⟨k, f, h1, h2, h3, h4⟩
        · exact .inl ⟨h1, by rw [h2]⟩
        · exact .inr ⟨k, f, h1, h2, h3, by rw [h4]⟩
      · rename_i f args hop
        exact (dOp_pure he hop).elim
      · simp at h
    · rename_i hgo
      simp at h
      exact .inl ⟨h.2.symm, by simp [h.1]⟩
    · simp at h
  · simp at h

end Go.Proofs.Ytlagijfkkpbbnaa.Eng
