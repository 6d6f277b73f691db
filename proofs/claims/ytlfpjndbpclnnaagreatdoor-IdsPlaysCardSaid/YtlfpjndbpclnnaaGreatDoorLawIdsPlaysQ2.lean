/-
  20 texts in one (merge.py): Hb Hc Hd He Hf Hg Hh Hi Hj Hk Hl Hm Ho Hq Hr ShIdsPlays DsIdsPlays Hs Ht Hu.
  Conditions: none. By an AI agent.
-/
import Derived.Test.YtlfpjndbpclnnaaGreatDoorLawIdsPlaysQ1
import Derived.Test.YtlfpjndbpclnnaaGreatDoorChecked
import Derived.KernelRfl

/-
  Chapter 47: a giver beside its map: Give.
  Conditions: none. By an AI agent.
-/
set_option maxRecDepth 10000
set_option linter.unusedSimpArgs false
set_option linter.unusedVariables false
namespace Go.Proofs.YtlfpjndbpclnnaaGreatDoor
open Go Eng

structure GS (H0 H : AHeap) (bm gb mb : Nat) (M : List Pr) (size : Int) (E : Be) : Prop where
  fr : Fresh H0 H bm M
  gv : Gv H gb mb size E
  og : ¬ MB H bm gb
  om : ¬ MB H bm mb
  ng : H0.n ≤ gb
  nm : H0.n ≤ mb
structure UpG (H : AHeap) (bm mb : Nat) (H' : AHeap) : Prop where
  fr : Fr (fun b => MB H bm b ∨ b = mb) H H'
  mb : ∀ c, MB H' bm c → MB H bm c ∨ H.n ≤ c
section
variable {H0 H H' H1 H2 : AHeap} {bm gb mb : Nat} {M M' : List Pr} {size : Int} {E E' : Be}
theorem UpG.refl (H : AHeap) (bm mb : Nat) : UpG H bm mb H := ⟨Fr.refl H, fun _ h => .inl h⟩
theorem GS.still (g : GS H0 H bm gb mb M size E) (s : Still H H') : GS H0 H' bm gb mb M size E :=
  ⟨g.fr.to s, g.gv.still s, fun h => g.og (MBT_still g.fr.mdl s h), fun h => g.om (MBT_still g.fr.mdl s h), g.ng, g.nm⟩
/-- The map turns. -/
theorem GS.map (g : GS H0 H bm gb mb M size E) (f' : Fresh H0 H' bm M') (u : Up H bm H') : GS H0 H' bm gb mb M' size E :=
  ⟨f', g.gv.keep u.fr g.og g.om, fun h => by rcases u.mb _ h with h | h; exact g.og h; have := g.gv.gn; omega, fun h => by rcases u.mb _ h with h | h; exact g.om h; have := g.gv.mn; omega, g.ng, g.nm⟩
/-- The giver turns. -/
theorem GS.giv (g : GS H0 H bm gb mb M size E) (g' : Gv H' gb mb size E') (f : Fr (fun b => b = mb) H H') : GS H0 H' bm gb mb M size E' := by
  have hS : ∀ c, MB H bm c → ¬ c = mb := fun c hc h => g.om (h ▸ hc)
  exact ⟨g.fr.by f hS fun b hb h => by have := g.nm; omega, g', fun h => g.og ((mb_same g.fr.mdl f hS).2 _ h), fun h => g.om ((mb_same g.fr.mdl f hS).2 _ h), g.ng, g.nm⟩
theorem UpG.of_still (g : GS H0 H bm gb mb M size E) (s : Still H H') : UpG H bm mb H' := ⟨s.still, fun c hc => .inl (MBT_still g.fr.mdl s hc)⟩
theorem UpG.of_up (u : Up H bm H') : UpG H bm mb H' := ⟨u.fr.mono fun _ _ h => .inl h, u.mb⟩
theorem UpG.of_giv (g : GS H0 H bm gb mb M size E) (f : Fr (fun b => b = mb) H H') : UpG H bm mb H' :=
  ⟨f.mono fun _ _ h => .inr h, fun c hc => .inl ((mb_same g.fr.mdl f fun c hc h => g.om (h ▸ hc)).2 c hc)⟩
theorem UpG.trans (u : UpG H bm mb H1) (v : UpG H1 bm mb H2) : UpG H bm mb H2 :=
  ⟨u.fr.then v.fr fun b hb h => by
    rcases h with h | h
    · rcases u.mb b h with h | h
      · exact .inl h
      · omega
    · exact .inr h, fun c hc => by
    rcases v.mb c hc with h | h
    · exact u.mb c h
    · exact .inr (Nat.le_trans u.fr.n h)⟩
/-- A new block turns. -/
theorem GS.new {S : Nat → Prop} (g : GS H0 H bm gb mb M size E) (f : Fr S H H') (hS : ∀ b, S b → ¬ MB H bm b ∧ b ≠ gb ∧ b ≠ mb ∧ H0.n ≤ b) : GS H0 H' bm gb mb M size E := by
  have h1 : ∀ c, MB H bm c → ¬ S c := fun c hc h => (hS c h).1 hc
  exact ⟨g.fr.by f h1 fun b hb h => by have := (hS b h).2.2.2; omega, g.gv.keep f (fun h => (hS _ h).2.1 rfl) fun h => (hS _ h).2.2.1 rfl, fun h => g.og ((mb_same g.fr.mdl f h1).2 _ h), fun h => g.om ((mb_same g.fr.mdl f h1).2 _ h), g.ng, g.nm⟩
theorem UpG.new {S : Nat → Prop} (u : UpG H bm mb H1) (g1 : GS H0 H1 bm gb mb M size E) (f : Fr S H1 H2) (hS : ∀ b, S b → H.n ≤ b ∧ ¬ MB H1 bm b) : UpG H bm mb H2 :=
  ⟨u.fr.then f fun b hb h => by have := (hS b h).1; omega, fun c hc => u.mb c ((mb_same g1.fr.mdl f fun c hc h => (hS c h).2 hc).2 c hc)⟩
theorem GS.tidy {v : Value} (g : GS H0 H bm gb mb M size E) (g' : GS H0 H' bm gb mb M' size E') (u : UpG H bm mb H') :
    ∃ H2, Eng.tidy H (v, H') = (v, H2) ∧ GS H0 H2 bm gb mb M' size E' ∧ UpG H bm mb H2 := by
  unfold Eng.tidy
  split
  · rename_i hg
    simp only [Bool.and_eq_true] at hg
    have hsame : ∀ b, b < H.n → H'.f b = H.f b := fun b hb => by
      rcases u.fr.old b hb with h | ⟨h, _⟩
      · exact h.2
      · have h1 := List.all_eq_true.1 hg.2 b (by simpa using hb)
        have h2 := g.fr.ok b
        have h3 : H'.ver b = H.ver b := by simpa using h1
        omega
    refine ⟨H, rfl, ⟨⟨g.fr.still, g.fr.ok, ?_, g.fr.new, g'.fr.srt, g'.fr.len, g'.fr.vok⟩, ⟨g.gv.f, by rw [← hsame mb g.gv.mn]; exact g'.gv.m, g.gv.gn, g.gv.mn, g.gv.ne, g.gv.sz⟩, g.og, g.om, g.ng, g.nm⟩, UpG.refl H bm mb⟩
    obtain ⟨v0, k1, k2, k3, k4⟩ := g.fr.mdl
    obtain ⟨v1, h1, h2, h3, h4⟩ := g'.fr.mdl
    rw [hsame bm k2, k1] at h1
    cases h1
    exact ⟨v0, k1, k2, Own.back h3 (fun b hb => k3.blk hb) hsame, k4⟩
  · exact ⟨H', rfl, g', u⟩
end

/-- The blocks of a giver are within bounds. -/
def EOk (E : Be) : Prop := ∀ s, 0 ≤ (atB E s).1 ∧ 0 ≤ (atB E s).2 ∧ (atB E s).1 + (atB E s).2 ≤ 1099511627776
def gvR (M : List Pr) (E : Be) (s : ByteArray) (size : Int) : (Int × Int) × List Pr × Be :=
  if (nxt M s).2 ≠ 0 then ((0, (nxt M s).2), M, E) else if (atB E s).2 = 0 then (if (tk M s size).2.1 ≠ 0 then ((0, (tk M s size).2.1), M, E) else (((tk M s size).1.1, 0), (tk M s size).2.2, setB E s ((tk M s size).1.1 + 1, (tk M s size).1.2 - 1)))
  else (((atB E s).1, 0), M, setB E s ((atB E s).1 + 1, (atB E s).2 - 1))
theorem tk_bound (M : List Pr) (s : ByteArray) (n : Int) : 0 ≤ (tk M s n).1.1 ∧ 0 ≤ (tk M s n).1.2 ∧ (tk M s n).1.1 + (tk M s n).1.2 ≤ 1099511627776 ∧ ((tk M s n).2.1 ≠ 0 → (tk M s n).2.2 = M) := by
  obtain ⟨h0, h1⟩ := nxt_bound M s
  have z : (0 : Int) ≤ 0 ∧ (0 : Int) ≤ 0 ∧ (0 : Int) + 0 ≤ 1099511627776 := by decide
  unfold tk
  split
  · exact ⟨z.1, z.2.1, z.2.2, fun _ => rfl⟩
  · split
    · exact ⟨z.1, z.2.1, z.2.2, fun _ => rfl⟩
    · split
      · exact ⟨z.1, z.2.1, z.2.2, fun _ => rfl⟩
      · rename_i g1 _ g2
        exact ⟨h0, show 0 ≤ n by omega, show (nxt M s).1 + n ≤ 1099511627776 by omega, fun h => absurd rfl h⟩

set_option maxHeartbeats 2000000 in
theorem q_Give {H0 H : AHeap} {bm gb mb : Nat} {M : List Pr} {size : Int} {E : Be} (g : GS H0 H bm gb mb M size E) (hE : EOk E) (hM : M.length < 20000) (s : ByteArray) :
    ∃ H', CC F.ids_Giver_Give [.pointer (some ⟨gb, 0, none⟩), .pointer (some ⟨bm, 0, none⟩), .string s] H = some (.tuple #[.int .i64 (gvR M E s size).1.1, .int .i64 (gvR M E s size).1.2], H') ∧
      GS H0 H' bm gb mb (gvR M E s size).2.1 size (gvR M E s size).2.2 ∧ UpG H bm mb H' := by
  have m1 := q_none_no g.gv
  have m2 := q_Next bm M s H g.fr.ok g.fr.mdl g.fr.srt g.fr.len g.fr.vok
  have f := g.gv.f
  have lk := lookB g.gv.m s
  obtain ⟨b0, b1, b2⟩ := hE s
  unfold nxtV at m2
  unfold gvR
  generalize atB E s = a at lk b0 b1 b2 ⊢
  obtain ⟨x, y⟩ := a
  simp only at lk b0 b1 b2 ⊢
  by_cases he : (nxt M s).2 = 0
  · rw [if_neg (by simpa using he)]
    rw [he] at m2
    generalize (nxt M s).1 = nx at m2
    obtain ⟨H1, hH1⟩ : ∃ H1, H.push (.cells [.int .i64 0, .int .i64 0] T.api_Block true) = H1 := ⟨_, rfl⟩
    obtain ⟨s1, n1, f1⟩ := newBlk 0 0 hH1
    obtain ⟨H2, hH2⟩ : ∃ H2, H1.set H.n (.cells [.int .i64 x, .int .i64 y] T.api_Block true) = H2 := ⟨_, rfl⟩
    have s2 : Still H H2 := by rw [← hH2]; exact Fr.set s1 _ _ fun h => by omega
    have n2 : H2.n = H1.n := by rw [← hH2]; rfl
    have f2 : H2.f H.n = .cells [.int .i64 x, .int .i64 y] T.api_Block true := by rw [← hH2]; exact set_f_eq
    have g2 := g.still s2
    have u2 : UpG H bm mb H2 := UpG.of_still g s2
    have ff2 := g2.gv.f
    have hgn := g.gv.gn
    have hmn := g.gv.mn
    by_cases hy : y = 0
    · subst hy
      rw [if_pos rfl]
      obtain ⟨H3, m3, fr3, u3⟩ := q_Take bm M s size H2 g2.fr hM
      obtain ⟨t0, t1, t2, t3⟩ := tk_bound M s size
      unfold tkV at m3
      generalize tk M s size = t at m3 fr3 t0 t1 t2 t3 ⊢
      obtain ⟨⟨fm, nn⟩, er, M'⟩ := t
      simp only at m3 fr3 t0 t1 t2 t3 ⊢
      have g3 := g2.map fr3 u3
      have u3' := u2.trans (UpG.of_up (mb := mb) u3)
      have nmb : ¬ MB H2 bm H.n := fun h => by have := g.fr.mdl.blk (MBT_still g.fr.mdl s2 h); omega
      have nmb3 : ¬ MB H3 bm H.n := fun h => by
        rcases u3.mb _ h with h | h
        · exact nmb h
        · omega
      have f3 : H3.f H.n = .cells [.int .i64 x, .int .i64 0] T.api_Block true := by rw [u3.fr.f (by omega) nmb]; exact f2
      obtain ⟨H4, hH4⟩ : ∃ H4, H3.set H.n (.cells [.int .i64 fm, .int .i64 nn] T.api_Block true) = H4 := ⟨_, rfl⟩
      have f4 : H4.f H.n = .cells [.int .i64 fm, .int .i64 nn] T.api_Block true := by rw [← hH4]; exact set_f_eq
      have fs : Fr (fun b => b = H.n) H3 H4 := by rw [← hH4]; exact Fr.set (Fr.refl H3) _ _ fun _ => rfl
      have h0n := g.fr.still.n
      have g4 := g3.new fs fun b hb => by subst hb; exact ⟨nmb3, by omega, by omega, h0n⟩
      have u4 := u3'.new g3 fs fun b hb => by subst hb; exact ⟨Nat.le_refl _, nmb3⟩
      by_cases her : er = 0
      · subst her
        rw [if_neg (by simp)]
        obtain ⟨H5, m5, gv5, fr5, _⟩ := q_gset g4.fr.ok g4.gv s (fm + 1, nn - 1)
        have g5 := g4.giv gv5 fr5
        have u5 := u4.trans (UpG.of_giv g4 fr5)
        have f5 : H5.f H.n = .cells [.int .i64 fm, .int .i64 nn] T.api_Block true := by
          rw [fr5.f (by have := fs.n; have := u3.fr.n; omega) (by omega)]; exact f4
        obtain ⟨H6, k1, k2, k3⟩ := g.tidy (v := .tuple #[.int .i64 fm, .int .i64 0]) g5 u5
        refine ⟨H6, (d_ids_Giver_Give _ _ _ H (r := (.tuple #[.int .i64 fm, .int .i64 0], H5)) ?_).trans (congrArg some k1), k2, k3⟩
        simp (disch := first | with_reducible rfl | assumption | omega | rfl | (simp only [go_sem]; first | done | omega)) only [go_sem, ↓reduceIte, reduceCtorEq, Nat.reduceEqDiff, Nat.reduceAdd, Nat.reduceSub, Nat.reduceMul, Nat.reduceDiv, Nat.reduceMod, Nat.reduceLeDiff, Nat.reduceLT, Nat.reduceBEq, Int.reduceEq, Int.reduceBEq, Int.reduceBNe, Int.reduceLT, Int.reduceLE, Int.reduceAdd, Int.reduceSub, Int.reduceNeg, Int.reduceToNat, Int.reducePow, Nat.reducePow, Int.reduceMul, Int.reduceDiv, ↓s_ids_Giver_Give, ↓enterK_eq m1, enterK_eq m1, ↓enterK_eq m2, enterK_eq m2, f, lk, hH1, f1, hH2, f2, ff2, ↓enterK_eq m3, enterK_eq m3, f3, hH4, f4, ↓enterK_eq m5, enterK_eq m5, f5]
      · rw [if_pos her]
        rw [t3 her] at g4
        obtain ⟨H6, k1, k2, k3⟩ := g.tidy (v := .tuple #[.int .i64 0, .int .i64 er]) g4 u4
        refine ⟨H6, (d_ids_Giver_Give _ _ _ H (r := (.tuple #[.int .i64 0, .int .i64 er], H4)) ?_).trans (congrArg some k1), k2, k3⟩
        simp (disch := first | with_reducible rfl | assumption | omega | rfl | (simp only [go_sem]; first | done | omega)) only [go_sem, ↓reduceIte, reduceCtorEq, Nat.reduceEqDiff, Nat.reduceAdd, Nat.reduceSub, Nat.reduceMul, Nat.reduceDiv, Nat.reduceMod, Nat.reduceLeDiff, Nat.reduceLT, Nat.reduceBEq, Int.reduceEq, Int.reduceBEq, Int.reduceBNe, Int.reduceLT, Int.reduceLE, Int.reduceAdd, Int.reduceSub, Int.reduceNeg, Int.reduceToNat, Int.reducePow, Nat.reducePow, Int.reduceMul, Int.reduceDiv, ↓s_ids_Giver_Give, ↓enterK_eq m1, enterK_eq m1, ↓enterK_eq m2, enterK_eq m2, f, lk, hH1, f1, hH2, f2, ff2, ↓enterK_eq m3, enterK_eq m3, f3, hH4, f4, her]
    · rw [if_neg hy]
      obtain ⟨H5, m5, gv5, fr5, _⟩ := q_gset g2.fr.ok g2.gv s (x + 1, y - 1)
      have g5 := g2.giv gv5 fr5
      have u5 := u2.trans (UpG.of_giv g2 fr5)
      have f5 : H5.f H.n = .cells [.int .i64 x, .int .i64 y] T.api_Block true := by
        rw [fr5.f (by omega) (by omega)]; exact f2
      obtain ⟨H6, k1, k2, k3⟩ := g.tidy (v := .tuple #[.int .i64 x, .int .i64 0]) g5 u5
      refine ⟨H6, (d_ids_Giver_Give _ _ _ H (r := (.tuple #[.int .i64 x, .int .i64 0], H5)) ?_).trans (congrArg some k1), k2, k3⟩
      simp (disch := first | with_reducible rfl | assumption | omega | rfl | (simp only [go_sem]; first | done | omega)) only [go_sem, ↓reduceIte, reduceCtorEq, Nat.reduceEqDiff, Nat.reduceAdd, Nat.reduceSub, Nat.reduceMul, Nat.reduceDiv, Nat.reduceMod, Nat.reduceLeDiff, Nat.reduceLT, Nat.reduceBEq, Int.reduceEq, Int.reduceBEq, Int.reduceBNe, Int.reduceLT, Int.reduceLE, Int.reduceAdd, Int.reduceSub, Int.reduceNeg, Int.reduceToNat, Int.reducePow, Nat.reducePow, Int.reduceMul, Int.reduceDiv, ↓s_ids_Giver_Give, ↓enterK_eq m1, enterK_eq m1, ↓enterK_eq m2, enterK_eq m2, f, lk, hH1, f1, hH2, f2, hy, ↓enterK_eq m5, enterK_eq m5, f5]
  · rw [if_pos he]
    refine ⟨H, ?_, g, UpG.refl H bm mb⟩
    apply pure_of _ (d_ids_Giver_Give _ _ _ H) rfl
    rotate_left 2
    · simp (disch := first | with_reducible rfl | assumption | omega | rfl | (simp only [go_sem]; first | done | omega)) only [go_sem, ↓reduceIte, reduceCtorEq, Nat.reduceEqDiff, Nat.reduceAdd, Nat.reduceSub, Nat.reduceMul, Nat.reduceDiv, Nat.reduceMod, Nat.reduceLeDiff, Nat.reduceLT, Nat.reduceBEq, Int.reduceEq, Int.reduceBEq, Int.reduceBNe, Int.reduceLT, Int.reduceLE, Int.reduceAdd, Int.reduceSub, Int.reduceNeg, Int.reduceToNat, Int.reducePow, Nat.reducePow, Int.reduceMul, Int.reduceDiv, ↓s_ids_Giver_Give, ↓enterK_eq m1, enterK_eq m1, ↓enterK_eq m2, enterK_eq m2, he]
      rfl
    · (repeat (first | exact Fr.refl _ | refine Fr.push ?_ _ | refine Fr.set ?_ _ _ (by intro h; first | omega | (simp only [go_sem] at h; omega))))
theorem q_Give0 {H : AHeap} {gb mb : Nat} {size : Int} {E : Be} (g : Gv H gb mb size E) (s : ByteArray) : CC F.ids_Giver_Give [.pointer (some ⟨gb, 0, none⟩), .pointer none, .string s] H = some (.tuple #[.int .i64 0, .int .i64 1], H) := by
  have m1 := q_none_no g
  have m2 := q_Next0 s H
  apply pure_of _ (d_ids_Giver_Give _ _ _ H) rfl
  rotate_left 2
  · simp (disch := first | with_reducible rfl | assumption | omega | rfl | (simp only [go_sem]; first | done | omega)) only [go_sem, ↓reduceIte, reduceCtorEq, Nat.reduceEqDiff, Nat.reduceAdd, Nat.reduceSub, Nat.reduceMul, Nat.reduceDiv, Nat.reduceMod, Nat.reduceLeDiff, Nat.reduceLT, Nat.reduceBEq, Int.reduceEq, Int.reduceBEq, Int.reduceBNe, Int.reduceLT, Int.reduceLE, Int.reduceAdd, Int.reduceSub, Int.reduceNeg, Int.reduceToNat, Int.reducePow, Nat.reducePow, Int.reduceMul, Int.reduceDiv, ↓s_ids_Giver_Give, ↓enterK_eq m1, enterK_eq m1, ↓enterK_eq m2, enterK_eq m2]
    rfl
  · (repeat (first | exact Fr.refl _ | refine Fr.push ?_ _ | refine Fr.set ?_ _ _ (by intro h; first | omega | (simp only [go_sem] at h; omega))))

end Go.Proofs.YtlfpjndbpclnnaaGreatDoor

/-
  Chapter 47: a giver beside its map: Return.
  Conditions: none. By an AI agent.
-/
set_option maxRecDepth 10000
set_option linter.unusedSimpArgs false
set_option linter.unusedVariables false
namespace Go.Proofs.YtlfpjndbpclnnaaGreatDoor
open Go Eng

/-! ### the sorted keys -/
def KeysOk (E : Be) : Prop := ∀ p ∈ E, (bl p.1).length ≤ 24
def keyL (E : Be) : List (List UInt8) := E.map fun p => bl p.1
theorem strs_ents : ∀ {E : Be}, KeysOk E → strs (entsB E) = some (keyL E)
  | [], _ => rfl
  | p :: E, h => by
    have h1 := h p (by simp)
    have h2 := strs_ents (E := E) fun q hq => h q (by simp [hq])
    have h3 : keyStr (.string p.1) = some (bl p.1) := by
      unfold keyStr
      simp only
      rw [if_pos (by rw [sz_bl]; omega)]
      rfl
    show (keyStr (.string p.1)).bind (fun s => (strs (entsB E)).map (s :: ·)) = _
    rw [h3, h2]
    rfl
def sortedK (E : Be) : List ByteArray := (sortS (keyL E)).map mk
theorem sortS_len : ∀ l, (sortS l).length = l.length := fun l => (sortS_perm l).length_eq

theorem d_Keys (mb : Nat) (H : AHeap) : CC F.maps_Keys_Block [.map (some mb)] H = some (.func (.func F.maps_Keys_Block_1) #[] #[.pointer (some ⟨H.n, 0, none⟩)], H.push (.cells [.map (some mb)] T.map_string_api_Block false)) :=
  D_prim (show prims1 F.maps_Keys_Block = some keysV by kernel_rfl) rfl
theorem q_Sorted {H : AHeap} {b mb : Nat} {E : Be} (hb : H.f b = .cells [.map (some mb)] T.map_string_api_Block false) (hm : H.f mb = .map (entsB E)) (hk : KeysOk E) (hl : E.length ≤ 1000000) :
    ∃ v H', CC F.slices_Sorted_string [.func (.func F.maps_Keys_Block_1) #[] #[.pointer (some ⟨b, 0, none⟩)]] H = some (v, H') ∧ Rd EStr H' v (sortedK E) ∧ Still H H' := by
  have he : (entsB E).length ≤ 1000000 := by unfold entsB; simpa using hl
  have hs : sortedV [.func (.func F.maps_Keys_Block_1) #[] #[.pointer (some ⟨b, 0, none⟩)]] H = (if (keyL E).isEmpty then some (.slice none 0 0, H) else some (.slice (some ⟨H.n, 0, none⟩) (keyL E).length (2 * (keyL E).length + 1), H.push (.cells ((sortS (keyL E)).map fun s => .string ⟨s.toArray⟩) 9 true))) := by
    unfold sortedV
    show (match H.f b with | .cells xs _ _ => _ | _ => _) = _
    rw [hb]
    show (match H.f mb with | .map es => _ | _ => _) = _
    rw [hm]
    simp only [strs_ents hk]
    rw [if_pos he]
  cases hE : (keyL E).isEmpty with
  | true =>
    rw [hE, if_pos rfl] at hs
    have h0 : sortedK E = [] := by
      unfold sortedK
      rw [List.isEmpty_iff.1 hE]; rfl
    exact ⟨_, H, D_prim (show prims1 F.slices_Sorted_string = some sortedV by kernel_rfl) hs, by rw [h0]; exact .inl ⟨rfl, rfl⟩, Fr.refl H⟩
  | false =>
    rw [hE, if_neg (by decide)] at hs
    obtain ⟨H1, hH1⟩ : ∃ H1, H.push (.cells ((sortS (keyL E)).map fun s => Value.string ⟨s.toArray⟩) 9 true) = H1 := ⟨_, rfl⟩
    rw [hH1] at hs
    have s1 : Still H H1 := by rw [← hH1]; exact (Fr.refl H).push _
    have n1 : H1.n = H.n + 1 := by rw [← hH1]; rfl
    have f1 : H1.f H.n = .cells ((sortS (keyL E)).map fun s => Value.string ⟨s.toArray⟩) 9 true := by rw [← hH1]; exact push_f_eq rfl
    have hc : EStr.cells (sortedK E) = (sortS (keyL E)).map fun s => Value.string ⟨s.toArray⟩ := by
      unfold sortedK Enc.cells
      rw [List.flatMap_map]
      generalize sortS (keyL E) = l
      induction l with
      | nil => rfl
      | cons a l ih => rw [List.flatMap_cons, ih]; rfl
    have hlen : (sortedK E).length = (keyL E).length := by unfold sortedK; rw [List.length_map, sortS_len]
    refine ⟨_, H1, D_prim (show prims1 F.slices_Sorted_string = some sortedV by kernel_rfl) hs, ?_, s1⟩
    rw [← hlen]
    refine .inr (.inr ⟨H.n, 0, 2 * (sortedK E).length + 1, rfl, ?_, by omega, ?_⟩)
    · intro h
      rw [h] at hlen
      rw [List.isEmpty_eq_false_iff] at hE
      exact hE (List.length_eq_zero_iff.1 hlen.symm)
    · rw [f1, ← hc]
      rw [cutB_c (by rw [Nat.zero_add, Enc.cells_len]; exact Nat.le_refl _), List.drop_zero, List.take_of_length_le (by rw [Enc.cells_len]; exact Nat.le_refl _)]

end Go.Proofs.YtlfpjndbpclnnaaGreatDoor

/-
  Chapter 47: a giver beside its map: Return, its loops.
  Conditions: none. By an AI agent.
-/
set_option maxRecDepth 10000
set_option linter.unusedSimpArgs false
set_option linter.unusedVariables false
namespace Go.Proofs.YtlfpjndbpclnnaaGreatDoor
open Go Eng

/-- The names that Return returns, or the error. -/
def rets (M : List Pr) (E : Be) : List ByteArray → List ByteArray → Int × List ByteArray
  | [], acc => (0, acc)
  | s :: t, acc => if (nxt M s).2 ≠ 0 then ((nxt M s).2, []) else rets M E t (if (atB E s).1 + (atB E s).2 = (nxt M s).1 then acc ++ [s] else acc)
/-- What is left then. -/
def backM : List ByteArray → List Pr → Be → List Pr × Be
  | [], M, E => (M, E)
  | s :: t, M, E => backM t (putE M ⟨s, mk (itoaS (atB E s).1)⟩).2 (Eng.delE E s)
theorem atB_del (E : Be) (k s : ByteArray) : atB (Eng.delE E k) s = if k = s then (0, 0) else atB E s := by
  unfold atB
  rw [lkp_del]
  split
  · rfl
  · rfl
theorem atB_put (E : Be) (k s : ByteArray) (a : Int × Int) : atB (Eng.putE E k a) s = if k = s then a else atB E s := by
  unfold atB
  rw [lkp_put]
  split
  · rfl
  · rfl
theorem EOk.del {E : Be} (h : EOk E) (k : ByteArray) : EOk (Eng.delE E k) := fun s => by
  rw [atB_del]
  split
  · exact ⟨Int.le_refl _, Int.le_refl _, show (0 : Int) + 0 ≤ 1099511627776 by decide⟩
  · exact h s

theorem rd_str {H : AHeap} {v : Value} {l : List ByteArray} (hr : Rd EStr H v l) {i : Nat} (hi : i < l.length) : ∃ b o, ixS 1 v (.int .i64 (i : Int)) = some (.pointer (some ⟨b, o, none⟩)) ∧ cellB (H.f b) o = some (.string l[i]) := by
  obtain ⟨b, o, ix, _, hc, _⟩ := hr.ix (q := .i64) hi
  exact ⟨b, o, ix, cutB_cell hc (i := 0) (by decide)⟩
theorem strLit (s : ByteArray) (H : AHeap) : Rd EStr (H.push (.cells [.string s] T.string true)) (.slice (some ⟨H.n, 0, none⟩) 1 2) [s] :=
  .inr (.inr ⟨H.n, 0, 2, rfl, by simp, Nat.lt_succ_self _, by rw [push_f_eq rfl]; rfl⟩)

set_option maxHeartbeats 1000000 in
theorem l_ret0 {H0 Hz : AHeap} {bm gb mb : Nat} {M : List Pr} {size : Int} {E : Be} (g : GS H0 Hz bm gb mb M size E) (hE : EOk E) (v25 : Value) (ks : List ByteArray) (hr : Rd EStr Hz v25 ks) (hks : ks.length ≤ 1000000) : ∀ (t : List ByteArray) (i : Nat) (H : AHeap) (out : Value) (acc : List ByteArray), ks.drop i = t → Still Hz H → Own EStr H T.string out acc → (∀ d, blockOf out = some d → Hz.n ≤ d) → acc.length ≤ i → i ≤ ks.length →
    ((rets M E t acc).1 ≠ 0 → ∃ H', Still Hz H' ∧ ∀ K : K, l_ids_Giver_Return_0 (.pointer (some ⟨gb, 0, none⟩)) (.pointer (some ⟨bm, 0, none⟩)) out v25 (.int .i64 (ks.length : Int)) (.int .i64 (i : Int)) H (blkK [0, 1, 6] 0 K) = K .ret [(4, .int .i64 0), (5, .int .i64 (rets M E t acc).1)] H') ∧
    ((rets M E t acc).1 = 0 → ∃ out' H', Still Hz H' ∧ Own EStr H' T.string out' (rets M E t acc).2 ∧ (∀ d, blockOf out' = some d → Hz.n ≤ d) ∧ (rets M E t acc).2.length ≤ ks.length ∧ ∀ K : K, l_ids_Giver_Return_0 (.pointer (some ⟨gb, 0, none⟩)) (.pointer (some ⟨bm, 0, none⟩)) out v25 (.int .i64 (ks.length : Int)) (.int .i64 (i : Int)) H (blkK [0, 1, 6] 0 K) = K .normal [(0, .pointer (some ⟨gb, 0, none⟩)), (1, .pointer (some ⟨bm, 0, none⟩)), (6, out')] H')
  | [], i, H, out, acc, hx, st, ho, hob, ha, hik => by
    have h : ks.length ≤ i := List.drop_eq_nil_iff.1 hx
    have hlt : ¬ (i : Int) < (ks.length : Int) := by omega
    refine ⟨fun h => absurd rfl h, fun _ => ⟨out, H, st, ho, hob, ?_, fun K => ?_⟩⟩
    · show acc.length ≤ ks.length; omega
    · rw [r_ids_Giver_Return_0]
      simp (disch := first | with_reducible rfl | assumption | omega | rfl | (simp only [go_sem]; first | done | omega)) only [go_sem, ↓reduceIte, reduceCtorEq, Nat.reduceEqDiff, Nat.reduceAdd, Nat.reduceSub, Nat.reduceMul, Nat.reduceDiv, Nat.reduceMod, Nat.reduceLeDiff, Nat.reduceLT, Nat.reduceBEq, Int.reduceEq, Int.reduceBEq, Int.reduceBNe, Int.reduceLT, Int.reduceLE, Int.reduceAdd, Int.reduceSub, Int.reduceNeg, Int.reduceToNat, Int.reducePow, Nat.reducePow, Int.reduceMul, Int.reduceDiv, ↓s_ids_Giver_Return_b0, hlt]
  | s :: t, i, H, out, acc, hx, st, ho, hob, ha, hik => by
    obtain ⟨hi, hxa, hx'⟩ := drop_cons hx
    have hlt : (i : Int) < (ks.length : Int) := by omega
    obtain ⟨b1, o1, ix, c0⟩ := rd_str (hr.still st) hi
    rw [hxa] at c0
    have g1 := g.still st
    have m2 := q_Next bm M s H g1.fr.ok g1.fr.mdl g1.fr.srt g1.fr.len g1.fr.vok
    have f := g1.gv.f
    have lk := lookB g1.gv.m s
    obtain ⟨e0, e1, e2⟩ := hE s
    unfold nxtV at m2
    rw [rets]
    by_cases he : (nxt M s).2 = 0
    · rw [if_neg (by simpa using he)]
      rw [he] at m2
      obtain ⟨H1, hH1⟩ : ∃ H1, H.push (.cells [.int .i64 0, .int .i64 0] T.api_Block true) = H1 := ⟨_, rfl⟩
      obtain ⟨s1, n1, f1⟩ := newBlk 0 0 hH1
      generalize (nxt M s).1 = nx at m2 ⊢
      generalize hxy : atB E s = a at lk e0 e1 e2 ⊢
      obtain ⟨x, y⟩ := a
      simp only at lk e0 e1 e2 ⊢
      obtain ⟨H2, hH2⟩ : ∃ H2, H1.set H.n (.cells [.int .i64 x, .int .i64 y] T.api_Block true) = H2 := ⟨_, rfl⟩
      have s2 : Still H H2 := by rw [← hH2]; exact Fr.set s1 _ _ fun h => by omega
      have f2 : H2.f H.n = .cells [.int .i64 x, .int .i64 y] T.api_Block true := by rw [← hH2]; exact set_f_eq
      have st2 : Still Hz H2 := st.then s2 fun _ _ h => h
      have hzn := st.n
      by_cases hq : x + y = nx
      · rw [if_pos hq]
        obtain ⟨H3, hH3⟩ : ∃ H3, H2.push (.cells [.string s] T.string true) = H3 := ⟨_, rfl⟩
        have s3 : Still H2 H3 := by rw [← hH3]; exact (Fr.refl H2).push _
        have hlit := strLit s H2
        rw [hH3] at hlit
        obtain ⟨out1, H4, ap, o4, fr4, bk4⟩ := ((ho.still s2).still s3).appA [s] (sz := 1) (bytes := 16) rfl (by simp; omega) (by simp; omega) (hlit.src (sz := 1) rfl)
        have st4 : Still Hz H4 := (st2.then s3 fun _ _ h => h).still.then fr4 fun d hd h => by have := hob d h; omega
        have n23 := s3.n
        have n12 := s2.n
        have hob4 : ∀ d, blockOf out1 = some d → Hz.n ≤ d := fun d hd => by
          rcases bk4 with h | h
          · rw [h] at hd; exact hob d hd
          · rw [h] at hd; cases hd; omega
        obtain ⟨k1, k2⟩ := l_ret0 g hE v25 ks hr hks t (i + 1) H4 out1 (acc ++ [s]) hx' st4 o4 hob4 (by simp; omega) (by omega)
        rw [Int.natCast_add] at k1 k2
        refine ⟨fun h => ?_, fun h => ?_⟩
        · obtain ⟨H', q1, ih⟩ := k1 h
          refine ⟨H', q1, fun K => ?_⟩
          rw [← ih K, r_ids_Giver_Return_0]
          simp (disch := first | with_reducible rfl | assumption | omega | rfl | (simp only [go_sem]; first | done | omega)) only [go_sem, ↓reduceIte, reduceCtorEq, Nat.reduceEqDiff, Nat.reduceAdd, Nat.reduceSub, Nat.reduceMul, Nat.reduceDiv, Nat.reduceMod, Nat.reduceLeDiff, Nat.reduceLT, Nat.reduceBEq, Int.reduceEq, Int.reduceBEq, Int.reduceBNe, Int.reduceLT, Int.reduceLE, Int.reduceAdd, Int.reduceSub, Int.reduceNeg, Int.reduceToNat, Int.reducePow, Nat.reducePow, Int.reduceMul, Int.reduceDiv, ↓s_ids_Giver_Return_b0, hlt, ix, c0, ↓enterK_eq m2, enterK_eq m2, f, lk, hH1, f1, hH2, f2, hq, hH3, ap]
        · obtain ⟨out', H', q1, q2, q3, q4, ih⟩ := k2 h
          refine ⟨out', H', q1, q2, q3, q4, fun K => ?_⟩
          rw [← ih K, r_ids_Giver_Return_0]
          simp (disch := first | with_reducible rfl | assumption | omega | rfl | (simp only [go_sem]; first | done | omega)) only [go_sem, ↓reduceIte, reduceCtorEq, Nat.reduceEqDiff, Nat.reduceAdd, Nat.reduceSub, Nat.reduceMul, Nat.reduceDiv, Nat.reduceMod, Nat.reduceLeDiff, Nat.reduceLT, Nat.reduceBEq, Int.reduceEq, Int.reduceBEq, Int.reduceBNe, Int.reduceLT, Int.reduceLE, Int.reduceAdd, Int.reduceSub, Int.reduceNeg, Int.reduceToNat, Int.reducePow, Nat.reducePow, Int.reduceMul, Int.reduceDiv, ↓s_ids_Giver_Return_b0, hlt, ix, c0, ↓enterK_eq m2, enterK_eq m2, f, lk, hH1, f1, hH2, f2, hq, hH3, ap]
      · rw [if_neg hq]
        obtain ⟨k1, k2⟩ := l_ret0 g hE v25 ks hr hks t (i + 1) H2 out acc hx' st2 (ho.still s2) hob (by omega) (by omega)
        rw [Int.natCast_add] at k1 k2
        refine ⟨fun h => ?_, fun h => ?_⟩
        · obtain ⟨H', q1, ih⟩ := k1 h
          refine ⟨H', q1, fun K => ?_⟩
          rw [← ih K, r_ids_Giver_Return_0]
          simp (disch := first | with_reducible rfl | assumption | omega | rfl | (simp only [go_sem]; first | done | omega)) only [go_sem, ↓reduceIte, reduceCtorEq, Nat.reduceEqDiff, Nat.reduceAdd, Nat.reduceSub, Nat.reduceMul, Nat.reduceDiv, Nat.reduceMod, Nat.reduceLeDiff, Nat.reduceLT, Nat.reduceBEq, Int.reduceEq, Int.reduceBEq, Int.reduceBNe, Int.reduceLT, Int.reduceLE, Int.reduceAdd, Int.reduceSub, Int.reduceNeg, Int.reduceToNat, Int.reducePow, Nat.reducePow, Int.reduceMul, Int.reduceDiv, ↓s_ids_Giver_Return_b0, hlt, ix, c0, ↓enterK_eq m2, enterK_eq m2, f, lk, hH1, f1, hH2, f2, hq]
        · obtain ⟨out', H', q1, q2, q3, q4, ih⟩ := k2 h
          refine ⟨out', H', q1, q2, q3, q4, fun K => ?_⟩
          rw [← ih K, r_ids_Giver_Return_0]
          simp (disch := first | with_reducible rfl | assumption | omega | rfl | (simp only [go_sem]; first | done | omega)) only [go_sem, ↓reduceIte, reduceCtorEq, Nat.reduceEqDiff, Nat.reduceAdd, Nat.reduceSub, Nat.reduceMul, Nat.reduceDiv, Nat.reduceMod, Nat.reduceLeDiff, Nat.reduceLT, Nat.reduceBEq, Int.reduceEq, Int.reduceBEq, Int.reduceBNe, Int.reduceLT, Int.reduceLE, Int.reduceAdd, Int.reduceSub, Int.reduceNeg, Int.reduceToNat, Int.reducePow, Nat.reducePow, Int.reduceMul, Int.reduceDiv, ↓s_ids_Giver_Return_b0, hlt, ix, c0, ↓enterK_eq m2, enterK_eq m2, f, lk, hH1, f1, hH2, f2, hq]
    · rw [if_pos he]
      refine ⟨fun _ => ⟨H, st, fun K => ?_⟩, fun h => absurd h he⟩
      rw [r_ids_Giver_Return_0]
      simp (disch := first | with_reducible rfl | assumption | omega | rfl | (simp only [go_sem]; first | done | omega)) only [go_sem, ↓reduceIte, reduceCtorEq, Nat.reduceEqDiff, Nat.reduceAdd, Nat.reduceSub, Nat.reduceMul, Nat.reduceDiv, Nat.reduceMod, Nat.reduceLeDiff, Nat.reduceLT, Nat.reduceBEq, Int.reduceEq, Int.reduceBEq, Int.reduceBNe, Int.reduceLT, Int.reduceLE, Int.reduceAdd, Int.reduceSub, Int.reduceNeg, Int.reduceToNat, Int.reducePow, Nat.reducePow, Int.reduceMul, Int.reduceDiv, ↓s_ids_Giver_Return_b0, hlt, ix, c0, ↓enterK_eq m2, enterK_eq m2, he]

set_option maxHeartbeats 1000000 in
theorem l_ret1 {H0 Hz : AHeap} {bm gb mb : Nat} {size : Int} (v : Value) (ns : List ByteArray) (hr : Rd EStr Hz v ns) (hns : ns.length ≤ 1000000) (hoff : ∀ b, blockOf v = some b → ¬ MB Hz bm b ∧ b ≠ mb) : ∀ (t : List ByteArray) (i : Nat) (H : AHeap) (M : List Pr) (E : Be), ns.drop i = t → GS H0 H bm gb mb M size E → EOk E → UpG Hz bm mb H →
    ∃ H', GS H0 H' bm gb mb (backM t M E).1 size (backM t M E).2 ∧ EOk (backM t M E).2 ∧ UpG Hz bm mb H' ∧ ∀ K : K, l_ids_Giver_Return_1 (.pointer (some ⟨gb, 0, none⟩)) (.pointer (some ⟨bm, 0, none⟩)) v v (.int .i64 (ns.length : Int)) (.int .i64 (i : Int)) H (blkK [6] 2 K) = K .normal [(6, v)] H'
  | [], i, H, M, E, hx, g, hE, u => by
    have h : ns.length ≤ i := List.drop_eq_nil_iff.1 hx
    have hlt : ¬ (i : Int) < (ns.length : Int) := by omega
    refine ⟨H, g, hE, u, fun K => ?_⟩
    rw [r_ids_Giver_Return_1]
    simp (disch := first | with_reducible rfl | assumption | omega | rfl | (simp only [go_sem]; first | done | omega)) only [go_sem, ↓reduceIte, reduceCtorEq, Nat.reduceEqDiff, Nat.reduceAdd, Nat.reduceSub, Nat.reduceMul, Nat.reduceDiv, Nat.reduceMod, Nat.reduceLeDiff, Nat.reduceLT, Nat.reduceBEq, Int.reduceEq, Int.reduceBEq, Int.reduceBNe, Int.reduceLT, Int.reduceLE, Int.reduceAdd, Int.reduceSub, Int.reduceNeg, Int.reduceToNat, Int.reducePow, Nat.reducePow, Int.reduceMul, Int.reduceDiv, ↓s_ids_Giver_Return_b1, hlt]
  | s :: t, i, H, M, E, hx, g, hE, u => by
    obtain ⟨hi, hxa, hx'⟩ := drop_cons hx
    have hlt : (i : Int) < (ns.length : Int) := by omega
    have hrk := hr.keep u.fr fun b hb h => by
      obtain ⟨q1, q2⟩ := hoff b hb
      rcases h with h | h
      · exact q1 h
      · exact q2 h
    obtain ⟨b1, o1, ix, c0⟩ := rd_str hrk hi
    rw [hxa] at c0
    have f := g.gv.f
    have lk := lookB g.gv.m s
    obtain ⟨e0, e1, e2⟩ := hE s
    have mi := d_Itoa (atB E s).1 H (by omega) (by omega)
    obtain ⟨H1, m1, fr1, u1⟩ := g.fr.putU ⟨s, mk (itoaS (atB E s).1)⟩
    have g1 := g.map fr1 u1
    have f1 := g1.gv.f
    have dl : xbuiltin Tryz.prog .delete [T.map_string_api_Block, T.string] [.map (some mb), .string s] H1 = some (.val (.tuple #[]) (H1.set mb (.map (entsB (Eng.delE E s))))) := by
      have := delB g1.gv.m s [T.string]
      show both (xdelete Tryz.prog _ _ _ H1) = _
      rw [this]
      rfl
    obtain ⟨H2, hH2⟩ : ∃ H2, H1.set mb (.map (entsB (Eng.delE E s))) = H2 := ⟨_, rfl⟩
    rw [hH2] at dl
    have fs : Fr (fun b => b = mb) H1 H2 := by rw [← hH2]; exact Fr.set (Fr.refl H1) _ _ fun _ => rfl
    have gv2 : Gv H2 gb mb size (Eng.delE E s) := ⟨by rw [← hH2, H1.set_other _ g.gv.ne]; exact f1, by rw [← hH2]; exact set_f_eq, by rw [← hH2]; exact g1.gv.gn, by rw [← hH2]; exact g1.gv.mn, g.gv.ne, g.gv.sz⟩
    have g2 := g1.giv gv2 fs
    have u2 := (u.trans (UpG.of_up (mb := mb) u1)).trans (UpG.of_giv g1 fs)
    obtain ⟨H', q1, q2, q3, ih⟩ := l_ret1 v ns hr hns hoff t (i + 1) H2 _ _ hx' g2 (hE.del s) u2
    refine ⟨H', q1, q2, q3, fun K => ?_⟩
    have ih := ih K
    rw [Int.natCast_add] at ih
    rw [← ih, r_ids_Giver_Return_1]
    simp (disch := first | with_reducible rfl | assumption | omega | rfl | (simp only [go_sem]; first | done | omega)) only [go_sem, ↓reduceIte, reduceCtorEq, Nat.reduceEqDiff, Nat.reduceAdd, Nat.reduceSub, Nat.reduceMul, Nat.reduceDiv, Nat.reduceMod, Nat.reduceLeDiff, Nat.reduceLT, Nat.reduceBEq, Int.reduceEq, Int.reduceBEq, Int.reduceBNe, Int.reduceLT, Int.reduceLE, Int.reduceAdd, Int.reduceSub, Int.reduceNeg, Int.reduceToNat, Int.reducePow, Nat.reducePow, Int.reduceMul, Int.reduceDiv, ↓s_ids_Giver_Return_b1, hlt, ix, c0, f, lk, ↓enterK_eq mi, enterK_eq mi, ↓enterK_eq m1, enterK_eq m1, f1, dl]

/-- What Return answers, and what is left. -/
def retR (M : List Pr) (E : Be) : (Int × Int) × List Pr × Be :=
  if (rets M E (sortedK E) []).1 ≠ 0 then ((0, (rets M E (sortedK E) []).1), M, E) else ((((rets M E (sortedK E) []).2.length : Nat), 0), backM (rets M E (sortedK E) []).2 M E)
set_option maxHeartbeats 1000000 in
theorem q_Return {H0 H : AHeap} {bm gb mb : Nat} {M : List Pr} {size : Int} {E : Be} (g : GS H0 H bm gb mb M size E) (hE : EOk E) (hk : KeysOk E) (hl : E.length ≤ 1000000) :
    ∃ H', CC F.ids_Giver_Return [.pointer (some ⟨gb, 0, none⟩), .pointer (some ⟨bm, 0, none⟩)] H = some (.tuple #[.int .i64 (retR M E).1.1, .int .i64 (retR M E).1.2], H') ∧ GS H0 H' bm gb mb (retR M E).2.1 size (retR M E).2.2 ∧ EOk (retR M E).2.2 ∧ UpG H bm mb H' := by
  have m1 := q_none_no g.gv
  have f := g.gv.f
  have m2 := d_Keys mb H
  obtain ⟨H1, hH1⟩ : ∃ H1, H.push (.cells [.map (some mb)] T.map_string_api_Block false) = H1 := ⟨_, rfl⟩
  rw [hH1] at m2
  have s1 : Still H H1 := by rw [← hH1]; exact (Fr.refl H).push _
  have f1 : H1.f H.n = .cells [.map (some mb)] T.map_string_api_Block false := by rw [← hH1]; exact push_f_eq rfl
  obtain ⟨v25, H2, m3, rd3, s2⟩ := q_Sorted f1 (g.gv.still s1).m hk hl
  have s12 := s1.trans s2
  have g2 := g.still s12
  have hks : (sortedK E).length ≤ 1000000 := by unfold sortedK; rw [List.length_map, sortS_len]; unfold keyL; simpa using hl
  have hlen := rd3.lenS
  obtain ⟨k1, k2⟩ := l_ret0 g2 hE v25 (sortedK E) rd3 hks (sortedK E) 0 H2 (.slice none 0 0) [] rfl (Fr.refl H2) Eng.Own.nil (fun d h => by cases h) (by simp) (by simp)
  unfold retR
  generalize rets M E (sortedK E) [] = r at k1 k2 ⊢
  obtain ⟨er, out⟩ := r
  simp only at k1 k2 ⊢
  by_cases he : er = 0
  · obtain ⟨out', H3, st3, o3, bk3, hl3, hloop⟩ := k2 he
    have hloop : ∀ K : K, l_ids_Giver_Return_0 (.pointer (some ⟨gb, 0, none⟩)) (.pointer (some ⟨bm, 0, none⟩)) (.slice none 0 0) v25 (.int .i64 ((sortedK E).length : Int)) (.int .i64 0) H2 (blkK [0, 1, 6] 0 K) = K .normal [(0, .pointer (some ⟨gb, 0, none⟩)), (1, .pointer (some ⟨bm, 0, none⟩)), (6, out')] H3 := hloop
    rw [if_neg (by simpa using he)]
    have g3 := g2.still st3
    have hlo := o3.rd.lenS
    obtain ⟨H4, g4, e4, u4, hl1⟩ := l_ret1 (mb := mb) out' out o3.rd (by omega) (fun b hb => by
      have h1 := bk3 b hb
      have h2 := g2.gv.mn
      exact ⟨fun h => by have := g2.fr.mdl.blk (MBT_still g2.fr.mdl st3 h); omega, by omega⟩) out 0 H3 M E rfl g3 hE (UpG.refl H3 bm mb)
    have hl1 : ∀ K : K, l_ids_Giver_Return_1 (.pointer (some ⟨gb, 0, none⟩)) (.pointer (some ⟨bm, 0, none⟩)) out' out' (.int .i64 (out.length : Int)) (.int .i64 0) H3 (blkK [6] 2 K) = K .normal [(6, out')] H4 := hl1
    have u : UpG H bm mb H4 := (UpG.of_still g (s12.trans st3)).trans u4
    have hlo4 : lenS out' = some (.int .i64 (out.length : Int)) := hlo
    obtain ⟨H5, k1', k2', k3'⟩ := g.tidy (v := .tuple #[.int .i64 (out.length : Int), .int .i64 0]) g4 u
    refine ⟨H5, (d_ids_Giver_Return _ _ H (r := (.tuple #[.int .i64 (out.length : Int), .int .i64 0], H4)) ?_).trans (congrArg some k1'), k2', e4, k3'⟩
    simp (disch := first | with_reducible rfl | assumption | omega | rfl | (simp only [go_sem]; first | done | omega)) only [go_sem, ↓reduceIte, reduceCtorEq, Nat.reduceEqDiff, Nat.reduceAdd, Nat.reduceSub, Nat.reduceMul, Nat.reduceDiv, Nat.reduceMod, Nat.reduceLeDiff, Nat.reduceLT, Nat.reduceBEq, Int.reduceEq, Int.reduceBEq, Int.reduceBNe, Int.reduceLT, Int.reduceLE, Int.reduceAdd, Int.reduceSub, Int.reduceNeg, Int.reduceToNat, Int.reducePow, Nat.reducePow, Int.reduceMul, Int.reduceDiv, ↓s_ids_Giver_Return, ↓enterK_eq m1, enterK_eq m1, mp_eq, f, ↓enterK_eq m2, enterK_eq m2, ↓enterK_eq m3, enterK_eq m3, hlen, hloop, hlo4, hl1]
  · obtain ⟨H3, st3, hloop⟩ := k1 he
    have hloop : ∀ K : K, l_ids_Giver_Return_0 (.pointer (some ⟨gb, 0, none⟩)) (.pointer (some ⟨bm, 0, none⟩)) (.slice none 0 0) v25 (.int .i64 ((sortedK E).length : Int)) (.int .i64 0) H2 (blkK [0, 1, 6] 0 K) = K .ret [(4, .int .i64 0), (5, .int .i64 er)] H3 := hloop
    rw [if_pos he]
    refine ⟨H, ?_, g, hE, UpG.refl H bm mb⟩
    apply pure_of _ (d_ids_Giver_Return _ _ H) rfl
    rotate_left 2
    · simp (disch := first | with_reducible rfl | assumption | omega | rfl | (simp only [go_sem]; first | done | omega)) only [go_sem, ↓reduceIte, reduceCtorEq, Nat.reduceEqDiff, Nat.reduceAdd, Nat.reduceSub, Nat.reduceMul, Nat.reduceDiv, Nat.reduceMod, Nat.reduceLeDiff, Nat.reduceLT, Nat.reduceBEq, Int.reduceEq, Int.reduceBEq, Int.reduceBNe, Int.reduceLT, Int.reduceLE, Int.reduceAdd, Int.reduceSub, Int.reduceNeg, Int.reduceToNat, Int.reducePow, Nat.reducePow, Int.reduceMul, Int.reduceDiv, ↓s_ids_Giver_Return, ↓enterK_eq m1, enterK_eq m1, mp_eq, f, ↓enterK_eq m2, enterK_eq m2, ↓enterK_eq m3, enterK_eq m3, hlen, hloop]
      rfl
    · exact s12.trans st3
theorem q_Return0 {H : AHeap} {gb mb : Nat} {size : Int} {E : Be} (g : Gv H gb mb size E) : CC F.ids_Giver_Return [.pointer (some ⟨gb, 0, none⟩), .pointer none] H = some (.tuple #[.int .i64 0, .int .i64 1], H) := by
  have m1 := q_none_no g
  apply pure_of _ (d_ids_Giver_Return _ _ H) rfl
  rotate_left 2
  · simp (disch := first | with_reducible rfl | assumption | omega | rfl | (simp only [go_sem]; first | done | omega)) only [go_sem, ↓reduceIte, reduceCtorEq, Nat.reduceEqDiff, Nat.reduceAdd, Nat.reduceSub, Nat.reduceMul, Nat.reduceDiv, Nat.reduceMod, Nat.reduceLeDiff, Nat.reduceLT, Nat.reduceBEq, Int.reduceEq, Int.reduceBEq, Int.reduceBNe, Int.reduceLT, Int.reduceLE, Int.reduceAdd, Int.reduceSub, Int.reduceNeg, Int.reduceToNat, Int.reducePow, Nat.reducePow, Int.reduceMul, Int.reduceDiv, ↓s_ids_Giver_Return, ↓enterK_eq m1, enterK_eq m1, mpe_nil]
    rfl
  · (repeat (first | exact Fr.refl _ | refine Fr.push ?_ _ | refine Fr.set ?_ _ _ (by intro h; first | omega | (simp only [go_sem] at h; omega))))

end Go.Proofs.YtlfpjndbpclnnaaGreatDoor

/-
  Chapter 47: what the law asks of Give and Return; its calls: small, names.
  Conditions: none. By an AI agent.
-/
set_option maxRecDepth 10000
set_option linter.unusedSimpArgs false
set_option linter.unusedVariables false
namespace Go.Proofs.YtlfpjndbpclnnaaGreatDoor
open Go Eng

theorem q_gives {H0 H : AHeap} {bm gb mb : Nat} {M : List Pr} {size : Int} {E : Be} (g : GS H0 H bm gb mb M size E) (hE : EOk E) (hM : M.length < 20000) (s : ByteArray) :
    ∃ H', CC F.law_gives [.pointer (some ⟨gb, 0, none⟩), .pointer (some ⟨bm, 0, none⟩), .string s, .int .i64 (gvR M E s size).1.1, .int .i64 (gvR M E s size).1.2] H = some (.bool true, H') ∧
      GS H0 H' bm gb mb (gvR M E s size).2.1 size (gvR M E s size).2.2 ∧ UpG H bm mb H' := by
  obtain ⟨H1, m1, g1, u1⟩ := q_Give g hE hM s
  obtain ⟨H2, k1, k2, k3⟩ := g.tidy (v := .bool true) g1 u1
  refine ⟨H2, (d_law_gives _ _ _ _ _ H (r := (.bool true, H1)) ?_).trans (congrArg some k1), k2, k3⟩
  simp (disch := first | with_reducible rfl | assumption | omega | rfl | (simp only [go_sem]; first | done | omega)) only [go_sem, ↓reduceIte, reduceCtorEq, Nat.reduceEqDiff, Nat.reduceAdd, Nat.reduceSub, Nat.reduceMul, Nat.reduceDiv, Nat.reduceMod, Nat.reduceLeDiff, Nat.reduceLT, Nat.reduceBEq, Int.reduceEq, Int.reduceBEq, Int.reduceBNe, Int.reduceLT, Int.reduceLE, Int.reduceAdd, Int.reduceSub, Int.reduceNeg, Int.reduceToNat, Int.reducePow, Nat.reducePow, Int.reduceMul, Int.reduceDiv, ↓s_law_gives, ↓enterK_eq m1, enterK_eq m1]
theorem q_gives0 {H : AHeap} {gb mb : Nat} {size : Int} {E : Be} (g : Gv H gb mb size E) (s : ByteArray) : CC F.law_gives [.pointer (some ⟨gb, 0, none⟩), .pointer none, .string s, .int .i64 0, .int .i64 1] H = some (.bool true, H) := by
  have m1 := q_Give0 g s
  apply pure_of _ (d_law_gives _ _ _ _ _ H) rfl
  rotate_left 2
  · simp (disch := first | with_reducible rfl | assumption | omega | rfl | (simp only [go_sem]; first | done | omega)) only [go_sem, ↓reduceIte, reduceCtorEq, Nat.reduceEqDiff, Nat.reduceAdd, Nat.reduceSub, Nat.reduceMul, Nat.reduceDiv, Nat.reduceMod, Nat.reduceLeDiff, Nat.reduceLT, Nat.reduceBEq, Int.reduceEq, Int.reduceBEq, Int.reduceBNe, Int.reduceLT, Int.reduceLE, Int.reduceAdd, Int.reduceSub, Int.reduceNeg, Int.reduceToNat, Int.reducePow, Nat.reducePow, Int.reduceMul, Int.reduceDiv, ↓s_law_gives, ↓enterK_eq m1, enterK_eq m1]
    rfl
  · (repeat (first | exact Fr.refl _ | refine Fr.push ?_ _ | refine Fr.set ?_ _ _ (by intro h; first | omega | (simp only [go_sem] at h; omega))))
theorem q_returns {H0 H : AHeap} {bm gb mb : Nat} {M : List Pr} {size : Int} {E : Be} (g : GS H0 H bm gb mb M size E) (hE : EOk E) (hk : KeysOk E) (hl : E.length ≤ 1000000) :
    ∃ H', CC F.law_returns [.pointer (some ⟨gb, 0, none⟩), .pointer (some ⟨bm, 0, none⟩), .int .i64 (retR M E).1.1, .int .i64 (retR M E).1.2] H = some (.bool true, H') ∧
      GS H0 H' bm gb mb (retR M E).2.1 size (retR M E).2.2 ∧ EOk (retR M E).2.2 ∧ UpG H bm mb H' := by
  obtain ⟨H1, m1, g1, e1, u1⟩ := q_Return g hE hk hl
  obtain ⟨H2, k1, k2, k3⟩ := g.tidy (v := .bool true) g1 u1
  refine ⟨H2, (d_law_returns _ _ _ _ H (r := (.bool true, H1)) ?_).trans (congrArg some k1), k2, e1, k3⟩
  simp (disch := first | with_reducible rfl | assumption | omega | rfl | (simp only [go_sem]; first | done | omega)) only [go_sem, ↓reduceIte, reduceCtorEq, Nat.reduceEqDiff, Nat.reduceAdd, Nat.reduceSub, Nat.reduceMul, Nat.reduceDiv, Nat.reduceMod, Nat.reduceLeDiff, Nat.reduceLT, Nat.reduceBEq, Int.reduceEq, Int.reduceBEq, Int.reduceBNe, Int.reduceLT, Int.reduceLE, Int.reduceAdd, Int.reduceSub, Int.reduceNeg, Int.reduceToNat, Int.reducePow, Nat.reducePow, Int.reduceMul, Int.reduceDiv, ↓s_law_returns, ↓enterK_eq m1, enterK_eq m1]
theorem q_returns0 {H : AHeap} {gb mb : Nat} {size : Int} {E : Be} (g : Gv H gb mb size E) : CC F.law_returns [.pointer (some ⟨gb, 0, none⟩), .pointer none, .int .i64 0, .int .i64 1] H = some (.bool true, H) := by
  have m1 := q_Return0 g
  apply pure_of _ (d_law_returns _ _ _ _ H) rfl
  rotate_left 2
  · simp (disch := first | with_reducible rfl | assumption | omega | rfl | (simp only [go_sem]; first | done | omega)) only [go_sem, ↓reduceIte, reduceCtorEq, Nat.reduceEqDiff, Nat.reduceAdd, Nat.reduceSub, Nat.reduceMul, Nat.reduceDiv, Nat.reduceMod, Nat.reduceLeDiff, Nat.reduceLT, Nat.reduceBEq, Int.reduceEq, Int.reduceBEq, Int.reduceBNe, Int.reduceLT, Int.reduceLE, Int.reduceAdd, Int.reduceSub, Int.reduceNeg, Int.reduceToNat, Int.reducePow, Nat.reducePow, Int.reduceMul, Int.reduceDiv, ↓s_law_returns, ↓enterK_eq m1, enterK_eq m1]
    rfl
  · (repeat (first | exact Fr.refl _ | refine Fr.push ?_ _ | refine Fr.set ?_ _ _ (by intro h; first | omega | (simp only [go_sem] at h; omega))))

/-! ### calls -/
structure Act where
  what : Int
  n : Int
  two : Bool
  name : ByteArray
  value : ByteArray
def EAct : Enc Act := ⟨5, fun a => [.int .i64 a.what, .int .i64 a.n, .bool a.two, .string a.name, .string a.value], fun _ => rfl, by decide, fun _ => rfl⟩
theorem rd_act {H : AHeap} {v : Value} {l : List Act} (hr : Rd EAct H v l) {i : Nat} (hi : i < l.length) :
    ∃ b o, ixS 5 v (.int .i64 (i : Int)) = some (.pointer (some ⟨b, o, none⟩)) ∧ cutB (H.f b) o 5 = some [.int .i64 l[i].what, .int .i64 l[i].n, .bool l[i].two, .string l[i].name, .string l[i].value] ∧ cellB (H.f b) (o + 3) = some (.string l[i].name) ∧ cellB (H.f b) (o + 4) = some (.string l[i].value) ∧ b < H.n := by
  obtain ⟨b, o, ix, hb, hc, _⟩ := hr.ix (q := .i64) hi
  exact ⟨b, o, ix, hc, cutB_cell hc (i := 3) (by decide), cutB_cell hc (i := 4) (by decide), hb⟩

def actA (a : Act) : Bool := decide ((bl a.name).length ≤ 30) && decide ((bl a.value).length ≤ 44)
def smallP (l : List Act) (n : Nat) : Bool := (l.take n).all actA && decide (l.length ≤ n)
theorem l_small (l : List Act) (n : Nat) (hn : n ≤ 1000) (v : Value) (H : AHeap) (hr : Rd EAct H v l) : ∀ (t : List Act) (i : Nat), (l.take n).drop i = t → i ≤ n →
    (t.all actA = true → ∀ K : K, l_law_small_0 v (.int .i64 (n : Int)) (.int .i64 (i : Int)) H (blkK [0, 1] 0 K) = K .normal [(0, v), (1, .int .i64 (n : Int))] H) ∧
    (t.all actA = false → ∀ K : K, l_law_small_0 v (.int .i64 (n : Int)) (.int .i64 (i : Int)) H (blkK [0, 1] 0 K) = K .ret [(4, .bool false)] H)
  | [], i, hx, hin => by
    have h : (l.take n).length ≤ i := List.drop_eq_nil_iff.1 hx
    have hlen := hr.lenS
    refine ⟨fun _ K => ?_, fun h => by simp at h⟩
    by_cases h1 : (i : Int) < (l.length : Int)
    · have h2 : ¬ (i : Int) < (n : Int) := by simp at h; omega
      rw [r_law_small_0]
      simp (disch := first | with_reducible rfl | assumption | omega | rfl | (simp only [go_sem]; first | done | omega)) only [go_sem, ↓reduceIte, reduceCtorEq, Nat.reduceEqDiff, Nat.reduceAdd, Nat.reduceSub, Nat.reduceMul, Nat.reduceDiv, Nat.reduceMod, Nat.reduceLeDiff, Nat.reduceLT, Nat.reduceBEq, Int.reduceEq, Int.reduceBEq, Int.reduceBNe, Int.reduceLT, Int.reduceLE, Int.reduceAdd, Int.reduceSub, Int.reduceNeg, Int.reduceToNat, Int.reducePow, Nat.reducePow, Int.reduceMul, Int.reduceDiv, ↓s_law_small_b0, hlen, h1, h2]
    · rw [r_law_small_0]
      simp (disch := first | with_reducible rfl | assumption | omega | rfl | (simp only [go_sem]; first | done | omega)) only [go_sem, ↓reduceIte, reduceCtorEq, Nat.reduceEqDiff, Nat.reduceAdd, Nat.reduceSub, Nat.reduceMul, Nat.reduceDiv, Nat.reduceMod, Nat.reduceLeDiff, Nat.reduceLT, Nat.reduceBEq, Int.reduceEq, Int.reduceBEq, Int.reduceBNe, Int.reduceLT, Int.reduceLE, Int.reduceAdd, Int.reduceSub, Int.reduceNeg, Int.reduceToNat, Int.reducePow, Nat.reducePow, Int.reduceMul, Int.reduceDiv, ↓s_law_small_b0, hlen, h1]
  | a :: t, i, hx, hin => by
    obtain ⟨h, hxa, hx'⟩ := drop_cons hx
    have hi : i < l.length ∧ i < n := by simp at h; omega
    have hlen := hr.lenS
    have h1 : (i : Int) < (l.length : Int) := by omega
    have h2 : (i : Int) < (n : Int) := by omega
    obtain ⟨b, o, ix, _, c3, c4, _⟩ := rd_act hr hi.1
    have hla : l[i] = a := by rw [← hxa]; simp
    rw [hla] at c3 c4
    obtain ⟨k1, k2⟩ := l_small l n hn v H hr t (i + 1) hx' (by omega)
    rw [Int.natCast_add] at k1 k2
    rw [List.all_cons]
    by_cases s1 : 30 < ((bl a.name).length : Int)
    · have e : actA a = false := by unfold actA; simp; omega
      rw [e]
      refine ⟨fun h => by simp at h, fun _ K => ?_⟩
      rw [r_law_small_0]
      simp (disch := first | with_reducible rfl | assumption | omega | rfl | (simp only [go_sem]; first | done | omega)) only [go_sem, ↓reduceIte, reduceCtorEq, Nat.reduceEqDiff, Nat.reduceAdd, Nat.reduceSub, Nat.reduceMul, Nat.reduceDiv, Nat.reduceMod, Nat.reduceLeDiff, Nat.reduceLT, Nat.reduceBEq, Int.reduceEq, Int.reduceBEq, Int.reduceBNe, Int.reduceLT, Int.reduceLE, Int.reduceAdd, Int.reduceSub, Int.reduceNeg, Int.reduceToNat, Int.reducePow, Nat.reducePow, Int.reduceMul, Int.reduceDiv, ↓s_law_small_b0, hlen, h1, h2, ix, c3, s1]
    · by_cases s2 : 44 < ((bl a.value).length : Int)
      · have e : actA a = false := by unfold actA; simp; omega
        rw [e]
        refine ⟨fun h => by simp at h, fun _ K => ?_⟩
        rw [r_law_small_0]
        simp (disch := first | with_reducible rfl | assumption | omega | rfl | (simp only [go_sem]; first | done | omega)) only [go_sem, ↓reduceIte, reduceCtorEq, Nat.reduceEqDiff, Nat.reduceAdd, Nat.reduceSub, Nat.reduceMul, Nat.reduceDiv, Nat.reduceMod, Nat.reduceLeDiff, Nat.reduceLT, Nat.reduceBEq, Int.reduceEq, Int.reduceBEq, Int.reduceBNe, Int.reduceLT, Int.reduceLE, Int.reduceAdd, Int.reduceSub, Int.reduceNeg, Int.reduceToNat, Int.reducePow, Nat.reducePow, Int.reduceMul, Int.reduceDiv, ↓s_law_small_b0, hlen, h1, h2, ix, c3, c4, s1, s2]
      · have e : actA a = true := by unfold actA; simp; omega
        rw [e, Bool.true_and]
        refine ⟨fun h3 K => ?_, fun h3 K => ?_⟩
        · rw [← k1 h3 K, r_law_small_0]
          simp (disch := first | with_reducible rfl | assumption | omega | rfl | (simp only [go_sem]; first | done | omega)) only [go_sem, ↓reduceIte, reduceCtorEq, Nat.reduceEqDiff, Nat.reduceAdd, Nat.reduceSub, Nat.reduceMul, Nat.reduceDiv, Nat.reduceMod, Nat.reduceLeDiff, Nat.reduceLT, Nat.reduceBEq, Int.reduceEq, Int.reduceBEq, Int.reduceBNe, Int.reduceLT, Int.reduceLE, Int.reduceAdd, Int.reduceSub, Int.reduceNeg, Int.reduceToNat, Int.reducePow, Nat.reducePow, Int.reduceMul, Int.reduceDiv, ↓s_law_small_b0, hlen, h1, h2, ix, c3, c4, s1, s2]
        · rw [← k2 h3 K, r_law_small_0]
          simp (disch := first | with_reducible rfl | assumption | omega | rfl | (simp only [go_sem]; first | done | omega)) only [go_sem, ↓reduceIte, reduceCtorEq, Nat.reduceEqDiff, Nat.reduceAdd, Nat.reduceSub, Nat.reduceMul, Nat.reduceDiv, Nat.reduceMod, Nat.reduceLeDiff, Nat.reduceLT, Nat.reduceBEq, Int.reduceEq, Int.reduceBEq, Int.reduceBNe, Int.reduceLT, Int.reduceLE, Int.reduceAdd, Int.reduceSub, Int.reduceNeg, Int.reduceToNat, Int.reducePow, Nat.reducePow, Int.reduceMul, Int.reduceDiv, ↓s_law_small_b0, hlen, h1, h2, ix, c3, c4, s1, s2]
theorem q_small (l : List Act) (n : Nat) (hn : n ≤ 1000) (v : Value) (H : AHeap) (hr : Rd EAct H v l) : CC F.law_small [v, .int .i64 (n : Int)] H = some (.bool (smallP l n), H) := by
  obtain ⟨z1, z2⟩ := l_small l n hn v H hr (l.take n) 0 rfl (by omega)
  have hlen := hr.lenS
  unfold smallP
  cases h : (l.take n).all actA with
  | true =>
    have z1 : ∀ K : K, l_law_small_0 v (.int .i64 (n : Int)) (.int .i64 0) H (blkK [0, 1] 0 K) = K .normal [(0, v), (1, .int .i64 (n : Int))] H := z1 h
    have e : (decide (l.length ≤ n)) = decide ((l.length : Int) ≤ (n : Int)) := by congr 1; apply propext; omega
    rw [Bool.true_and, e]
    apply pure_of _ (d_law_small _ _ H) rfl
    rotate_left 2
    · simp (disch := first | with_reducible rfl | assumption | omega | rfl | (simp only [go_sem]; first | done | omega)) only [go_sem, ↓reduceIte, reduceCtorEq, Nat.reduceEqDiff, Nat.reduceAdd, Nat.reduceSub, Nat.reduceMul, Nat.reduceDiv, Nat.reduceMod, Nat.reduceLeDiff, Nat.reduceLT, Nat.reduceBEq, Int.reduceEq, Int.reduceBEq, Int.reduceBNe, Int.reduceLT, Int.reduceLE, Int.reduceAdd, Int.reduceSub, Int.reduceNeg, Int.reduceToNat, Int.reducePow, Nat.reducePow, Int.reduceMul, Int.reduceDiv, ↓s_law_small, z1, hlen]
      rfl
    · (repeat (first | exact Fr.refl _ | refine Fr.push ?_ _ | refine Fr.set ?_ _ _ (by intro h; first | omega | (simp only [go_sem] at h; omega))))
  | false =>
    have z2 : ∀ K : K, l_law_small_0 v (.int .i64 (n : Int)) (.int .i64 0) H (blkK [0, 1] 0 K) = K .ret [(4, .bool false)] H := z2 h
    rw [Bool.false_and]
    apply pure_of _ (d_law_small _ _ H) rfl
    rotate_left 2
    · simp (disch := first | with_reducible rfl | assumption | omega | rfl | (simp only [go_sem]; first | done | omega)) only [go_sem, ↓reduceIte, reduceCtorEq, Nat.reduceEqDiff, Nat.reduceAdd, Nat.reduceSub, Nat.reduceMul, Nat.reduceDiv, Nat.reduceMod, Nat.reduceLeDiff, Nat.reduceLT, Nat.reduceBEq, Int.reduceEq, Int.reduceBEq, Int.reduceBNe, Int.reduceLT, Int.reduceLE, Int.reduceAdd, Int.reduceSub, Int.reduceNeg, Int.reduceToNat, Int.reducePow, Nat.reducePow, Int.reduceMul, Int.reduceDiv, ↓s_law_small, z2]
      rfl
    · (repeat (first | exact Fr.refl _ | refine Fr.push ?_ _ | refine Fr.set ?_ _ _ (by intro h; first | omega | (simp only [go_sem] at h; omega))))

/-! ### names -/
def posK : List ByteArray → ByteArray → Nat
  | [], _ => 0
  | a :: l, s => if cmpS a s < 0 then posK l s + 1 else 0
theorem posK_le : ∀ (l : List ByteArray) (s : ByteArray), posK l s ≤ l.length
  | [], _ => Nat.le_refl _
  | a :: l, s => by
    unfold posK
    split
    · have := posK_le l s; simp; omega
    · exact Nat.zero_le _
def insN (l : List ByteArray) (s : ByteArray) : List ByteArray := if l[posK l s]? = some s then l else l.take (posK l s) ++ s :: l.drop (posK l s)
def namesL (l : List Act) : List ByteArray := l.foldl (fun m a => insN m a.name) []

theorem l_nm1 (l : List Act) (v0 v3 : Value) (H : AHeap) (hr : Rd EAct H v0 l) (i : Nat) (hi : i < l.length) (o : List ByteArray) (ho : Rd EStr H v3 o) (hol : o.length ≤ 1000000) : ∀ (t : List ByteArray) (k : Nat), o.drop k = t → ∀ K : K,
    l_law_names_1 v0 v3 (.int .i64 (i : Int)) (.int .i64 (k : Int)) H (blkK [0, 3, 4, 5] 2 K) = K .normal [(0, v0), (3, v3), (4, .int .i64 (i : Int)), (5, .int .i64 ((k + posK t l[i].name : Nat) : Int))] H
  | [], k, hx, K => by
    have h : o.length ≤ k := List.drop_eq_nil_iff.1 hx
    have hlt : ¬ (k : Int) < (o.length : Int) := by omega
    have hlen := ho.lenS
    have e : posK [] l[i].name = 0 := rfl
    rw [e, Nat.add_zero, r_law_names_1]
    simp (disch := first | with_reducible rfl | assumption | omega | rfl | (simp only [go_sem]; first | done | omega)) only [go_sem, ↓reduceIte, reduceCtorEq, Nat.reduceEqDiff, Nat.reduceAdd, Nat.reduceSub, Nat.reduceMul, Nat.reduceDiv, Nat.reduceMod, Nat.reduceLeDiff, Nat.reduceLT, Nat.reduceBEq, Int.reduceEq, Int.reduceBEq, Int.reduceBNe, Int.reduceLT, Int.reduceLE, Int.reduceAdd, Int.reduceSub, Int.reduceNeg, Int.reduceToNat, Int.reducePow, Nat.reducePow, Int.reduceMul, Int.reduceDiv, ↓s_law_names_b1, hlen, hlt]
  | a :: t, k, hx, K => by
    obtain ⟨h, hxa, hx'⟩ := drop_cons hx
    have hlt : (k : Int) < (o.length : Int) := by omega
    have hlen := ho.lenS
    obtain ⟨b1, o1, ix1, c1⟩ := rd_str ho h
    rw [hxa] at c1
    obtain ⟨b2, o2, ix2, _, c2, _, _⟩ := rd_act hr hi
    have ih := l_nm1 l v0 v3 H hr i hi o ho hol t (k + 1) hx' K
    generalize l[i].name = s at c2 ih ⊢
    rw [Int.natCast_add k 1] at ih
    rw [posK]
    by_cases hc : cmpS a s < 0
    · have hb : Op.bytesLess (bl a) (bl s) = true := by rw [less_cmpS]; exact decide_eq_true hc
      rw [if_pos hc, show k + (posK t s + 1) = k + 1 + posK t s by omega, ← ih, r_law_names_1]
      simp (disch := first | with_reducible rfl | assumption | omega | rfl | (simp only [go_sem]; first | done | omega)) only [go_sem, ↓reduceIte, reduceCtorEq, Nat.reduceEqDiff, Nat.reduceAdd, Nat.reduceSub, Nat.reduceMul, Nat.reduceDiv, Nat.reduceMod, Nat.reduceLeDiff, Nat.reduceLT, Nat.reduceBEq, Int.reduceEq, Int.reduceBEq, Int.reduceBNe, Int.reduceLT, Int.reduceLE, Int.reduceAdd, Int.reduceSub, Int.reduceNeg, Int.reduceToNat, Int.reducePow, Nat.reducePow, Int.reduceMul, Int.reduceDiv, ↓s_law_names_b1, hlen, hlt, ix1, c1, ix2, c2, hb]
    · have hb : Op.bytesLess (bl a) (bl s) = false := by rw [less_cmpS]; exact decide_eq_false hc
      rw [if_neg hc, Nat.add_zero, r_law_names_1]
      simp (disch := first | with_reducible rfl | assumption | omega | rfl | (simp only [go_sem]; first | done | omega)) only [go_sem, ↓reduceIte, reduceCtorEq, Nat.reduceEqDiff, Nat.reduceAdd, Nat.reduceSub, Nat.reduceMul, Nat.reduceDiv, Nat.reduceMod, Nat.reduceLeDiff, Nat.reduceLT, Nat.reduceBEq, Int.reduceEq, Int.reduceBEq, Int.reduceBNe, Int.reduceLT, Int.reduceLE, Int.reduceAdd, Int.reduceSub, Int.reduceNeg, Int.reduceToNat, Int.reducePow, Nat.reducePow, Int.reduceMul, Int.reduceDiv, ↓s_law_names_b1, hlen, hlt, ix1, c1, ix2, c2, hb]

end Go.Proofs.YtlfpjndbpclnnaaGreatDoor

/-
  Chapter 47: the names of calls, sorted.
  Conditions: none. By an AI agent.
-/
set_option maxRecDepth 10000
set_option linter.unusedSimpArgs false
set_option linter.unusedVariables false
namespace Go.Proofs.YtlfpjndbpclnnaaGreatDoor
open Go Eng

theorem only_nil {H H' : AHeap} (f : Fr (OnlyOf (.slice none 0 0)) H H') : Still H H' := f.mono fun b _ h => by unfold OnlyOf at h; cases h
set_option maxHeartbeats 1000000 in
theorem l_nm0 {Hz : AHeap} (l : List Act) (v0 : Value) (hr : Rd EAct Hz v0 l) (hl : l.length ≤ 1000) : ∀ (t : List Act) (i : Nat) (H : AHeap) (v3 : Value) (o : List ByteArray), l.drop i = t → Still Hz H → Own EStr H T.string v3 o → (∀ b, blockOf v3 = some b → Hz.n ≤ b) → o.length ≤ i → i ≤ l.length →
    ∃ v' H', Still Hz H' ∧ Own EStr H' T.string v' (t.foldl (fun m a => insN m a.name) o) ∧ (∀ b, blockOf v' = some b → Hz.n ≤ b) ∧ (t.foldl (fun m a => insN m a.name) o).length ≤ l.length ∧ ∀ K : K, l_law_names_0 v0 v3 (.int .i64 (i : Int)) H (blkK [3] 0 K) = K .normal [(3, v')] H'
  | [], i, H, v3, o, hx, st, ho, hob, hoi, hil => by
    have h : l.length ≤ i := List.drop_eq_nil_iff.1 hx
    have hlt : ¬ (i : Int) < (l.length : Int) := by omega
    have hlen := (hr.still st).lenS
    refine ⟨v3, H, st, ho, hob, (by show o.length ≤ l.length; omega), fun K => ?_⟩
    rw [r_law_names_0]
    simp (disch := first | with_reducible rfl | assumption | omega | rfl | (simp only [go_sem]; first | done | omega)) only [go_sem, ↓reduceIte, reduceCtorEq, Nat.reduceEqDiff, Nat.reduceAdd, Nat.reduceSub, Nat.reduceMul, Nat.reduceDiv, Nat.reduceMod, Nat.reduceLeDiff, Nat.reduceLT, Nat.reduceBEq, Int.reduceEq, Int.reduceBEq, Int.reduceBNe, Int.reduceLT, Int.reduceLE, Int.reduceAdd, Int.reduceSub, Int.reduceNeg, Int.reduceToNat, Int.reducePow, Nat.reducePow, Int.reduceMul, Int.reduceDiv, ↓s_law_names_b0, hlen, hlt]
  | a :: t, i, H, v3, o, hx, st, ho, hob, hoi, hil => by
    obtain ⟨hi, hxa, hx'⟩ := drop_cons hx
    have hlt : (i : Int) < (l.length : Int) := by omega
    have hrs := hr.still st
    have hlen := hrs.lenS
    have hol := ho.rd.lenS
    have h1 := l_nm1 l v0 v3 H hrs i hi o ho.rd (by omega) o 0 rfl
    rw [Nat.zero_add, hxa] at h1
    have h1 : ∀ K : K, l_law_names_1 v0 v3 (.int .i64 (i : Int)) (.int .i64 0) H (blkK [0, 3, 4, 5] 2 K) = K .normal [(0, v0), (3, v3), (4, .int .i64 (i : Int)), (5, .int .i64 ((posK o a.name : Nat) : Int))] H := h1
    obtain ⟨b2, o2, ix2, _, c2, _, hb2⟩ := rd_act hrs hi
    rw [hxa] at c2
    have hk := posK_le o a.name
    rw [List.foldl_cons]
    by_cases hin : o[posK o a.name]? = some a.name
    · have e : insN o a.name = o := by unfold insN; rw [if_pos hin]
      rw [e]
      obtain ⟨hkl, hkv⟩ := List.getElem?_eq_some_iff.1 hin
      generalize posK o a.name = k at h1 hk hkl hkv
      obtain ⟨b3, o3, ix3, c3⟩ := rd_str ho.rd hkl
      rw [hkv] at c3
      have hne : ¬ (k : Int) = (o.length : Int) := by omega
      obtain ⟨v', H', q1, q2, q3, q4, ih⟩ := l_nm0 l v0 hr hl t (i + 1) H v3 o hx' st ho hob (by omega) (by omega)
      refine ⟨v', H', q1, q2, q3, q4, fun K => ?_⟩
      have ih := ih K
      rw [Int.natCast_add] at ih
      rw [← ih, r_law_names_0]
      simp (disch := first | with_reducible rfl | assumption | omega | rfl | (simp only [go_sem]; first | done | omega)) only [go_sem, ↓reduceIte, reduceCtorEq, Nat.reduceEqDiff, Nat.reduceAdd, Nat.reduceSub, Nat.reduceMul, Nat.reduceDiv, Nat.reduceMod, Nat.reduceLeDiff, Nat.reduceLT, Nat.reduceBEq, Int.reduceEq, Int.reduceBEq, Int.reduceBNe, Int.reduceLT, Int.reduceLE, Int.reduceAdd, Int.reduceSub, Int.reduceNeg, Int.reduceToNat, Int.reducePow, Nat.reducePow, Int.reduceMul, Int.reduceDiv, ↓s_law_names_b0, hlen, hlt, h1, hol, hne, ix3, c3, ix2, c2]
    · have e : insN o a.name = o.take (posK o a.name) ++ a.name :: o.drop (posK o a.name) := by unfold insN; rw [if_neg hin]
      rw [e]
      have hnin : ∀ (h : posK o a.name < o.length), ¬ bl o[posK o a.name] = bl a.name := fun h he => hin (by rw [List.getElem?_eq_getElem h, bl_inj he])
      generalize posK o a.name = k at h1 hk hnin hin
      generalize a.name = s at c2 hnin hin
      -- the heaps
      obtain ⟨H1, hH1⟩ : ∃ H1, H.push (.cells [.string s] T.string true) = H1 := ⟨_, rfl⟩
      have s1 : Still H H1 := by rw [← hH1]; exact (Fr.refl H).push _
      have n1 : H1.n = H.n + 1 := by rw [← hH1]; rfl
      have lit := strLit s H
      rw [hH1] at lit
      obtain ⟨vd, a1, rd1, _⟩ := (ho.still s1).sl.from (sz := 1) rfl (i := k) (q := .i64) hk
      obtain ⟨v2, H2, a2, r2, s2, bk2⟩ := lit.appX (m := o.drop k) (e := T.string) (sz := 1) (bytes := 16) rfl (by simp; omega) (by simp; omega) (rd1.1.src (sz := 1) rfl) (by simp)
      have hoz := (ho.still s1).still s2
      obtain ⟨vt, a3, rd3, _⟩ := hoz.sl.to (sz := 1) rfl (j := k) (q := .i64) hk
      obtain ⟨v4, H3, a4, o4, f4, bk4⟩ := (Eng.Own.nil (E := EStr) (H := H2) (e := T.string)).appE (m := o.take k) (sz := 1) (bytes := 16) rfl (by simp; omega) (by simp; omega) (rd3.1.src (sz := 1) rfl)
      have s4 := only_nil f4
      rw [List.nil_append] at o4
      obtain ⟨v5, H4, a5, o5, f5, bk5⟩ := o4.appE (m := s :: o.drop k) (sz := 1) (bytes := 16) rfl (by simp; omega) (by simp; omega) ((r2.still s4).src (sz := 1) rfl)
      have st3 : Still Hz H3 := ((st.trans s1).trans s2).trans s4
      have hz1 := st.n
      have hn2 := s2.n
      have hn4 := s4.n
      have hb4 : ∀ b, blockOf v4 = some b → Hz.n ≤ b := fun b hb => by
        rcases bk4 with h | h
        · rw [h] at hb; cases hb
        · rw [h] at hb; cases hb; omega
      have st4 : Still Hz H4 := st3.then f5 fun b hb h => by have := hb4 b h; omega
      have hb5 : ∀ b, blockOf v5 = some b → Hz.n ≤ b := fun b hb => by
        rcases bk5 with h | h
        · rw [h] at hb; exact hb4 b hb
        · rw [h] at hb; cases hb; omega
      obtain ⟨v', H', q1, q2, q3, q4, ih⟩ := l_nm0 l v0 hr hl t (i + 1) H4 v5 _ hx' st4 o5 hb5 (by simp; omega) (by omega)
      refine ⟨v', H', q1, q2, q3, q4, fun K => ?_⟩
      have ih := ih K
      rw [Int.natCast_add] at ih
      rw [← ih, r_law_names_0]
      have a2' : app T.string 1 16 (.slice (some ⟨H.n, 0, none⟩) 1 2) (srcS 1 vd H1) H1 = some (v2, H2) := a2
      by_cases hkl : (k : Int) = (o.length : Int)
      · simp (disch := first | with_reducible rfl | assumption | omega | rfl | (simp only [go_sem]; first | done | omega)) only [go_sem, ↓reduceIte, reduceCtorEq, Nat.reduceEqDiff, Nat.reduceAdd, Nat.reduceSub, Nat.reduceMul, Nat.reduceDiv, Nat.reduceMod, Nat.reduceLeDiff, Nat.reduceLT, Nat.reduceBEq, Int.reduceEq, Int.reduceBEq, Int.reduceBNe, Int.reduceLT, Int.reduceLE, Int.reduceAdd, Int.reduceSub, Int.reduceNeg, Int.reduceToNat, Int.reducePow, Nat.reducePow, Int.reduceMul, Int.reduceDiv, ↓s_law_names_b0, hlen, hlt, h1, hol, hkl, ix2, c2, hH1]
        rw [← hkl]
        simp (disch := first | with_reducible rfl | assumption | omega | rfl | (simp only [go_sem]; first | done | omega)) only [go_sem, ↓reduceIte, reduceCtorEq, Nat.reduceEqDiff, Nat.reduceAdd, Nat.reduceSub, Nat.reduceMul, Nat.reduceDiv, Nat.reduceMod, Nat.reduceLeDiff, Nat.reduceLT, Nat.reduceBEq, Int.reduceEq, Int.reduceBEq, Int.reduceBNe, Int.reduceLT, Int.reduceLE, Int.reduceAdd, Int.reduceSub, Int.reduceNeg, Int.reduceToNat, Int.reducePow, Nat.reducePow, Int.reduceMul, Int.reduceDiv, a1, a2', a3, a4, a5]
      · have hkl' : k < o.length := by omega
        obtain ⟨b3, o3, ix3, c3⟩ := rd_str ho.rd hkl'
        have hnn := hnin hkl'
        simp (disch := first | with_reducible rfl | assumption | omega | rfl | (simp only [go_sem]; first | done | omega)) only [go_sem, ↓reduceIte, reduceCtorEq, Nat.reduceEqDiff, Nat.reduceAdd, Nat.reduceSub, Nat.reduceMul, Nat.reduceDiv, Nat.reduceMod, Nat.reduceLeDiff, Nat.reduceLT, Nat.reduceBEq, Int.reduceEq, Int.reduceBEq, Int.reduceBNe, Int.reduceLT, Int.reduceLE, Int.reduceAdd, Int.reduceSub, Int.reduceNeg, Int.reduceToNat, Int.reducePow, Nat.reducePow, Int.reduceMul, Int.reduceDiv, ↓s_law_names_b0, hlen, hlt, h1, hol, hkl, ix3, c3, ix2, c2, hnn, hH1, a1, a2', a3, a4, a5]
theorem own_tidiedG {α : Type} {E : Enc α} {e : TypeId} {H H' : AHeap} {v : Value} {l : List α} (ho : Own E H' e v l) (hs : Still H H') (hn : New H v) {x : Res} (hx : x = some (tidy H (v, H'))) :
    ∃ H'', x = some (v, H'') ∧ Own E H'' e v l ∧ Still H H'' ∧ New H v := by
  unfold tidy at hx
  split at hx
  · rename_i hg
    simp only [Bool.and_eq_true] at hg
    refine ⟨H, hx, ?_, Fr.refl _, hn⟩
    rcases ho with h | ⟨_, a, h, _⟩ | ⟨b, o, c, xs, h, _⟩
    · exact .inl h
    · rw [h] at hg; exact absurd hg.1 (by simp [gr])
    · rw [h] at hg; exact absurd hg.1 (by simp [gr])
  · exact ⟨H', hx, ho, hs, hn⟩
theorem q_names {H : AHeap} (l : List Act) (v : Value) (hr : Rd EAct H v l) (hl : l.length ≤ 1000) : ∃ v' H', CC F.law_names [v] H = some (v', H') ∧ Own EStr H' T.string v' (namesL l) ∧ (∀ b, blockOf v' = some b → H.n ≤ b) ∧ Still H H' ∧ (namesL l).length ≤ l.length := by
  obtain ⟨v', H1, st, ho, hb, hln, hloop⟩ := l_nm0 l v hr hl l 0 H (.slice none 0 0) [] rfl (Fr.refl H) Eng.Own.nil (fun b h => by cases h) (by simp) (by simp)
  have hloop : ∀ K : K, l_law_names_0 v (.slice none 0 0) (.int .i64 0) H (blkK [3] 0 K) = K .normal [(3, v')] H1 := hloop
  obtain ⟨H2, h1, h2, h3, h4⟩ := own_tidiedG ho st hb (d_law_names v H (r := (v', H1)) (by
    simp (disch := first | with_reducible rfl | assumption | omega | rfl | (simp only [go_sem]; first | done | omega)) only [go_sem, ↓reduceIte, reduceCtorEq, Nat.reduceEqDiff, Nat.reduceAdd, Nat.reduceSub, Nat.reduceMul, Nat.reduceDiv, Nat.reduceMod, Nat.reduceLeDiff, Nat.reduceLT, Nat.reduceBEq, Int.reduceEq, Int.reduceBEq, Int.reduceBNe, Int.reduceLT, Int.reduceLE, Int.reduceAdd, Int.reduceSub, Int.reduceNeg, Int.reduceToNat, Int.reducePow, Nat.reducePow, Int.reduceMul, Int.reduceDiv, ↓s_law_names, hloop]))
  exact ⟨v', H2, h1, h2, h4, h3, hln⟩

end Go.Proofs.YtlfpjndbpclnnaaGreatDoor

/-
  Chapter 47: the law's giver: its map of rows of numbers; give.
  Conditions: none. By an AI agent.
-/
set_option maxRecDepth 10000
set_option linter.unusedSimpArgs false
set_option linter.unusedVariables false
namespace Go.Proofs.YtlfpjndbpclnnaaGreatDoor
open Go Eng

def EI : Enc Int := ⟨1, fun a => [.int .i64 a], fun _ => rfl, by decide, fun _ => rfl⟩
abbrev Re := List (ByteArray × Value)
def entsR (R : Re) : List (Value × Value) := R.map fun p => (.string p.1, p.2)
def RR (v a : Value) : Prop := v = a
theorem ent_ofR : ∀ R : Re, Ent RR kStr.kv (entsR R) R
  | [] => trivial
  | _ :: R => ⟨rfl, rfl, ent_ofR R⟩
theorem of_entR : ∀ {ents : List (Value × Value)} {R : Re}, Ent RR kStr.kv ents R → ents = entsR R
  | [], [], _ => rfl
  | (k, v) :: ents, p :: R, h => by
    obtain ⟨h1, h2, h3⟩ := h
    simp only at h1 h2
    subst h1
    have h2 : v = p.2 := h2
    subst h2
    rw [of_entR h3]
    rfl
  | [], _ :: _, h => h.elim
  | _ :: _, [], h => h.elim
theorem entsR_inj : ∀ {R R' : Re}, entsR R = entsR R' → R = R'
  | [], [], _ => rfl
  | [], _ :: _, h => by cases h
  | _ :: _, [], h => by cases h
  | p :: R, q :: R', h => by
    obtain ⟨h1, h2⟩ := List.cons.inj (show (Value.string p.1, p.2) :: entsR R = (Value.string q.1, q.2) :: entsR R' from h)
    rw [entsR_inj h2]
    cases p; cases q
    simp at h1
    rw [h1.1, h1.2]
theorem mtInts : MapT Tryz.prog kStr T.map_string_int (.slice none 0 0) := ⟨_, _, Tryz.underlying37, by kernel_rfl, by kernel_rfl⟩
def atR (R : Re) (s : ByteArray) : Value := (lkp R s).getD (.slice none 0 0)
theorem lookR {H : AHeap} {rb : Nat} {R : Re} (h : H.f rb = .map (entsR R)) (s : ByteArray) : xlookup Tryz.prog T.map_string_int (.map (some rb)) (.string s) false H = some (atR R s) := by
  unfold atR
  cases hk : lkp R s with
  | none => exact look_none mtInts h (ent_ofR R) hk false
  | some a =>
    obtain ⟨v, hl, hv⟩ := look_some mtInts h (ent_ofR R) hk false
    have hv : v = a := hv
    subst hv
    exact hl
theorem updR {H : AHeap} {rb : Nat} {R : Re} (h : H.f rb = .map (entsR R)) (s : ByteArray) (v : Value) : xmapUpdate Tryz.prog T.map_string_int (.map (some rb)) (.string s) v H = some (H.set rb (.map (entsR (Eng.putE R s v)))) := by
  have := upd_map mtInts h (ent_ofR R) s v
  rw [of_entR ((ent_ofR R).put (R := RR) (k := s) (a := v) rfl)] at this
  exact this
theorem atR_put (R : Re) (k s : ByteArray) (v : Value) : atR (Eng.putE R k v) s = if k = s then v else atR R s := by
  unfold atR
  rw [lkp_put]
  split <;> rfl

/-- A row of numbers: nil where there are none. -/
def IR (H : AHeap) (v : Value) (l : List Int) : Prop := (l = [] ∧ v = .slice none 0 0) ∨ (l ≠ [] ∧ Own EI H T.int v l)
theorem IR.rd {H : AHeap} {v : Value} {l : List Int} (h : IR H v l) : Rd EI H v l := by
  rcases h with h | h
  · exact .inl h
  · exact h.2.rd
theorem IR.keep {S : Nat → Prop} {H H' : AHeap} {v : Value} {l : List Int} (h : IR H v l) (f : Fr S H H') (ho : Off S v) : IR H' v l := h.imp id fun ⟨h1, h2⟩ => ⟨h1, h2.keep f ho⟩
theorem IR.lt {H : AHeap} {v : Value} {l : List Int} (h : IR H v l) {b : Nat} (hb : blockOf v = some b) : b < H.n := by
  rcases h with ⟨_, rfl⟩ | ⟨_, h2⟩
  · cases hb
  · exact h2.blk hb
theorem IR.back {H H' : AHeap} {v : Value} {l : List Int} (h : IR H' v l) (hb : ∀ b, blockOf v = some b → b < H.n) (hf : ∀ b, b < H.n → H'.f b = H.f b) : IR H v l := by
  rcases h with h | ⟨h1, h2⟩
  · exact .inl h
  · exact .inr ⟨h1, Own.back h2 hb hf⟩

/-- The numbers of a block. -/
def nums (a : Int × Int) : List Int := (List.range a.2.toNat).map fun i : Nat => a.1 + (i : Int)
theorem nums_len (a : Int × Int) : (nums a).length = a.2.toNat := by unfold nums; simp
theorem nums_cons {x y : Int} (h : 1 ≤ y) : nums (x, y) = x :: nums (x + 1, y - 1) := by
  unfold nums
  obtain ⟨n, hn⟩ : ∃ n : Nat, y.toNat = n + 1 := ⟨y.toNat - 1, by omega⟩
  have h2 : (y - 1).toNat = n := by omega
  simp only [hn, h2]
  rw [List.range_succ_eq_map, List.map_cons, List.map_map]
  congr 1
  · simp
  · refine List.map_congr_left fun i _ => ?_
    simp only [Function.comp]
    omega
theorem nums_zero (x : Int) : nums (x, 0) = [] := rfl

/-- The law's giver beside its map. -/
structure RS (H0 H : AHeap) (bc xb rb : Nat) (M : List Pr) (size : Int) (R : Re) (N : ByteArray → List Int) : Prop where
  fr : Fresh H0 H bc M
  f : H.f xb = .cells [.int .i64 size, .map (some rb)] T.law_Giver true
  m : H.f rb = .map (entsR R)
  xn : xb < H.n
  rn : rb < H.n
  ne : xb ≠ rb
  ox : ¬ MB H bc xb
  or : ¬ MB H bc rb
  nx : H0.n ≤ xb
  nr : H0.n ≤ rb
  rows : ∀ s, IR H (atR R s) (N s)
  offs : ∀ s b, blockOf (atR R s) = some b → ¬ MB H bc b ∧ b ≠ xb ∧ b ≠ rb ∧ H0.n ≤ b
section
variable {H0 H H' : AHeap} {bc xb rb : Nat} {M M' : List Pr} {size : Int} {R R' : Re} {N N' : ByteArray → List Int}
theorem RS.still (r : RS H0 H bc xb rb M size R N) (s : Still H H') : RS H0 H' bc xb rb M size R N :=
  ⟨r.fr.to s, by rw [s.f r.xn fun h => h]; exact r.f, by rw [s.f r.rn fun h => h]; exact r.m, Nat.lt_of_lt_of_le r.xn s.n, Nat.lt_of_lt_of_le r.rn s.n, r.ne, fun h => r.ox (MBT_still r.fr.mdl s h), fun h => r.or (MBT_still r.fr.mdl s h), r.nx, r.nr, fun t => (r.rows t).keep s fun _ _ h => h, fun t b hb => by
    obtain ⟨q1, q⟩ := r.offs t b hb
    exact ⟨fun h => q1 (MBT_still r.fr.mdl s h), q⟩⟩
theorem RS.map (r : RS H0 H bc xb rb M size R N) (f' : Fresh H0 H' bc M') (u : Up H bc H') : RS H0 H' bc xb rb M' size R N := by
  have hn : ∀ b, b < H.n → MB H' bc b → MB H bc b := fun b hb h => by
    rcases u.mb b h with h | h
    · exact h
    · omega
  exact ⟨f', by rw [u.fr.f r.xn r.ox]; exact r.f, by rw [u.fr.f r.rn r.or]; exact r.m, Nat.lt_of_lt_of_le r.xn u.fr.n, Nat.lt_of_lt_of_le r.rn u.fr.n, r.ne, fun h => r.ox (hn _ r.xn h), fun h => r.or (hn _ r.rn h), r.nx, r.nr, fun t => (r.rows t).keep u.fr fun b hb h => (r.offs t b hb).1 h, fun t b hb => by
    obtain ⟨q1, q⟩ := r.offs t b hb
    exact ⟨fun h => q1 (hn b ((r.rows t).lt hb) h), q⟩⟩
/-- The row of one name is another one. -/
theorem RS.put (r : RS H0 H bc xb rb M size R N) (s : ByteArray) {v : Value} {l : List Int} (hv : IR H v l) (ho : ∀ b, blockOf v = some b → ¬ MB H bc b ∧ b ≠ xb ∧ b ≠ rb ∧ H0.n ≤ b) :
    RS H0 (H.set rb (.map (entsR (Eng.putE R s v)))) bc xb rb M size (Eng.putE R s v) (fun t => if s = t then l else N t) ∧ Fr (fun b => b = rb) H (H.set rb (.map (entsR (Eng.putE R s v)))) := by
  have f : Fr (fun b => b = rb) H (H.set rb (.map (entsR (Eng.putE R s v)))) := Fr.set (Fr.refl H) _ _ fun _ => rfl
  have hS : ∀ c, MB H bc c → ¬ c = rb := fun c hc h => r.or (h ▸ hc)
  have hm := (mb_same r.fr.mdl f hS).2
  refine ⟨⟨r.fr.by f hS fun b hb h => by have := r.nr; omega, by rw [H.set_other _ r.ne]; exact r.f, set_f_eq, r.xn, r.rn, r.ne, fun h => r.ox (hm _ h), fun h => r.or (hm _ h), r.nx, r.nr, fun t => ?_, fun t b hb => ?_⟩, f⟩
  · rw [atR_put]
    by_cases h : s = t
    · rw [if_pos h, if_pos h]
      exact hv.keep f fun b hb h => (ho b hb).2.2.1 h
    · rw [if_neg h, if_neg h]
      exact (r.rows t).keep f fun b hb h => (r.offs t b hb).2.2.1 h
  · rw [atR_put] at hb
    by_cases h : s = t
    · rw [if_pos h] at hb
      obtain ⟨q1, q⟩ := ho b hb
      exact ⟨fun h => q1 (hm b h), q⟩
    · rw [if_neg h] at hb
      obtain ⟨q1, q⟩ := r.offs t b hb
      exact ⟨fun h => q1 (hm b h), q⟩
/-- A block that is none of its own turns. -/
theorem RS.new {S : Nat → Prop} (r : RS H0 H bc xb rb M size R N) (f : Fr S H H') (hS : ∀ b, S b → ¬ MB H bc b ∧ b ≠ xb ∧ b ≠ rb ∧ H0.n ≤ b) (hR : ∀ s, Off S (atR R s)) : RS H0 H' bc xb rb M size R N := by
  have h1 : ∀ c, MB H bc c → ¬ S c := fun c hc h => (hS c h).1 hc
  have hm := (mb_same r.fr.mdl f h1).2
  exact ⟨r.fr.by f h1 fun b hb h => by have := (hS b h).2.2.2; omega, by rw [f.f r.xn fun h => (hS _ h).2.1 rfl]; exact r.f, by rw [f.f r.rn fun h => (hS _ h).2.2.1 rfl]; exact r.m, Nat.lt_of_lt_of_le r.xn f.n, Nat.lt_of_lt_of_le r.rn f.n, r.ne, fun h => r.ox (hm _ h), fun h => r.or (hm _ h), r.nx, r.nr, fun t => (r.rows t).keep f (hR t), fun t b hb => by
    obtain ⟨q1, q⟩ := r.offs t b hb
    exact ⟨fun h => q1 (hm b h), q⟩⟩
theorem RS.tidy {v : Value} (r : RS H0 H bc xb rb M size R N) (r' : RS H0 H' bc xb rb M' size R' N') (u : UpG H bc rb H') :
    ∃ H2, Eng.tidy H (v, H') = (v, H2) ∧ RS H0 H2 bc xb rb M' size R' N' ∧ UpG H bc rb H2 := by
  unfold Eng.tidy
  split
  · rename_i hg
    simp only [Bool.and_eq_true] at hg
    have hsame : ∀ b, b < H.n → H'.f b = H.f b := fun b hb => by
      rcases u.fr.old b hb with h | ⟨h, _⟩
      · exact h.2
      · have h1 := List.all_eq_true.1 hg.2 b (by simpa using hb)
        have h2 := r.fr.ok b
        have h3 : H'.ver b = H.ver b := by simpa using h1
        omega
    have hRR : R' = R := by
      have h1 := r'.m
      rw [hsame rb r.rn, r.m] at h1
      exact (entsR_inj (Blk.map.inj h1)).symm
    subst hRR
    refine ⟨H, rfl, ⟨⟨r.fr.still, r.fr.ok, ?_, r.fr.new, r'.fr.srt, r'.fr.len, r'.fr.vok⟩, r.f, r.m, r.xn, r.rn, r.ne, r.ox, r.or, r.nx, r.nr, fun s => (r'.rows s).back (fun b hb => (r.rows s).lt hb) hsame, r.offs⟩, UpG.refl H bc rb⟩
    obtain ⟨v0, k1, k2, k3, k4⟩ := r.fr.mdl
    obtain ⟨v1, h1, h2, h3, h4⟩ := r'.fr.mdl
    rw [hsame bc k2, k1] at h1
    cases h1
    exact ⟨v0, k1, k2, Own.back h3 (fun b hb => k3.blk hb) hsame, k4⟩
  · exact ⟨H', rfl, r', u⟩
end

end Go.Proofs.YtlfpjndbpclnnaaGreatDoor

/-
  Chapter 47: the law's give.
  Conditions: none. By an AI agent.
-/
set_option maxRecDepth 10000
set_option linter.unusedSimpArgs false
set_option linter.unusedVariables false
namespace Go.Proofs.YtlfpjndbpclnnaaGreatDoor
open Go Eng

section
variable {H0 H H2 : AHeap} {bc xb rb : Nat} {M : List Pr} {size : Int} {R : Re} {N : ByteArray → List Int}
/-- Something else turns, and then the row of one name is another one. -/
theorem RS.put2 {S : Nat → Prop} (r : RS H0 H bc xb rb M size R N) (s : ByteArray) (f0 : Fr S H H2) (hS : ∀ b, S b → ¬ MB H bc b ∧ b ≠ xb ∧ b ≠ rb ∧ H0.n ≤ b) (hR : ∀ t, s ≠ t → Off S (atR R t)) {v : Value} {l : List Int} (hv : IR H2 v l) (ho : ∀ b, blockOf v = some b → ¬ MB H2 bc b ∧ b ≠ xb ∧ b ≠ rb ∧ H0.n ≤ b) :
    RS H0 (H2.set rb (.map (entsR (Eng.putE R s v)))) bc xb rb M size (Eng.putE R s v) (fun t => if s = t then l else N t) ∧ Fr (fun b => S b ∨ b = rb) H (H2.set rb (.map (entsR (Eng.putE R s v)))) ∧ (∀ c, MB (H2.set rb (.map (entsR (Eng.putE R s v)))) bc c → MB H bc c) := by
  have h1 : ∀ c, MB H bc c → ¬ S c := fun c hc h => (hS c h).1 hc
  have hm := (mb_same r.fr.mdl f0 h1).2
  have fr2 := r.fr.by f0 h1 fun b hb h => by have := (hS b h).2.2.2; omega
  have f : Fr (fun b => b = rb) H2 (H2.set rb (.map (entsR (Eng.putE R s v)))) := Fr.set (Fr.refl H2) _ _ fun _ => rfl
  have hS2 : ∀ c, MB H2 bc c → ¬ c = rb := fun c hc h => r.or (h ▸ hm c hc)
  have hm2 := (mb_same fr2.mdl f hS2).2
  have hxs : ¬ S xb := fun h => (hS _ h).2.1 rfl
  refine ⟨⟨fr2.by f hS2 fun b hb h => by have := r.nr; omega, by rw [H2.set_other _ r.ne, f0.f r.xn hxs]; exact r.f, set_f_eq, Nat.lt_of_lt_of_le r.xn f0.n, Nat.lt_of_lt_of_le r.rn f0.n, r.ne, fun h => r.ox (hm _ (hm2 _ h)), fun h => r.or (hm _ (hm2 _ h)), r.nx, r.nr, fun t => ?_, fun t b hb => ?_⟩, (f0.mono fun _ _ h => .inl h).then f fun b hb h => .inr h, fun c hc => hm c (hm2 c hc)⟩
  · rw [atR_put]
    by_cases h : s = t
    · rw [if_pos h, if_pos h]
      exact hv.keep f fun b hb h => (ho b hb).2.2.1 h
    · rw [if_neg h, if_neg h]
      exact ((r.rows t).keep f0 (hR t h)).keep f fun b hb h => (r.offs t b hb).2.2.1 h
  · rw [atR_put] at hb
    by_cases h : s = t
    · rw [if_pos h] at hb
      obtain ⟨q1, q⟩ := ho b hb
      exact ⟨fun h => q1 (hm2 b h), q⟩
    · rw [if_neg h] at hb
      obtain ⟨q1, q⟩ := r.offs t b hb
      exact ⟨fun h => q1 (hm b (hm2 b h)), q⟩
end

theorem nums_snoc (x : Int) (n : Nat) : nums (x, (n : Int)) ++ [x + (n : Int)] = nums (x, ((n + 1 : Nat) : Int)) := by
  unfold nums
  simp only [Int.toNat_natCast]
  rw [List.range_succ, List.map_append]
  rfl
theorem nums_nonnil (x : Int) (n : Nat) : nums (x, ((n + 1 : Nat) : Int)) ≠ [] := by
  rw [← nums_snoc]; simp
theorem intLit (x : Int) (H : AHeap) : Rd EI (H.push (.cells [.int .i64 x] T.int true)) (.slice (some ⟨H.n, 0, none⟩) 1 2) [x] :=
  .inr (.inr ⟨H.n, 0, 2, rfl, by simp, Nat.lt_succ_self _, by rw [push_f_eq rfl]; rfl⟩)

set_option maxHeartbeats 1000000 in
theorem l_gv0 {H0 Hz : AHeap} {bc xb rb tb : Nat} {M : List Pr} {size : Int} {N : ByteArray → List Int} (s : ByteArray) (fm : Int) (nn : Nat) (hfm : 0 ≤ fm ∧ fm ≤ 1099511627776) (hnn : nn ≤ 1000) (htb : tb < Hz.n) (htr : tb ≠ rb) (hz0 : H0.n ≤ Hz.n) (hzx : xb < Hz.n) (hzr : rb < Hz.n) (hzm : ∀ c, MB Hz bc c → c < Hz.n) :
    ∀ (m i : Nat) (H : AHeap) (R : Re), i + m = nn → RS H0 H bc xb rb M size R (fun t => if s = t then nums (fm, (i : Int)) else N t) → Own EI H T.int (atR R s) (nums (fm, (i : Int))) → (∀ b, blockOf (atR R s) = some b → Hz.n ≤ b) → (∀ t, s ≠ t → ∀ b, blockOf (atR R t) = some b → b < Hz.n) → H.f tb = .cells [.int .i64 fm, .int .i64 (nn : Int)] T.api_Block true → UpG Hz bc rb H → (∀ c, MB H bc c → MB Hz bc c) →
    ∃ H' R', RS H0 H' bc xb rb M size R' (fun t => if s = t then nums (fm, (nn : Int)) else N t) ∧ (∀ b, blockOf (atR R' s) = some b → Hz.n ≤ b) ∧ (∀ t, s ≠ t → atR R' t = atR R t) ∧ UpG Hz bc rb H' ∧ (∀ c, MB H' bc c → MB Hz bc c) ∧
      ∀ K : K, l_law_Giver_give_0 (.pointer (some ⟨xb, 0, none⟩)) (.string s) (.pointer (some ⟨tb, 0, none⟩)) (.int .i64 (i : Int)) H (blkK [0, 2] 0 K) = K .normal [(0, .pointer (some ⟨xb, 0, none⟩)), (2, .string s)] H'
  | 0, i, H, R, him, r, ho, hb, hoth, ht, u, hmm => by
    obtain rfl : i = nn := by omega
    have hlt : ¬ (i : Int) < (i : Int) := by omega
    refine ⟨H, R, r, hb, fun _ _ => rfl, u, hmm, fun K => ?_⟩
    rw [r_law_Giver_give_0]
    simp (disch := first | with_reducible rfl | assumption | omega | rfl | (simp only [go_sem]; first | done | omega)) only [go_sem, ↓reduceIte, reduceCtorEq, Nat.reduceEqDiff, Nat.reduceAdd, Nat.reduceSub, Nat.reduceMul, Nat.reduceDiv, Nat.reduceMod, Nat.reduceLeDiff, Nat.reduceLT, Nat.reduceBEq, Int.reduceEq, Int.reduceBEq, Int.reduceBNe, Int.reduceLT, Int.reduceLE, Int.reduceAdd, Int.reduceSub, Int.reduceNeg, Int.reduceToNat, Int.reducePow, Nat.reducePow, Int.reduceMul, Int.reduceDiv, ↓s_law_Giver_give_b0, ht, hlt]
  | m + 1, i, H, R, him, r, ho, hb, hoth, ht, u, hmm => by
    have hlt : (i : Int) < (nn : Int) := by omega
    have hzn := u.fr.n
    have f := r.f
    have lk := lookR r.m s
    obtain ⟨H1, hH1⟩ : ∃ H1, H.push (.cells [.int .i64 (fm + (i : Int))] T.int true) = H1 := ⟨_, rfl⟩
    have s1 : Still H H1 := by rw [← hH1]; exact (Fr.refl H).push _
    have n1 : H1.n = H.n + 1 := by rw [← hH1]; rfl
    have lit := intLit (fm + (i : Int)) H
    rw [hH1] at lit
    have hlen := nums_len (fm, (i : Int))
    obtain ⟨v', H2, ap, o2, fr2, bk2⟩ := (ho.still s1).appA [fm + (i : Int)] (sz := 1) (bytes := 8) rfl (by simp [hlen]; omega) (by simp [hlen]; omega) (lit.src (sz := 1) rfl)
    rw [nums_snoc] at o2
    have hbv : ∀ b, blockOf v' = some b → Hz.n ≤ b := fun b h => by
      rcases bk2 with h' | h'
      · rw [h'] at h; exact hb b h
      · rw [h'] at h; cases h; omega
    have r1 := r.still s1
    have fo : Fr (OnlyOf (atR R s)) H1 H2 := fr2
    have hmm1 : ∀ c, MB H1 bc c → MB Hz bc c := fun c hc => hmm c (MBT_still r.fr.mdl s1 hc)
    have hSo : ∀ b, OnlyOf (atR R s) b → ¬ MB H1 bc b ∧ b ≠ xb ∧ b ≠ rb ∧ H0.n ≤ b := fun b h => r1.offs s b h
    have hRo : ∀ t, s ≠ t → Off (OnlyOf (atR R s)) (atR R t) := fun t hts b hbt h => by
      have h1 := hoth t hts b hbt
      have h2 := hb b h
      omega
    have hm2 : ∀ c, MB H2 bc c → MB H1 bc c := (mb_same r1.fr.mdl fo fun c hc h => (hSo c h).1 hc).2
    have hir : IR H2 v' (nums (fm, ((i + 1 : Nat) : Int))) := .inr ⟨nums_nonnil fm i, o2⟩
    obtain ⟨r3, f3, m3⟩ := r1.put2 s fo hSo hRo hir fun b hbb => by
      have h1 := hbv b hbb
      exact ⟨fun h => by have := hzm b (hmm1 b (hm2 b h)); omega, by omega, by omega, by omega⟩
    have up := updR (H := H2) (rb := rb) (R := R) (by rw [fo.f r1.rn fun h => (hSo _ h).2.2.1 rfl]; exact r1.m) s v'
    obtain ⟨H3, hH3⟩ : ∃ H3, H2.set rb (.map (entsR (Eng.putE R s v'))) = H3 := ⟨_, rfl⟩
    rw [hH3] at r3 f3 m3 up
    have hat : atR (Eng.putE R s v') s = v' := by rw [atR_put, if_pos rfl]
    have o3 : Own EI H3 T.int (atR (Eng.putE R s v') s) (nums (fm, ((i + 1 : Nat) : Int))) := by
      rw [hat]
      refine o2.keep (S := fun b => b = rb) (by rw [← hH3]; exact Fr.set (Fr.refl H2) _ _ fun _ => rfl) fun b hbb h => ?_
      have := hbv b hbb
      omega
    have ht3 : H3.f tb = .cells [.int .i64 fm, .int .i64 (nn : Int)] T.api_Block true := by
      rw [← hH3, H2.set_other _ htr, fo.f (by omega) fun h => by have := hb tb h; omega, s1.f (by omega) fun h => h]
      exact ht
    have u3 : UpG Hz bc rb H3 := ⟨(u.fr.then s1 fun _ _ h => h.elim).then f3 fun b hbb h => by
      rcases h with h | h
      · have := hb b h; omega
      · exact .inr h, fun c hc => .inl (hmm1 c (m3 c hc))⟩
    have hoth3 : ∀ t, s ≠ t → ∀ b, blockOf (atR (Eng.putE R s v') t) = some b → b < Hz.n := fun t hts b hbb => by
      rw [atR_put, if_neg hts] at hbb
      exact hoth t hts b hbb
    have r3 : RS H0 H3 bc xb rb M size (Eng.putE R s v') (fun t => if s = t then nums (fm, ((i + 1 : Nat) : Int)) else N t) := by
      have e : (fun t => if s = t then nums (fm, ((i + 1 : Nat) : Int)) else if s = t then nums (fm, (i : Int)) else N t) = (fun t => if s = t then nums (fm, ((i + 1 : Nat) : Int)) else N t) := by
        funext t; split <;> rfl
      rw [e] at r3
      exact r3
    obtain ⟨H', R', q1, q2, q3, q4, q5, ih⟩ := l_gv0 s fm nn hfm hnn htb htr hz0 hzx hzr hzm m (i + 1) H3 (Eng.putE R s v') (by omega) r3 o3 (by rw [hat]; exact hbv) hoth3 ht3 u3 (fun c hc => hmm1 c (m3 c hc))
    have nn1 : H1.n ≤ H2.n ∨ H2.n ≤ H2.n := .inr (Nat.le_refl _)
    have ck0 : okV (some true) none H1 H2 H H = true := okV_none (.inr (by omega))
    have ck1 : okV (some true) (some xb) H1 H2 H H = true := okV_some (.inr (fo.ver r1.xn fun h => (hSo _ h).2.1 rfl)) (.inr (by omega))
    refine ⟨H', R', q1, q2, fun t hts => (q3 t hts).trans (by rw [atR_put, if_neg hts]), q4, q5, fun K => ?_⟩
    have ih := ih K
    rw [Int.natCast_add] at ih
    rw [← ih, r_law_Giver_give_0]
    simp (disch := first | with_reducible rfl | assumption | omega | rfl | (simp only [go_sem]; first | done | omega)) only [go_sem, ↓reduceIte, reduceCtorEq, Nat.reduceEqDiff, Nat.reduceAdd, Nat.reduceSub, Nat.reduceMul, Nat.reduceDiv, Nat.reduceMod, Nat.reduceLeDiff, Nat.reduceLT, Nat.reduceBEq, Int.reduceEq, Int.reduceBEq, Int.reduceBNe, Int.reduceLT, Int.reduceLE, Int.reduceAdd, Int.reduceSub, Int.reduceNeg, Int.reduceToNat, Int.reducePow, Nat.reducePow, Int.reduceMul, Int.reduceDiv, ↓s_law_Giver_give_b0, ht, hlt, f, lk, hH1, ap, up, ck0, ck1]

end Go.Proofs.YtlfpjndbpclnnaaGreatDoor

/-
  Chapter 47: the law's give, whole.
  Conditions: none. By an AI agent.
-/
set_option maxRecDepth 10000
set_option linter.unusedSimpArgs false
set_option linter.unusedVariables false
namespace Go.Proofs.YtlfpjndbpclnnaaGreatDoor
open Go Eng

theorem atB_set (E : Be) (k s : ByteArray) (a : Int × Int) : nums (atB (setB E k a) s) = if k = s then nums a else nums (atB E s) := by
  unfold setB
  split
  · rename_i h
    rw [atB_del]
    split
    · obtain ⟨x, y⟩ := a
      simp only at h
      subst h
      rfl
    · rfl
  · rw [atB_put]
    split <;> rfl

theorem rd_int {H : AHeap} {v : Value} {l : List Int} (hr : Rd EI H v l) {i : Nat} (hi : i < l.length) : ∃ b o, ixS 1 v (.int .i64 (i : Int)) = some (.pointer (some ⟨b, o, none⟩)) ∧ cellB (H.f b) o = some (.int .i64 l[i]) := by
  obtain ⟨b, o, ix, _, hc, _⟩ := hr.ix (q := .i64) hi
  exact ⟨b, o, ix, cutB_cell hc (i := 0) (by decide)⟩

/-- The rows of the one are rows of the other, or new. -/
def RN (R R' : Re) (H : AHeap) : Prop := ∀ t b, blockOf (atR R' t) = some b → blockOf (atR R t) = some b ∨ H.n ≤ b
theorem RN.refl (R : Re) (H : AHeap) : RN R R H := fun _ _ h => .inl h

/-- All but the first number, in a row of its own. -/
theorem ir_tail {H : AHeap} {v : Value} {x : Int} {t : List Int} (h : IR H v (x :: t)) (hl : t.length ≤ 1000000) :
    ∃ w v' H1, slS T.int 1 v (some (.int .i64 1)) none none H = some w ∧ Eng.app T.int 1 8 (.slice none 0 0) (srcS 1 w H) H = some (v', H1) ∧ IR H1 v' t ∧ Still H H1 ∧ ∀ b, blockOf v' = some b → H.n ≤ b := by
  rcases h with ⟨h, _⟩ | ⟨_, h⟩
  · cases h
  · obtain ⟨w, hw, ow, _⟩ := h.drop (sz := 1) rfl (i := 1) (by simp) (q := .i64)
    have ow : Own EI H T.int w t := ow
    have src := ow.rd.src (sz := 1) rfl
    cases t with
    | nil => exact ⟨w, .slice none 0 0, H, hw, by rw [src]; rfl, .inl ⟨rfl, rfl⟩, Fr.refl H, fun b hb => by cases hb⟩
    | cons y t =>
      have on : Own EI H T.int (.slice none 0 0) [] := .inl ⟨rfl, rfl⟩
      obtain ⟨v', H1, ap, o1, fr1, bk1⟩ := on.appA (y :: t) (sz := 1) (bytes := 8) rfl (by simp at hl ⊢; omega) (by simp at hl ⊢; omega) src
      refine ⟨w, v', H1, hw, ap, .inr ⟨by simp, o1⟩, fr1.mono fun b _ h => ?_, fun b hb => ?_⟩
      · cases h
      · rcases bk1 with h | h
        · rw [h] at hb; cases hb
        · rw [h] at hb; cases hb; exact Nat.le_refl _

theorem RS.tail {H0 H : AHeap} {bc xb rb : Nat} {M : List Pr} {size : Int} {R : Re} {N : ByteArray → List Int} (r : RS H0 H bc xb rb M size R N) {s : ByteArray} {x : Int} {t : List Int} (h : N s = x :: t) (hl : t.length ≤ 1000000) :
    ∃ b o w v H1 H2, ixS 1 (atR R s) (.int .i64 0) = some (.pointer (some ⟨b, o, none⟩)) ∧ cellB (H.f b) o = some (.int .i64 x) ∧ slS T.int 1 (atR R s) (some (.int .i64 1)) none none H = some w ∧ Eng.app T.int 1 8 (.slice none 0 0) (srcS 1 w H) H = some (v, H1) ∧
      xmapUpdate Tryz.prog T.map_string_int (.map (some rb)) (.string s) v H1 = some H2 ∧ okV (some true) none H H1 H H = true ∧ okV (some true) (some xb) H H1 H H = true ∧
      RS H0 H2 bc xb rb M size (Eng.putE R s v) (fun u => if s = u then t else N u) ∧ UpG H bc rb H2 ∧ (∀ b, blockOf v = some b → H.n ≤ b) := by
  have hr := r.rows s
  rw [h] at hr
  obtain ⟨b, o, ix, c0⟩ := rd_int (i := 0) hr.rd (by simp)
  obtain ⟨w, v, H1, k1, k2, k3, s1, k5⟩ := ir_tail hr hl
  have h0n := r.fr.still.n
  have hxn := r.xn
  have hrn := r.rn
  obtain ⟨r2, f2, m2⟩ := r.put2 s s1 (fun _ h => h.elim) (fun _ _ _ _ h => h) k3 fun b hb => by
    have := k5 b hb
    exact ⟨fun h => by have := r.fr.mdl.blk (MBT_still r.fr.mdl s1 h); omega, by omega, by omega, by omega⟩
  have up := updR (H := H1) (rb := rb) (R := R) (by rw [s1.f r.rn fun h => h]; exact r.m) s v
  exact ⟨b, o, w, v, H1, _, ix, c0, k1, k2, up, okV_none (.inl (Nat.le_refl _)), okV_some (.inr (s1.ver r.xn fun h => h)) (.inl (Nat.le_refl _)), r2, ⟨f2.mono fun _ _ h => by
    rcases h with h | h
    · exact h.elim
    · exact .inr h, fun c hc => .inl (m2 c hc)⟩, k5⟩

end Go.Proofs.YtlfpjndbpclnnaaGreatDoor

/-
  Chapter 47: the law's give, whole.
  Conditions: none. By an AI agent.
-/
set_option maxRecDepth 10000
set_option linter.unusedSimpArgs false
set_option linter.unusedVariables false
namespace Go.Proofs.YtlfpjndbpclnnaaGreatDoor
open Go Eng

theorem tk_n {M : List Pr} {s : ByteArray} {n : Int} (h : (tk M s n).2.1 = 0) : (tk M s n).1.2 = n ∧ 1 ≤ n ∧ n ≤ 1000 := by
  unfold tk at h ⊢
  split
  · rename_i h1; rw [if_pos h1] at h; exact absurd h (show ¬ (2 : Int) = 0 by decide)
  · rename_i h1
    rw [if_neg h1] at h
    split
    · rename_i h2; rw [if_pos h2] at h; exact absurd h h2
    · rename_i h2
      rw [if_neg h2] at h
      split
      · rename_i h3; rw [if_pos h3] at h; exact absurd h (show ¬ (17 : Int) = 0 by decide)
      · exact ⟨rfl, by omega, by omega⟩

/-- The rows of a giver are short. -/
def ESh (E : Be) : Prop := ∀ s, (atB E s).2 ≤ 1000

theorem RS.cong {H0 H : AHeap} {bc xb rb : Nat} {M : List Pr} {size : Int} {R : Re} {N N' : ByteArray → List Int} (r : RS H0 H bc xb rb M size R N) (h : ∀ s, N s = N' s) : RS H0 H bc xb rb M size R N' := by
  have : N = N' := funext h
  rw [← this]; exact r

set_option maxHeartbeats 2000000 in
theorem q_lgive {H0 H : AHeap} {bc xb rb : Nat} {M : List Pr} {size : Int} {R : Re} {E : Be} (r : RS H0 H bc xb rb M size R (fun s => nums (atB E s))) (hE : EOk E) (hS : ESh E) (hM : M.length < 20000) (s : ByteArray) :
    ∃ H' R', CC F.law_Giver_give [.pointer (some ⟨xb, 0, none⟩), .pointer (some ⟨bc, 0, none⟩), .string s] H = some (.tuple #[.int .i64 (gvR M E s size).1.1, .int .i64 (gvR M E s size).1.2], H') ∧
      RS H0 H' bc xb rb (gvR M E s size).2.1 size R' (fun t => nums (atB (gvR M E s size).2.2 t)) ∧ UpG H bc rb H' ∧ RN R R' H := by
  have m1 := q_lnext bc M s H r.fr.mdl r.fr.srt r.fr.len r.fr.vok
  have f := r.f
  have lk := lookR r.m s
  have hlen := (r.rows s).rd.lenS
  obtain ⟨b0, b1, b2⟩ := hE s
  have b3 := hS s
  have hset : ∀ a t, nums (atB (setB E s a) t) = if s = t then nums a else nums (atB E t) := fun a t => atB_set E s t a
  unfold nxtV at m1
  unfold gvR
  generalize hxy : atB E s = a at hlen b0 b1 b2 b3 ⊢
  obtain ⟨x, y⟩ := a
  simp only at hlen b0 b1 b2 b3 ⊢
  by_cases he : (nxt M s).2 = 0
  · rw [if_neg (by simpa using he)]
    rw [he] at m1
    by_cases hy : y = 0
    · subst hy
      rw [if_pos rfl]
      have hlen : lenS (atR R s) = some (.int .i64 0) := hlen
      obtain ⟨H1, m3, fr1, u1⟩ := q_ltake bc M s size H r.fr hM
      obtain ⟨t0, t1, t2, t3⟩ := tk_bound M s size
      have tn := tk_n (M := M) (s := s) (n := size)
      unfold tkV at m3
      generalize tk M s size = t at m3 fr1 t0 t1 t2 t3 tn ⊢
      obtain ⟨⟨fm, nn⟩, er, M'⟩ := t
      simp only at m3 fr1 t0 t1 t2 t3 tn ⊢
      have r1 := r.map fr1 u1
      have ug1 : UpG H bc rb H1 := UpG.of_up u1
      obtain ⟨H2, hH2⟩ : ∃ H2, H1.push (.cells [.int .i64 0, .int .i64 0] T.api_Block true) = H2 := ⟨_, rfl⟩
      obtain ⟨s2, n2, f2⟩ := newBlk 0 0 hH2
      obtain ⟨H3, hH3⟩ : ∃ H3, H2.set H1.n (.cells [.int .i64 fm, .int .i64 nn] T.api_Block true) = H3 := ⟨_, rfl⟩
      have f3 : H3.f H1.n = .cells [.int .i64 fm, .int .i64 nn] T.api_Block true := by rw [← hH3]; exact set_f_eq
      have s3 : Still H1 H3 := by rw [← hH3]; exact Fr.set s2 _ _ fun h => by omega
      have n3 : H3.n = H1.n + 1 := by rw [← hH3]; exact n2
      have r3 := r1.still s3
      have ug3 : UpG H bc rb H3 := ⟨ug1.fr.then s3 fun _ _ h => h.elim, fun c hc => ug1.mb c (MBT_still r1.fr.mdl s3 hc)⟩
      have rn1 := r1.rn
      have xn1 := r1.xn
      by_cases her : er = 0
      · subst her
        rw [if_neg (by simp)]
        obtain ⟨tn1, tn2, tn3⟩ := tn rfl
        obtain ⟨k, hk⟩ : ∃ k : Nat, nn = (k : Int) := ⟨nn.toNat, by omega⟩
        subst hk
        have hnil : atR R s = .slice none 0 0 := by
          rcases r.rows s with h | ⟨h, _⟩
          · exact h.2
          · rw [hxy] at h; exact absurd rfl h
        have h0n := r.fr.still.n
        have hn1 := u1.fr.n
        obtain ⟨H4, R4, r4, _, hR4, ug4, _, hloop⟩ := l_gv0 (H0 := H0) (Hz := H3) (bc := bc) (xb := xb) (rb := rb) (tb := H1.n) (M := M') (size := size) (N := fun s => nums (atB E s)) s fm k ⟨t0, by omega⟩ (by omega) (by omega) (by omega) (by omega) r3.xn r3.rn (fun c hc => r3.fr.mdl.blk hc) k 0 H3 R (by omega)
          (r3.cong fun t => by
            split
            · rename_i h; rw [← h, hxy]; rfl
            · rfl) (by rw [hnil]; exact .inl ⟨rfl, rfl⟩) (by rw [hnil]; intro b hb; cases hb) (fun t _ b hb => (r3.rows t).lt hb) f3 (UpG.refl H3 bc rb) (fun c hc => hc)
        have ug5 := ug3.trans ug4
        have hN : (fun t => if s = t then nums (fm, (k : Int)) else nums (atB E t)) s = fm :: nums (fm + 1, (k : Int) - 1) := by
          show (if s = s then _ else _) = _
          rw [if_pos rfl]
          exact nums_cons (by omega)
        obtain ⟨b, o, w, v, H5, H6, ix, c0, sl, ap, up, ck0, ck1, r6, ug6, kv⟩ := r4.tail hN (by rw [nums_len]; simp only; omega)
        have f4 := r4.f
        have lk4 := lookR r4.m s
        have hloop : ∀ K : K, l_law_Giver_give_0 (.pointer (some ⟨xb, 0, none⟩)) (.string s) (.pointer (some ⟨H1.n, 0, none⟩)) (.int .i64 0) H3 (blkK [0, 2] 0 K) = K .normal [(0, .pointer (some ⟨xb, 0, none⟩)), (2, .string s)] H4 := hloop
        have r7 : RS H0 H6 bc xb rb M' size (Eng.putE R4 s v) (fun t => nums (atB (setB E s (fm + 1, (k : Int) - 1)) t)) := r6.cong fun t => by
          rw [hset]
          split <;> rfl
        obtain ⟨H7, k1, k2, k3⟩ := r.tidy (v := .tuple #[.int .i64 fm, .int .i64 0]) r7 (ug5.trans ug6)
        refine ⟨H7, _, (d_law_Giver_give _ _ _ H (r := (.tuple #[.int .i64 fm, .int .i64 0], H6)) ?_).trans (congrArg some k1), k2, k3, fun t b hb => by
          have hn4 := ug5.fr.n
          rw [atR_put] at hb
          by_cases hst : s = t
          · rw [if_pos hst] at hb
            exact .inr (Nat.le_trans hn4 (kv b hb))
          · rw [if_neg hst, hR4 t hst] at hb
            exact .inl hb⟩
        simp (disch := first | with_reducible rfl | assumption | omega | rfl | (simp only [go_sem]; first | done | omega)) only [go_sem, ↓reduceIte, reduceCtorEq, Nat.reduceEqDiff, Nat.reduceAdd, Nat.reduceSub, Nat.reduceMul, Nat.reduceDiv, Nat.reduceMod, Nat.reduceLeDiff, Nat.reduceLT, Nat.reduceBEq, Int.reduceEq, Int.reduceBEq, Int.reduceBNe, Int.reduceLT, Int.reduceLE, Int.reduceAdd, Int.reduceSub, Int.reduceNeg, Int.reduceToNat, Int.reducePow, Nat.reducePow, Int.reduceMul, Int.reduceDiv, ↓s_law_Giver_give, ↓enterK_eq m1, enterK_eq m1, f, lk, hlen, ↓enterK_eq m3, enterK_eq m3, hH2, f2, hH3, f3, hloop, f4, lk4, ix, c0, sl, ap, up, ck0, ck1]
      · rw [if_pos her]
        rw [t3 her] at r3
        obtain ⟨H6, k1, k2, k3⟩ := r.tidy (v := .tuple #[.int .i64 0, .int .i64 er]) r3 ug3
        refine ⟨H6, _, (d_law_Giver_give _ _ _ H (r := (.tuple #[.int .i64 0, .int .i64 er], H3)) ?_).trans (congrArg some k1), k2, k3, RN.refl R H⟩
        simp (disch := first | with_reducible rfl | assumption | omega | rfl | (simp only [go_sem]; first | done | omega)) only [go_sem, ↓reduceIte, reduceCtorEq, Nat.reduceEqDiff, Nat.reduceAdd, Nat.reduceSub, Nat.reduceMul, Nat.reduceDiv, Nat.reduceMod, Nat.reduceLeDiff, Nat.reduceLT, Nat.reduceBEq, Int.reduceEq, Int.reduceBEq, Int.reduceBNe, Int.reduceLT, Int.reduceLE, Int.reduceAdd, Int.reduceSub, Int.reduceNeg, Int.reduceToNat, Int.reducePow, Nat.reducePow, Int.reduceMul, Int.reduceDiv, ↓s_law_Giver_give, ↓enterK_eq m1, enterK_eq m1, f, lk, hlen, ↓enterK_eq m3, enterK_eq m3, hH2, f2, hH3, f3, her]
    · rw [if_neg hy]
      have hyz : ¬ ((nums (x, y)).length : Int) = 0 := by rw [nums_len]; simp only; omega
      have hN : (fun s => nums (atB E s)) s = x :: nums (x + 1, y - 1) := by
        show nums (atB E s) = _
        rw [hxy]
        exact nums_cons (by omega)
      obtain ⟨b, o, w, v, H5, H6, ix, c0, sl, ap, up, ck0, ck1, r6, ug6, kv⟩ := r.tail hN (by rw [nums_len]; simp only; omega)
      have r7 : RS H0 H6 bc xb rb M size (Eng.putE R s v) (fun t => nums (atB (setB E s (x + 1, y - 1)) t)) := r6.cong fun t => by
        rw [hset]
      obtain ⟨H7, k1, k2, k3⟩ := r.tidy (v := .tuple #[.int .i64 x, .int .i64 0]) r7 ug6
      refine ⟨H7, _, (d_law_Giver_give _ _ _ H (r := (.tuple #[.int .i64 x, .int .i64 0], H6)) ?_).trans (congrArg some k1), k2, k3, fun t b hb => by
        rw [atR_put] at hb
        by_cases hst : s = t
        · rw [if_pos hst] at hb
          exact .inr (kv b hb)
        · rw [if_neg hst] at hb
          exact .inl hb⟩
      simp (disch := first | with_reducible rfl | assumption | omega | rfl | (simp only [go_sem]; first | done | omega)) only [go_sem, ↓reduceIte, reduceCtorEq, Nat.reduceEqDiff, Nat.reduceAdd, Nat.reduceSub, Nat.reduceMul, Nat.reduceDiv, Nat.reduceMod, Nat.reduceLeDiff, Nat.reduceLT, Nat.reduceBEq, Int.reduceEq, Int.reduceBEq, Int.reduceBNe, Int.reduceLT, Int.reduceLE, Int.reduceAdd, Int.reduceSub, Int.reduceNeg, Int.reduceToNat, Int.reducePow, Nat.reducePow, Int.reduceMul, Int.reduceDiv, ↓s_law_Giver_give, ↓enterK_eq m1, enterK_eq m1, f, lk, hlen, hyz, ix, c0, sl, ap, up, ck0, ck1]
  · rw [if_pos he]
    refine ⟨H, R, ?_, r, UpG.refl H bc rb, RN.refl R H⟩
    apply pure_of _ (d_law_Giver_give _ _ _ H) rfl
    rotate_left 2
    · simp (disch := first | with_reducible rfl | assumption | omega | rfl | (simp only [go_sem]; first | done | omega)) only [go_sem, ↓reduceIte, reduceCtorEq, Nat.reduceEqDiff, Nat.reduceAdd, Nat.reduceSub, Nat.reduceMul, Nat.reduceDiv, Nat.reduceMod, Nat.reduceLeDiff, Nat.reduceLT, Nat.reduceBEq, Int.reduceEq, Int.reduceBEq, Int.reduceBNe, Int.reduceLT, Int.reduceLE, Int.reduceAdd, Int.reduceSub, Int.reduceNeg, Int.reduceToNat, Int.reducePow, Nat.reducePow, Int.reduceMul, Int.reduceDiv, ↓s_law_Giver_give, ↓enterK_eq m1, enterK_eq m1, he]
      rfl
    · (repeat (first | exact Fr.refl _ | refine Fr.push ?_ _ | refine Fr.set ?_ _ _ (by intro h; first | omega | (simp only [go_sem] at h; omega))))

end Go.Proofs.YtlfpjndbpclnnaaGreatDoor

/-
  Chapter 47: the law's back.
  Conditions: none. By an AI agent.
-/
set_option maxRecDepth 10000
set_option linter.unusedSimpArgs false
set_option linter.unusedVariables false
namespace Go.Proofs.YtlfpjndbpclnnaaGreatDoor
open Go Eng

/-- The names of which the law returns numbers, or the error. -/
def retsL (M : List Pr) (E : Be) : List ByteArray → List ByteArray → Int × List ByteArray
  | [], acc => (0, acc)
  | s :: t, acc => if (atB E s).2 = 0 then retsL M E t acc else if (nxt M s).2 ≠ 0 then ((nxt M s).2, []) else retsL M E t (if (atB E s).1 + (atB E s).2 = (nxt M s).1 then acc ++ [s] else acc)

theorem RS.upg {H0 H H' : AHeap} {bc xb rb : Nat} {M : List Pr} {size : Int} {R : Re} {N : ByteArray → List Int} (r : RS H0 H bc xb rb M size R N) (f : Fr (fun b => b = rb) H H') : UpG H bc rb H' :=
  ⟨f.mono fun _ _ h => .inr h, fun c hc => .inl ((mb_same r.fr.mdl f fun c hc h => r.or (h ▸ hc)).2 c hc)⟩
theorem RS.last {H0 H : AHeap} {bc xb rb : Nat} {M : List Pr} {size : Int} {R : Re} {N : ByteArray → List Int} (r : RS H0 H bc xb rb M size R N) {s : ByteArray} {x y : Int} (h : N s = nums (x, y)) (hy : 1 ≤ y) :
    lenS (atR R s) = some (.int .i64 y) ∧ (∃ b o, ixS 1 (atR R s) (.int .i64 (y - 1)) = some (.pointer (some ⟨b, o, none⟩)) ∧ cellB (H.f b) o = some (.int .i64 (x + y - 1))) ∧ (∃ b o, ixS 1 (atR R s) (.int .i64 0) = some (.pointer (some ⟨b, o, none⟩)) ∧ cellB (H.f b) o = some (.int .i64 x)) := by
  have hr := (r.rows s).rd
  rw [h] at hr
  have hl := nums_len (x, y)
  have e1 : ((nums (x, y)).length : Int) = y := by rw [hl]; simp only; omega
  have e2 : ((y - 1).toNat : Int) = y - 1 := by omega
  have h1 := hr.lenS
  rw [e1] at h1
  obtain ⟨b, o, ix, c⟩ := rd_int (i := (y - 1).toNat) hr (by rw [hl]; simp only; omega)
  obtain ⟨b', o', ix', c'⟩ := rd_int (i := 0) hr (by rw [hl]; simp only; omega)
  rw [e2] at ix
  have g1 : (nums (x, y))[(y - 1).toNat]'(by rw [hl]; simp only; omega) = x + y - 1 := by
    unfold nums
    simp only [List.getElem_map, List.getElem_range]
    omega
  have g2 : (nums (x, y))[0]'(by rw [hl]; simp only; omega) = x := by
    unfold nums
    simp only [List.getElem_map, List.getElem_range]
    omega
  rw [g1] at c
  rw [g2] at c'
  exact ⟨h1, ⟨b, o, ix, c⟩, ⟨b', o', ix', c'⟩⟩

set_option maxHeartbeats 1000000 in
theorem l_lb0 {H0 Hz : AHeap} {bc xb rb : Nat} {M : List Pr} {size : Int} {R : Re} {E : Be} (r : RS H0 Hz bc xb rb M size R (fun s => nums (atB E s))) (hE : EOk E) (hS : ESh E) (v2 : Value) (ks : List ByteArray) (hr : Rd EStr Hz v2 ks) (hks : ks.length ≤ 1000000) : ∀ (t : List ByteArray) (i : Nat) (H : AHeap) (out : Value) (acc : List ByteArray), ks.drop i = t → Still Hz H → Own EStr H T.string out acc → (∀ d, blockOf out = some d → Hz.n ≤ d) → acc.length ≤ i → i ≤ ks.length →
    ((retsL M E t acc).1 ≠ 0 → ∃ H', Still Hz H' ∧ ∀ K : K, l_law_Giver_back_0 (.pointer (some ⟨xb, 0, none⟩)) (.pointer (some ⟨bc, 0, none⟩)) v2 out (.int .i64 (i : Int)) H (blkK [0, 1, 8] 0 K) = K .ret [(6, .int .i64 0), (7, .int .i64 (retsL M E t acc).1)] H') ∧
    ((retsL M E t acc).1 = 0 → ∃ out' H', Still Hz H' ∧ Own EStr H' T.string out' (retsL M E t acc).2 ∧ (∀ d, blockOf out' = some d → Hz.n ≤ d) ∧ (retsL M E t acc).2.length ≤ ks.length ∧ ∀ K : K, l_law_Giver_back_0 (.pointer (some ⟨xb, 0, none⟩)) (.pointer (some ⟨bc, 0, none⟩)) v2 out (.int .i64 (i : Int)) H (blkK [0, 1, 8] 0 K) = K .normal [(0, .pointer (some ⟨xb, 0, none⟩)), (1, .pointer (some ⟨bc, 0, none⟩)), (8, out')] H')
  | [], i, H, out, acc, hx, st, ho, hob, ha, hik => by
    have h : ks.length ≤ i := List.drop_eq_nil_iff.1 hx
    have hlt : ¬ (i : Int) < (ks.length : Int) := by omega
    have hlen := hr.lenS
    refine ⟨fun h => absurd rfl h, fun _ => ⟨out, H, st, ho, hob, ?_, fun K => ?_⟩⟩
    · show acc.length ≤ ks.length; omega
    · rw [r_law_Giver_back_0]
      simp (disch := first | with_reducible rfl | assumption | omega | rfl | (simp only [go_sem]; first | done | omega)) only [go_sem, ↓reduceIte, reduceCtorEq, Nat.reduceEqDiff, Nat.reduceAdd, Nat.reduceSub, Nat.reduceMul, Nat.reduceDiv, Nat.reduceMod, Nat.reduceLeDiff, Nat.reduceLT, Nat.reduceBEq, Int.reduceEq, Int.reduceBEq, Int.reduceBNe, Int.reduceLT, Int.reduceLE, Int.reduceAdd, Int.reduceSub, Int.reduceNeg, Int.reduceToNat, Int.reducePow, Nat.reducePow, Int.reduceMul, Int.reduceDiv, ↓s_law_Giver_back_b0, hlen, hlt]
  | s :: t, i, H, out, acc, hx, st, ho, hob, ha, hik => by
    obtain ⟨hi, hxa, hx'⟩ := drop_cons hx
    have hlt : (i : Int) < (ks.length : Int) := by omega
    have hlen := hr.lenS
    obtain ⟨b1, o1, ix, c0⟩ := rd_str (hr.still st) hi
    rw [hxa] at c0
    have r1 := r.still st
    have m2 := q_lnext bc M s H r1.fr.mdl r1.fr.srt r1.fr.len r1.fr.vok
    have f := r1.f
    have lk := lookR r1.m s
    obtain ⟨e0, e1, e2⟩ := hE s
    have e3 := hS s
    unfold nxtV at m2
    rw [retsL]
    generalize hxy : atB E s = a at e0 e1 e2 e3 ⊢
    obtain ⟨x, y⟩ := a
    simp only at e0 e1 e2 e3 ⊢
    have hNs : (fun s => nums (atB E s)) s = nums (x, y) := by show nums (atB E s) = _; rw [hxy]
    by_cases hy : y = 0
    · subst hy
      rw [if_pos rfl]
      have hl0 : lenS (atR R s) = some (.int .i64 0) := by
        have := (r1.rows s).rd.lenS
        rw [hxy] at this
        exact this
      obtain ⟨k1, k2⟩ := l_lb0 r hE hS v2 ks hr hks t (i + 1) H out acc hx' st ho hob (by omega) (by omega)
      rw [Int.natCast_add] at k1 k2
      refine ⟨fun h => ?_, fun h => ?_⟩
      · obtain ⟨H', q1, ih⟩ := k1 h
        refine ⟨H', q1, fun K => ?_⟩
        rw [← ih K, r_law_Giver_back_0]
        simp (disch := first | with_reducible rfl | assumption | omega | rfl | (simp only [go_sem]; first | done | omega)) only [go_sem, ↓reduceIte, reduceCtorEq, Nat.reduceEqDiff, Nat.reduceAdd, Nat.reduceSub, Nat.reduceMul, Nat.reduceDiv, Nat.reduceMod, Nat.reduceLeDiff, Nat.reduceLT, Nat.reduceBEq, Int.reduceEq, Int.reduceBEq, Int.reduceBNe, Int.reduceLT, Int.reduceLE, Int.reduceAdd, Int.reduceSub, Int.reduceNeg, Int.reduceToNat, Int.reducePow, Nat.reducePow, Int.reduceMul, Int.reduceDiv, ↓s_law_Giver_back_b0, hlen, hlt, ix, c0, f, lk, hl0]
      · obtain ⟨out', H', q1, q2, q3, q4, ih⟩ := k2 h
        refine ⟨out', H', q1, q2, q3, q4, fun K => ?_⟩
        rw [← ih K, r_law_Giver_back_0]
        simp (disch := first | with_reducible rfl | assumption | omega | rfl | (simp only [go_sem]; first | done | omega)) only [go_sem, ↓reduceIte, reduceCtorEq, Nat.reduceEqDiff, Nat.reduceAdd, Nat.reduceSub, Nat.reduceMul, Nat.reduceDiv, Nat.reduceMod, Nat.reduceLeDiff, Nat.reduceLT, Nat.reduceBEq, Int.reduceEq, Int.reduceBEq, Int.reduceBNe, Int.reduceLT, Int.reduceLE, Int.reduceAdd, Int.reduceSub, Int.reduceNeg, Int.reduceToNat, Int.reducePow, Nat.reducePow, Int.reduceMul, Int.reduceDiv, ↓s_law_Giver_back_b0, hlen, hlt, ix, c0, f, lk, hl0]
    · rw [if_neg hy]
      obtain ⟨hl0, ⟨bb, oo, jx, cx⟩, _⟩ := r1.last hNs (by omega)
      by_cases he : (nxt M s).2 = 0
      · rw [if_neg (by simpa using he)]
        rw [he] at m2
        generalize (nxt M s).1 = nx at m2 ⊢
        have hzn := st.n
        obtain ⟨z, hz⟩ : ∃ z, z = x + y - 1 := ⟨_, rfl⟩
        rw [← hz] at cx
        by_cases hq : x + y = nx
        · rw [if_pos hq]
          have hq' : z + 1 = nx := by omega
          obtain ⟨H3, hH3⟩ : ∃ H3, H.push (.cells [.string s] T.string true) = H3 := ⟨_, rfl⟩
          have s3 : Still H H3 := by rw [← hH3]; exact (Fr.refl H).push _
          have hlit := strLit s H
          rw [hH3] at hlit
          obtain ⟨out1, H4, ap, o4, fr4, bk4⟩ := (ho.still s3).appA [s] (sz := 1) (bytes := 16) rfl (by simp; omega) (by simp; omega) (hlit.src (sz := 1) rfl)
          have st4 : Still Hz H4 := (st.then s3 fun _ _ h => h).still.then fr4 fun d hd h => by have := hob d h; omega
          have n23 := s3.n
          have hob4 : ∀ d, blockOf out1 = some d → Hz.n ≤ d := fun d hd => by
            rcases bk4 with h | h
            · rw [h] at hd; exact hob d hd
            · rw [h] at hd; cases hd; omega
          obtain ⟨k1, k2⟩ := l_lb0 r hE hS v2 ks hr hks t (i + 1) H4 out1 (acc ++ [s]) hx' st4 o4 hob4 (by simp; omega) (by omega)
          rw [Int.natCast_add] at k1 k2
          refine ⟨fun h => ?_, fun h => ?_⟩
          · obtain ⟨H', q1, ih⟩ := k1 h
            refine ⟨H', q1, fun K => ?_⟩
            rw [← ih K, r_law_Giver_back_0]
            simp (disch := first | with_reducible rfl | assumption | omega | rfl | (simp only [go_sem]; first | done | omega)) only [go_sem, ↓reduceIte, reduceCtorEq, Nat.reduceEqDiff, Nat.reduceAdd, Nat.reduceSub, Nat.reduceMul, Nat.reduceDiv, Nat.reduceMod, Nat.reduceLeDiff, Nat.reduceLT, Nat.reduceBEq, Int.reduceEq, Int.reduceBEq, Int.reduceBNe, Int.reduceLT, Int.reduceLE, Int.reduceAdd, Int.reduceSub, Int.reduceNeg, Int.reduceToNat, Int.reducePow, Nat.reducePow, Int.reduceMul, Int.reduceDiv, ↓s_law_Giver_back_b0, hlen, hlt, ix, c0, f, lk, hl0, hy, ↓enterK_eq m2, enterK_eq m2, jx, cx, hq', hH3, ap]
          · obtain ⟨out', H', q1, q2, q3, q4, ih⟩ := k2 h
            refine ⟨out', H', q1, q2, q3, q4, fun K => ?_⟩
            rw [← ih K, r_law_Giver_back_0]
            simp (disch := first | with_reducible rfl | assumption | omega | rfl | (simp only [go_sem]; first | done | omega)) only [go_sem, ↓reduceIte, reduceCtorEq, Nat.reduceEqDiff, Nat.reduceAdd, Nat.reduceSub, Nat.reduceMul, Nat.reduceDiv, Nat.reduceMod, Nat.reduceLeDiff, Nat.reduceLT, Nat.reduceBEq, Int.reduceEq, Int.reduceBEq, Int.reduceBNe, Int.reduceLT, Int.reduceLE, Int.reduceAdd, Int.reduceSub, Int.reduceNeg, Int.reduceToNat, Int.reducePow, Nat.reducePow, Int.reduceMul, Int.reduceDiv, ↓s_law_Giver_back_b0, hlen, hlt, ix, c0, f, lk, hl0, hy, ↓enterK_eq m2, enterK_eq m2, jx, cx, hq', hH3, ap]
        · rw [if_neg hq]
          have hq' : ¬ z + 1 = nx := by omega
          obtain ⟨k1, k2⟩ := l_lb0 r hE hS v2 ks hr hks t (i + 1) H out acc hx' st ho hob (by omega) (by omega)
          rw [Int.natCast_add] at k1 k2
          refine ⟨fun h => ?_, fun h => ?_⟩
          · obtain ⟨H', q1, ih⟩ := k1 h
            refine ⟨H', q1, fun K => ?_⟩
            rw [← ih K, r_law_Giver_back_0]
            simp (disch := first | with_reducible rfl | assumption | omega | rfl | (simp only [go_sem]; first | done | omega)) only [go_sem, ↓reduceIte, reduceCtorEq, Nat.reduceEqDiff, Nat.reduceAdd, Nat.reduceSub, Nat.reduceMul, Nat.reduceDiv, Nat.reduceMod, Nat.reduceLeDiff, Nat.reduceLT, Nat.reduceBEq, Int.reduceEq, Int.reduceBEq, Int.reduceBNe, Int.reduceLT, Int.reduceLE, Int.reduceAdd, Int.reduceSub, Int.reduceNeg, Int.reduceToNat, Int.reducePow, Nat.reducePow, Int.reduceMul, Int.reduceDiv, ↓s_law_Giver_back_b0, hlen, hlt, ix, c0, f, lk, hl0, hy, ↓enterK_eq m2, enterK_eq m2, jx, cx, hq']
          · obtain ⟨out', H', q1, q2, q3, q4, ih⟩ := k2 h
            refine ⟨out', H', q1, q2, q3, q4, fun K => ?_⟩
            rw [← ih K, r_law_Giver_back_0]
            simp (disch := first | with_reducible rfl | assumption | omega | rfl | (simp only [go_sem]; first | done | omega)) only [go_sem, ↓reduceIte, reduceCtorEq, Nat.reduceEqDiff, Nat.reduceAdd, Nat.reduceSub, Nat.reduceMul, Nat.reduceDiv, Nat.reduceMod, Nat.reduceLeDiff, Nat.reduceLT, Nat.reduceBEq, Int.reduceEq, Int.reduceBEq, Int.reduceBNe, Int.reduceLT, Int.reduceLE, Int.reduceAdd, Int.reduceSub, Int.reduceNeg, Int.reduceToNat, Int.reducePow, Nat.reducePow, Int.reduceMul, Int.reduceDiv, ↓s_law_Giver_back_b0, hlen, hlt, ix, c0, f, lk, hl0, hy, ↓enterK_eq m2, enterK_eq m2, jx, cx, hq']
      · rw [if_pos he]
        refine ⟨fun _ => ⟨H, st, fun K => ?_⟩, fun h => absurd h he⟩
        rw [r_law_Giver_back_0]
        simp (disch := first | with_reducible rfl | assumption | omega | rfl | (simp only [go_sem]; first | done | omega)) only [go_sem, ↓reduceIte, reduceCtorEq, Nat.reduceEqDiff, Nat.reduceAdd, Nat.reduceSub, Nat.reduceMul, Nat.reduceDiv, Nat.reduceMod, Nat.reduceLeDiff, Nat.reduceLT, Nat.reduceBEq, Int.reduceEq, Int.reduceBEq, Int.reduceBNe, Int.reduceLT, Int.reduceLE, Int.reduceAdd, Int.reduceSub, Int.reduceNeg, Int.reduceToNat, Int.reducePow, Nat.reducePow, Int.reduceMul, Int.reduceDiv, ↓s_law_Giver_back_b0, hlen, hlt, ix, c0, f, lk, hl0, hy, ↓enterK_eq m2, enterK_eq m2, he]

set_option maxHeartbeats 1000000 in
theorem l_lb1 {H0 Hz : AHeap} {bc xb rb : Nat} {size : Int} (v : Value) (ns : List ByteArray) (hr : Rd EStr Hz v ns) (hns : ns.length ≤ 1000000) (hoff : ∀ b, blockOf v = some b → ¬ MB Hz bc b ∧ b ≠ rb ∧ b < Hz.n) : ∀ (t : List ByteArray) (i : Nat) (H : AHeap) (M : List Pr) (R : Re) (E : Be), ns.drop i = t → RS H0 H bc xb rb M size R (fun s => nums (atB E s)) → EOk E → ESh E → UpG Hz bc rb H → t.Nodup → (∀ s, s ∈ t → (atB E s).2 ≠ 0) →
    ∃ H' R', RS H0 H' bc xb rb (backM t M E).1 size R' (fun s => nums (atB (backM t M E).2 s)) ∧ UpG Hz bc rb H' ∧ (∀ u b, blockOf (atR R' u) = some b → blockOf (atR R u) = some b) ∧ ∀ K : K, l_law_Giver_back_1 (.pointer (some ⟨xb, 0, none⟩)) (.pointer (some ⟨bc, 0, none⟩)) v (.int .i64 (i : Int)) H (blkK [8] 2 K) = K .normal [(8, v)] H'
  | [], i, H, M, R, E, hx, r, hE, hS, u, nd, ne => by
    have h : ns.length ≤ i := List.drop_eq_nil_iff.1 hx
    have hlt : ¬ (i : Int) < (ns.length : Int) := by omega
    have hlen := hr.lenS
    refine ⟨H, R, r, u, fun _ _ h => h, fun K => ?_⟩
    rw [r_law_Giver_back_1]
    simp (disch := first | with_reducible rfl | assumption | omega | rfl | (simp only [go_sem]; first | done | omega)) only [go_sem, ↓reduceIte, reduceCtorEq, Nat.reduceEqDiff, Nat.reduceAdd, Nat.reduceSub, Nat.reduceMul, Nat.reduceDiv, Nat.reduceMod, Nat.reduceLeDiff, Nat.reduceLT, Nat.reduceBEq, Int.reduceEq, Int.reduceBEq, Int.reduceBNe, Int.reduceLT, Int.reduceLE, Int.reduceAdd, Int.reduceSub, Int.reduceNeg, Int.reduceToNat, Int.reducePow, Nat.reducePow, Int.reduceMul, Int.reduceDiv, ↓s_law_Giver_back_b1, hlen, hlt]
  | s :: t, i, H, M, R, E, hx, r, hE, hS, u, nd, ne => by
    obtain ⟨hi, hxa, hx'⟩ := drop_cons hx
    have hlt : (i : Int) < (ns.length : Int) := by omega
    have hlen := hr.lenS
    have hrk := hr.keep u.fr fun b hb h => by
      obtain ⟨q1, q2⟩ := hoff b hb
      rcases h with h | h
      · exact q1 h
      · exact q2.1 h
    obtain ⟨b1, o1, ix, c0⟩ := rd_str hrk hi
    rw [hxa] at c0
    have f := r.f
    have lk := lookR r.m s
    obtain ⟨e0, e1, e2⟩ := hE s
    have ney := ne s (List.mem_cons_self ..)
    obtain ⟨_, _, ⟨bb, oo, jx, cx⟩⟩ := r.last (s := s) (x := (atB E s).1) (y := (atB E s).2) rfl (by omega)
    have mi := q_dec (atB E s).1.toNat H (by omega)
    have hti : ((atB E s).1.toNat : Int) = (atB E s).1 := by omega
    have hit : decF 20 (atB E s).1.toNat = itoaS (atB E s).1 := by unfold itoaS; rw [if_neg (by omega)]
    rw [hti, hit] at mi
    obtain ⟨H1, m1, fr1, u1⟩ := r.fr.putU ⟨s, mk (itoaS (atB E s).1)⟩
    have r1 := r.map fr1 u1
    have f1 := r1.f
    have ck0 : okV (some true) none H H1 H H = true := okV_none (.inl (Nat.le_refl _))
    have ck1 : okV (some true) (some xb) H H1 H H = true := okV_some (.inr (u1.fr.ver r.xn r.ox)) (.inl (Nat.le_refl _))
    obtain ⟨r2, f2⟩ := r1.put s (v := .slice none 0 0) (l := []) (.inl ⟨rfl, rfl⟩) fun b hb => by cases hb
    have up := updR r1.m s (.slice none 0 0)
    have hrk1 := hrk.keep u1.fr fun b hb h => by
      rcases u.mb b h with h | h
      · exact (hoff b hb).1 h
      · have := (hoff b hb).2.2
        omega
    obtain ⟨b2, o2, ix2, c2⟩ := rd_str hrk1 hi
    rw [hxa] at c2
    rw [ix] at ix2
    cases ix2
    obtain ⟨H2, hH2⟩ : ∃ H2, H1.set rb (.map (entsR (Eng.putE R s (.slice none 0 0)))) = H2 := ⟨_, rfl⟩
    rw [hH2] at r2 f2 up
    have u2 := (u.trans (UpG.of_up (mb := rb) u1)).trans (r1.upg f2)
    have hS' : ESh (Eng.delE E s) := fun k => by
      rw [atB_del]
      split
      · exact (by decide : (0 : Int) ≤ 1000)
      · exact hS k
    obtain ⟨nd1, nd2⟩ := List.nodup_cons.1 nd
    obtain ⟨H', R', q1, q2, q3, ih⟩ := l_lb1 v ns hr hns hoff t (i + 1) H2 _ _ (Eng.delE E s) hx' (r2.cong fun k => by
      rw [atB_del]
      split <;> rfl) (hE.del s) hS' u2 nd2 fun k hk => by
        have hsk : ¬ s = k := fun h => nd1 (h ▸ hk)
        rw [atB_del, if_neg hsk]
        exact ne k (List.mem_cons_of_mem _ hk)
    refine ⟨H', R', q1, q2, fun k b hb => ?_, fun K => ?_⟩
    · have hb := q3 k b hb
      rw [atR_put] at hb
      split at hb
      · cases hb
      · exact hb
    have ih := ih K
    rw [Int.natCast_add] at ih
    rw [← ih, r_law_Giver_back_1]
    simp (disch := first | with_reducible rfl | assumption | omega | rfl | (simp only [go_sem]; first | done | omega)) only [go_sem, ↓reduceIte, reduceCtorEq, Nat.reduceEqDiff, Nat.reduceAdd, Nat.reduceSub, Nat.reduceMul, Nat.reduceDiv, Nat.reduceMod, Nat.reduceLeDiff, Nat.reduceLT, Nat.reduceBEq, Int.reduceEq, Int.reduceBEq, Int.reduceBNe, Int.reduceLT, Int.reduceLE, Int.reduceAdd, Int.reduceSub, Int.reduceNeg, Int.reduceToNat, Int.reducePow, Nat.reducePow, Int.reduceMul, Int.reduceDiv, ↓s_law_Giver_back_b1, hlen, hlt, ix, c0, f, lk, jx, cx, ↓enterK_eq mi, enterK_eq mi, ↓enterK_eq m1, enterK_eq m1, ck0, ck1, f1, c2, up]

/-- What the law's back answers, and what is left. -/
def retLR (M : List Pr) (E : Be) (all : List ByteArray) : (Int × Int) × List Pr × Be :=
  if (retsL M E all []).1 ≠ 0 then ((0, (retsL M E all []).1), M, E) else ((((retsL M E all []).2.length : Nat), 0), backM (retsL M E all []).2 M E)
theorem retsL_sub {M : List Pr} {E : Be} : ∀ (t acc : List ByteArray), (retsL M E t acc).1 = 0 → ∃ u, (retsL M E t acc).2 = acc ++ u ∧ u.Sublist t ∧ ∀ s, s ∈ u → (atB E s).2 ≠ 0
  | [], acc, _ => ⟨[], by simp [retsL], List.Sublist.slnil, fun _ h => by cases h⟩
  | s :: t, acc, h => by
    rw [retsL] at h ⊢
    by_cases hy : (atB E s).2 = 0
    · rw [if_pos hy] at h ⊢
      obtain ⟨u, h1, h2, h3⟩ := retsL_sub t acc h
      exact ⟨u, h1, h2.cons s, h3⟩
    · rw [if_neg hy] at h ⊢
      by_cases he : (nxt M s).2 = 0
      · rw [if_neg (by simpa using he)] at h ⊢
        obtain ⟨u, h1, h2, h3⟩ := retsL_sub t _ h
        by_cases hq : (atB E s).1 + (atB E s).2 = (nxt M s).1
        · rw [if_pos hq] at h1
          refine ⟨s :: u, ?_, h2.cons_cons s, fun k hk => ?_⟩
          · rw [if_pos hq, h1]; simp
          · rcases List.mem_cons.1 hk with rfl | hk
            · exact hy
            · exact h3 k hk
        · rw [if_neg hq] at h1
          refine ⟨u, ?_, h2.cons s, h3⟩
          rw [if_neg hq, h1]
      · rw [if_pos he] at h
        exact absurd h he

set_option maxHeartbeats 1000000 in
theorem q_lback {H0 H : AHeap} {bc xb rb : Nat} {M : List Pr} {size : Int} {R : Re} {E : Be} (r : RS H0 H bc xb rb M size R (fun s => nums (atB E s))) (hE : EOk E) (hS : ESh E) (va : Value) (all : List ByteArray) (ha : Rd EStr H va all) (hl : all.length ≤ 1000000) (nd : all.Nodup) :
    ∃ H' R', CC F.law_Giver_back [.pointer (some ⟨xb, 0, none⟩), .pointer (some ⟨bc, 0, none⟩), va] H = some (.tuple #[.int .i64 (retLR M E all).1.1, .int .i64 (retLR M E all).1.2], H') ∧
      RS H0 H' bc xb rb (retLR M E all).2.1 size R' (fun t => nums (atB (retLR M E all).2.2 t)) ∧ UpG H bc rb H' ∧ RN R R' H := by
  obtain ⟨k1, k2⟩ := l_lb0 r hE hS va all ha hl all 0 H (.slice none 0 0) [] rfl (Fr.refl H) Eng.Own.nil (fun d h => by cases h) (by simp) (by simp)
  have hsub := retsL_sub (M := M) (E := E) all []
  unfold retLR
  generalize retsL M E all [] = r0 at k1 k2 hsub ⊢
  obtain ⟨er, out⟩ := r0
  simp only at k1 k2 hsub ⊢
  by_cases he : er = 0
  · obtain ⟨out', H3, st3, o3, bk3, hl3, hloop⟩ := k2 he
    obtain ⟨u, hu, hu2, hu3⟩ := hsub he
    have hu : out = u := hu
    subst hu
    have hloop : ∀ K : K, l_law_Giver_back_0 (.pointer (some ⟨xb, 0, none⟩)) (.pointer (some ⟨bc, 0, none⟩)) va (.slice none 0 0) (.int .i64 0) H (blkK [0, 1, 8] 0 K) = K .normal [(0, .pointer (some ⟨xb, 0, none⟩)), (1, .pointer (some ⟨bc, 0, none⟩)), (8, out')] H3 := hloop
    rw [if_neg (by simpa using he)]
    have r3 := r.still st3
    have hlo := o3.rd.lenS
    have hrn := r.rn
    obtain ⟨H4, R4, r4, u4, hR4, hl1⟩ := l_lb1 (rb := rb) out' out o3.rd (by omega) (fun b hb => by
      have h1 := bk3 b hb
      exact ⟨fun h => by have := r.fr.mdl.blk (MBT_still r.fr.mdl st3 h); omega, by omega, o3.blk hb⟩) out 0 H3 M R E rfl r3 hE hS (UpG.refl H3 bc rb) (hu2.nodup nd) hu3
    have hl1 : ∀ K : K, l_law_Giver_back_1 (.pointer (some ⟨xb, 0, none⟩)) (.pointer (some ⟨bc, 0, none⟩)) out' (.int .i64 0) H3 (blkK [8] 2 K) = K .normal [(8, out')] H4 := hl1
    have ug : UpG H bc rb H4 := ⟨((UpG.refl H bc rb).fr.then st3 fun _ _ h => h.elim).then u4.fr fun b hb h => by
      rcases h with h | h
      · exact .inl (MBT_still r.fr.mdl st3 h)
      · exact .inr h, fun c hc => by
      rcases u4.mb c hc with h | h
      · exact .inl (MBT_still r.fr.mdl st3 h)
      · exact .inr (Nat.le_trans st3.n h)⟩
    obtain ⟨H5, q1, q2, q3⟩ := r.tidy (v := .tuple #[.int .i64 (out.length : Int), .int .i64 0]) r4 ug
    refine ⟨H5, R4, (d_law_Giver_back _ _ _ H (r := (.tuple #[.int .i64 (out.length : Int), .int .i64 0], H4)) ?_).trans (congrArg some q1), q2, q3, fun t b hb => .inl (hR4 t b hb)⟩
    simp (disch := first | with_reducible rfl | assumption | omega | rfl | (simp only [go_sem]; first | done | omega)) only [go_sem, ↓reduceIte, reduceCtorEq, Nat.reduceEqDiff, Nat.reduceAdd, Nat.reduceSub, Nat.reduceMul, Nat.reduceDiv, Nat.reduceMod, Nat.reduceLeDiff, Nat.reduceLT, Nat.reduceBEq, Int.reduceEq, Int.reduceBEq, Int.reduceBNe, Int.reduceLT, Int.reduceLE, Int.reduceAdd, Int.reduceSub, Int.reduceNeg, Int.reduceToNat, Int.reducePow, Nat.reducePow, Int.reduceMul, Int.reduceDiv, ↓s_law_Giver_back, hloop, hlo, hl1]
  · obtain ⟨H3, st3, hloop⟩ := k1 he
    have hloop : ∀ K : K, l_law_Giver_back_0 (.pointer (some ⟨xb, 0, none⟩)) (.pointer (some ⟨bc, 0, none⟩)) va (.slice none 0 0) (.int .i64 0) H (blkK [0, 1, 8] 0 K) = K .ret [(6, .int .i64 0), (7, .int .i64 er)] H3 := hloop
    rw [if_pos he]
    refine ⟨H, R, ?_, r, UpG.refl H bc rb, RN.refl R H⟩
    apply pure_of _ (d_law_Giver_back _ _ _ H) rfl
    rotate_left 2
    · simp (disch := first | with_reducible rfl | assumption | omega | rfl | (simp only [go_sem]; first | done | omega)) only [go_sem, ↓reduceIte, reduceCtorEq, Nat.reduceEqDiff, Nat.reduceAdd, Nat.reduceSub, Nat.reduceMul, Nat.reduceDiv, Nat.reduceMod, Nat.reduceLeDiff, Nat.reduceLT, Nat.reduceBEq, Int.reduceEq, Int.reduceBEq, Int.reduceBNe, Int.reduceLT, Int.reduceLE, Int.reduceAdd, Int.reduceSub, Int.reduceNeg, Int.reduceToNat, Int.reducePow, Nat.reducePow, Int.reduceMul, Int.reduceDiv, ↓s_law_Giver_back, hloop]
      rfl
    · exact st3

end Go.Proofs.YtlfpjndbpclnnaaGreatDoor

/-
  Chapter 47: alike.
  Conditions: none. By an AI agent.
-/
set_option maxRecDepth 10000
set_option linter.unusedSimpArgs false
set_option linter.unusedVariables false
namespace Go.Proofs.YtlfpjndbpclnnaaGreatDoor
open Go Eng

/-- A name without numbers has no block. -/
def EZ (E : Be) : Prop := ∀ s, (atB E s).2 = 0 → (atB E s).1 = 0
theorem RS.len {H0 H : AHeap} {bc xb rb : Nat} {M : List Pr} {size : Int} {R : Re} {N : ByteArray → List Int} (r : RS H0 H bc xb rb M size R N) {s : ByteArray} {x y : Int} (h : N s = nums (x, y)) (hy : 0 ≤ y) : lenS (atR R s) = some (.int .i64 y) := by
  have hr := (r.rows s).rd.lenS
  rw [h] at hr
  have e1 : ((nums (x, y)).length : Int) = y := by rw [nums_len]; simp only; omega
  rw [e1] at hr
  exact hr

set_option maxHeartbeats 1000000 in
theorem l_al0 {H0 Hz : AHeap} {bc xb rb gb mb : Nat} {M : List Pr} {size size' : Int} {R : Re} {E : Be} (r : RS H0 Hz bc xb rb M size R (fun s => nums (atB E s))) (g : Gv Hz gb mb size' E) (hE : EOk E) (hS : ESh E) (hZ : EZ E) (v2 : Value) (ks : List ByteArray) (hr : Rd EStr Hz v2 ks) (hks : ks.length ≤ 1000000) : ∀ (t : List ByteArray) (i : Nat) (H : AHeap), ks.drop i = t → Still Hz H →
    ∃ H', Still Hz H' ∧ ∀ K : K, l_law_alike_0 (.pointer (some ⟨gb, 0, none⟩)) (.pointer (some ⟨xb, 0, none⟩)) v2 (.int .i64 (i : Int)) H (blkK [0] 0 K) = K .normal [(0, .pointer (some ⟨gb, 0, none⟩))] H'
  | [], i, H, hx, st => by
    have h : ks.length ≤ i := List.drop_eq_nil_iff.1 hx
    have hlt : ¬ (i : Int) < (ks.length : Int) := by omega
    have hlen := hr.lenS
    refine ⟨H, st, fun K => ?_⟩
    rw [r_law_alike_0]
    simp (disch := first | with_reducible rfl | assumption | omega | rfl | (simp only [go_sem]; first | done | omega)) only [go_sem, ↓reduceIte, reduceCtorEq, Nat.reduceEqDiff, Nat.reduceAdd, Nat.reduceSub, Nat.reduceMul, Nat.reduceDiv, Nat.reduceMod, Nat.reduceLeDiff, Nat.reduceLT, Nat.reduceBEq, Int.reduceEq, Int.reduceBEq, Int.reduceBNe, Int.reduceLT, Int.reduceLE, Int.reduceAdd, Int.reduceSub, Int.reduceNeg, Int.reduceToNat, Int.reducePow, Nat.reducePow, Int.reduceMul, Int.reduceDiv, ↓s_law_alike_b0, hlen, hlt]
  | s :: t, i, H, hx, st => by
    obtain ⟨hi, hxa, hx'⟩ := drop_cons hx
    have hlt : (i : Int) < (ks.length : Int) := by omega
    have hlen := hr.lenS
    obtain ⟨b1, o1, ix, c0⟩ := rd_str (hr.still st) hi
    rw [hxa] at c0
    have r1 := r.still st
    have f := r1.f
    have lk := lookR r1.m s
    obtain ⟨e0, e1, e2⟩ := hE s
    have e3 := hS s
    have e4 := hZ s
    have ql : ∀ {H'}, Gv H' gb mb size' E → CC F.ids_Giver_Left [.pointer (some ⟨gb, 0, none⟩), .string s] H' = some (.agg #[.int .i64 (atB E s).1, .int .i64 (atB E s).2], H') := fun g' => q_Left g' s
    generalize hxy : atB E s = a at e0 e1 e2 e3 e4 ql ⊢
    obtain ⟨x, y⟩ := a
    simp only at e0 e1 e2 e3 e4 ql ⊢
    have hNs : (fun s => nums (atB E s)) s = nums (x, y) := by show nums (atB E s) = _; rw [hxy]
    have hl0 := r1.len hNs e1
    obtain ⟨H1, hH1⟩ : ∃ H1, H.push (.cells [.int .i64 0, .int .i64 0] T.api_Block true) = H1 := ⟨_, rfl⟩
    obtain ⟨s1, n1, f1⟩ := newBlk 0 0 hH1
    obtain ⟨H2, hH2⟩ : ∃ H2, H1.set H.n (.cells [.int .i64 0, .int .i64 y] T.api_Block true) = H2 := ⟨_, rfl⟩
    have s2 : Still H H2 := by rw [← hH2]; exact Fr.set s1 _ _ fun h => by omega
    have f2 : H2.f H.n = .cells [.int .i64 0, .int .i64 y] T.api_Block true := by rw [← hH2]; exact set_f_eq
    have r2 := r1.still s2
    have ff2 := r2.f
    have lk2 := lookR r2.m s
    obtain ⟨b2, o2, ix2, c2⟩ := rd_str ((hr.still st).still s2) hi
    rw [hxa] at c2
    rw [ix] at ix2
    cases ix2
    by_cases hy : 0 < y
    · obtain ⟨_, _, ⟨bb, oo, jx, cx⟩⟩ := r2.last hNs (by omega)
      obtain ⟨H3, hH3⟩ : ∃ H3, H2.set H.n (.cells [.int .i64 x, .int .i64 y] T.api_Block true) = H3 := ⟨_, rfl⟩
      have s3 : Still H H3 := by rw [← hH3]; exact Fr.set s2 _ _ fun h => by omega
      have f3 : H3.f H.n = .cells [.int .i64 x, .int .i64 y] T.api_Block true := by rw [← hH3]; exact set_f_eq
      obtain ⟨b3, o3, ix3, c3⟩ := rd_str ((hr.still st).still s3) hi
      rw [hxa] at c3
      rw [ix] at ix3
      cases ix3
      have m := ql ((g.still st).still s3)
      have ck : okV (some true) (some H.n) H3 H3 H3 H3 = true := okV_some (.inr rfl) (.inl (Nat.le_refl _))
      obtain ⟨H', q1, ih⟩ := l_al0 r g hE hS hZ v2 ks hr hks t (i + 1) H3 hx' (st.then s3 fun _ _ h => h)
      refine ⟨H', q1, fun K => ?_⟩
      have ih := ih K
      rw [Int.natCast_add] at ih
      rw [← ih, r_law_alike_0]
      simp (disch := first | with_reducible rfl | assumption | omega | rfl | (simp only [go_sem]; first | done | omega)) only [go_sem, ↓reduceIte, reduceCtorEq, Nat.reduceEqDiff, Nat.reduceAdd, Nat.reduceSub, Nat.reduceMul, Nat.reduceDiv, Nat.reduceMod, Nat.reduceLeDiff, Nat.reduceLT, Nat.reduceBEq, Int.reduceEq, Int.reduceBEq, Int.reduceBNe, Int.reduceLT, Int.reduceLE, Int.reduceAdd, Int.reduceSub, Int.reduceNeg, Int.reduceToNat, Int.reducePow, Nat.reducePow, Int.reduceMul, Int.reduceDiv, ↓s_law_alike_b0, hlen, hlt, ix, c0, f, lk, hl0, hH1, f1, hH2, f2, hy, ff2, lk2, c2, jx, cx, hH3, f3, c3, ↓enterK_eq m, enterK_eq m, ck, blk_ne]
    · have hy0 : y = 0 := by omega
      have hx0 := e4 hy0
      subst hy0
      subst hx0
      have m := ql ((g.still st).still s2)
      have ck : okV (some true) (some H.n) H2 H2 H2 H2 = true := okV_some (.inr rfl) (.inl (Nat.le_refl _))
      obtain ⟨H', q1, ih⟩ := l_al0 r g hE hS hZ v2 ks hr hks t (i + 1) H2 hx' (st.then s2 fun _ _ h => h)
      refine ⟨H', q1, fun K => ?_⟩
      have ih := ih K
      rw [Int.natCast_add] at ih
      rw [← ih, r_law_alike_0]
      simp (disch := first | with_reducible rfl | assumption | omega | rfl | (simp only [go_sem]; first | done | omega)) only [go_sem, ↓reduceIte, reduceCtorEq, Nat.reduceEqDiff, Nat.reduceAdd, Nat.reduceSub, Nat.reduceMul, Nat.reduceDiv, Nat.reduceMod, Nat.reduceLeDiff, Nat.reduceLT, Nat.reduceBEq, Int.reduceEq, Int.reduceBEq, Int.reduceBNe, Int.reduceLT, Int.reduceLE, Int.reduceAdd, Int.reduceSub, Int.reduceNeg, Int.reduceToNat, Int.reducePow, Nat.reducePow, Int.reduceMul, Int.reduceDiv, ↓s_law_alike_b0, hlen, hlt, ix, c0, f, lk, hl0, hH1, f1, hH2, f2, c2, ↓enterK_eq m, enterK_eq m, ck, blk_ne]

theorem lkp_none {E : Be} : ∀ {s : ByteArray}, (∀ p ∈ E, p.1 ≠ s) → atB E s = (0, 0) := by
  intro s h
  unfold atB
  have : lkp E s = none := by
    induction E with
    | nil => rfl
    | cons p E ih =>
      have h1 := h p (List.mem_cons_self ..)
      have h2 : lkp E s = none := ih fun q hq => h q (List.mem_cons_of_mem _ hq)
      show (if s = p.1 then some p.2 else lkp E s) = none
      rw [if_neg fun e => h1 e.symm]
      exact h2
  rw [this]
  rfl
theorem atB_long {E : Be} (h : KeysOk E) {s : ByteArray} (hs : 24 < (bl s).length) : atB E s = (0, 0) := lkp_none fun p hp e => by
  have := h p hp
  rw [e] at this
  omega

theorem q_alike {H0 H : AHeap} {bc xb rb gb mb : Nat} {M : List Pr} {size size' : Int} {R : Re} {E : Be} (r : RS H0 H bc xb rb M size R (fun s => nums (atB E s))) (g : Gv H gb mb size' E) (hE : EOk E) (hS : ESh E) (hZ : EZ E) (hK : KeysOk E) (va : Value) (all : List ByteArray) (ha : Rd EStr H va all) (hl : all.length ≤ 1000000) :
    CC F.law_alike [.pointer (some ⟨gb, 0, none⟩), .pointer (some ⟨xb, 0, none⟩), va] H = some (.bool true, H) := by
  obtain ⟨H1, st, hloop⟩ := l_al0 r g hE hS hZ va all ha hl all 0 H rfl (Fr.refl H)
  have hloop : ∀ K : K, l_law_alike_0 (.pointer (some ⟨gb, 0, none⟩)) (.pointer (some ⟨xb, 0, none⟩)) va (.int .i64 0) H (blkK [0] 0 K) = K .normal [(0, .pointer (some ⟨gb, 0, none⟩))] H1 := hloop
  have m := q_Left (g.still st) (mk [110, 111, 32, 115, 117, 99, 104, 32, 110, 97, 109, 101, 44, 32, 97, 110, 100, 32, 116, 111, 111, 32, 108, 111, 110, 103, 32, 97, 32, 111, 110, 101])
  rw [atB_long hK (by rw [bl_mk]; decide)] at m
  apply pure_of _ (d_law_alike _ _ _ H) rfl
  rotate_left 2
  · simp (disch := first | with_reducible rfl | assumption | omega | rfl | (simp only [go_sem]; first | done | omega)) only [go_sem, ↓reduceIte, reduceCtorEq, Nat.reduceEqDiff, Nat.reduceAdd, Nat.reduceSub, Nat.reduceMul, Nat.reduceDiv, Nat.reduceMod, Nat.reduceLeDiff, Nat.reduceLT, Nat.reduceBEq, Int.reduceEq, Int.reduceBEq, Int.reduceBNe, Int.reduceLT, Int.reduceLE, Int.reduceAdd, Int.reduceSub, Int.reduceNeg, Int.reduceToNat, Int.reducePow, Nat.reducePow, Int.reduceMul, Int.reduceDiv, ↓s_law_alike, hloop, ↓enterK_eq m, enterK_eq m, blk_eq]
    rfl
  · exact st

end Go.Proofs.YtlfpjndbpclnnaaGreatDoor

/-
  Chapter 47: the names in order: what the giver's sorted keys are.
  Conditions: none. By an AI agent.
-/
set_option maxRecDepth 10000
set_option linter.unusedSimpArgs false
set_option linter.unusedVariables false
namespace Go.Proofs.YtlfpjndbpclnnaaGreatDoor
open Go Eng

theorem retsL_filter (M : List Pr) (E : Be) : ∀ (t acc : List ByteArray), retsL M E t acc = rets M E (t.filter fun s => decide ((atB E s).2 ≠ 0)) acc
  | [], acc => rfl
  | s :: t, acc => by
    rw [retsL]
    by_cases hy : (atB E s).2 = 0
    · rw [if_pos hy, retsL_filter M E t acc, List.filter_cons_of_neg (by simpa using hy)]
    · rw [if_neg hy, List.filter_cons_of_pos (by simpa using hy), rets]
      split
      · rfl
      · exact retsL_filter M E t _

def NmS (l : List ByteArray) : Prop := l.Pairwise fun a b => cmpS a b < 0
theorem insN_cons (a : ByteArray) (l : List ByteArray) (s : ByteArray) : insN (a :: l) s = if cmpS a s < 0 then a :: insN l s else if a = s then a :: l else s :: a :: l := by
  unfold insN
  rw [posK]
  by_cases h : cmpS a s < 0
  · rw [if_pos h, if_pos h]
    simp only [List.getElem?_cons_succ, List.take_succ_cons, List.drop_succ_cons]
    split <;> rfl
  · rw [if_neg h, if_neg h]
    simp only [List.getElem?_cons_zero, List.take_zero, List.drop_zero, Option.some.injEq, List.nil_append]
theorem mem_insN {s x : ByteArray} : ∀ {l : List ByteArray}, x ∈ insN l s ↔ x ∈ l ∨ x = s
  | [] => by
    show x ∈ (if ([] : List ByteArray)[0]? = some s then [] else [] ++ s :: []) ↔ _
    simp
  | a :: l => by
    rw [insN_cons]
    split
    · rw [List.mem_cons, mem_insN, List.mem_cons, or_assoc]
    · split
      · rename_i h
        subst h
        exact ⟨fun h => .inl h, fun h => h.elim (fun h => h) fun h => List.mem_cons.2 (.inl h)⟩
      · simp only [List.mem_cons]
        constructor
        · rintro (h | h | h)
          · exact .inr h
          · exact .inl (.inl h)
          · exact .inl (.inr h)
        · rintro ((h | h) | h)
          · exact .inr (.inl h)
          · exact .inr (.inr h)
          · exact .inl h
theorem insN_sorted {s : ByteArray} : ∀ {l : List ByteArray}, NmS l → NmS (insN l s)
  | [], _ => by
    show NmS (if ([] : List ByteArray)[0]? = some s then [] else [] ++ s :: [])
    simp [NmS]
  | a :: l, h => by
    obtain ⟨h1, h2⟩ := List.pairwise_cons.1 h
    rw [insN_cons]
    split
    · rename_i hlt
      refine List.pairwise_cons.2 ⟨fun x hx => ?_, insN_sorted h2⟩
      rcases mem_insN.1 hx with hx | rfl
      · exact h1 x hx
      · exact hlt
    · rename_i hlt
      split
      · exact h
      · rename_i hne
        have hsa : cmpS s a < 0 := by
          have h3 := cmpS_swap a s
          have h4 : cmpS a s ≠ 0 := fun h => hne (cmpS_eq.1 h)
          omega
        refine List.pairwise_cons.2 ⟨fun x hx => ?_, h⟩
        rcases List.mem_cons.1 hx with rfl | hx
        · exact hsa
        · exact cmpS_trans hsa (h1 x hx)
theorem foldN_sorted : ∀ (l : List Act) (m : List ByteArray), NmS m → NmS (l.foldl (fun m a => insN m a.name) m)
  | [], _, h => h
  | _ :: l, _, h => foldN_sorted l _ (insN_sorted h)
theorem foldN_mem : ∀ (l : List Act) (m : List ByteArray) (x : ByteArray), x ∈ l.foldl (fun m a => insN m a.name) m ↔ x ∈ m ∨ ∃ a ∈ l, a.name = x
  | [], m, x => by simp
  | b :: l, m, x => by
    rw [List.foldl_cons, foldN_mem l, mem_insN]
    constructor
    · rintro ((h | h) | ⟨a, h1, h2⟩)
      · exact .inl h
      · exact .inr ⟨b, List.mem_cons_self .., h.symm⟩
      · exact .inr ⟨a, List.mem_cons_of_mem _ h1, h2⟩
    · rintro (h | ⟨a, h1, h2⟩)
      · exact .inl (.inl h)
      · rcases List.mem_cons.1 h1 with rfl | h1
        · exact .inl (.inr h2.symm)
        · exact .inr ⟨a, h1, h2⟩
theorem names_sorted (l : List Act) : NmS (namesL l) := foldN_sorted l [] List.Pairwise.nil
theorem names_mem {l : List Act} {a : Act} (h : a ∈ l) : a.name ∈ namesL l := (foldN_mem l [] _).2 (.inr ⟨a, h, rfl⟩)
theorem NmS.nodup {l : List ByteArray} (h : NmS l) : l.Nodup := List.Pairwise.imp (fun {a b} (h : cmpS a b < 0) (e : a = b) => by rw [e, cmpS_self] at h; omega) h
theorem nmS_eq : ∀ {a b : List ByteArray}, NmS a → NmS b → (∀ x, x ∈ a ↔ x ∈ b) → a = b
  | [], [], _, _, _ => rfl
  | [], y :: b, _, _, h => by have := (h y).2 (List.mem_cons_self ..); cases this
  | x :: a, [], _, _, h => by have := (h x).1 (List.mem_cons_self ..); cases this
  | x :: a, y :: b, h1, h2, h => by
    obtain ⟨p1, p2⟩ := List.pairwise_cons.1 h1
    obtain ⟨q1, q2⟩ := List.pairwise_cons.1 h2
    have e : x = y := by
      rcases List.mem_cons.1 ((h x).1 (List.mem_cons_self ..)) with e | hx
      · exact e
      · rcases List.mem_cons.1 ((h y).2 (List.mem_cons_self ..)) with e | hy
        · exact e.symm
        · have h3 := q1 x hx
          have h4 := p1 y hy
          have h5 := cmpS_swap x y
          omega
    subst e
    congr 1
    refine nmS_eq p2 q2 fun z => ⟨fun hz => ?_, fun hz => ?_⟩
    · rcases List.mem_cons.1 ((h z).1 (List.mem_cons_of_mem _ hz)) with rfl | h3
      · have := p1 _ hz
        rw [cmpS_self] at this; omega
      · exact h3
    · rcases List.mem_cons.1 ((h z).2 (List.mem_cons_of_mem _ hz)) with rfl | h3
      · have := q1 _ hz
        rw [cmpS_self] at this; omega
      · exact h3

/-- The givers' blocks are as they should be. -/
structure EI0 (E : Be) : Prop where
  nd : (E.map (·.1)).Nodup
  nz : ∀ p ∈ E, p.2.2 ≠ 0
theorem EI0.mem {E : Be} (h : EI0 E) {s : ByteArray} : s ∈ E.map (·.1) ↔ (atB E s).2 ≠ 0 := by
  constructor
  · intro hs
    have h1 := lkp_key.2 hs
    unfold Eng.has at h1
    obtain ⟨a, ha⟩ := Option.isSome_iff_exists.1 h1
    have h2 := h.nz _ (lkp_mem ha)
    unfold atB
    rw [ha]
    exact h2
  · intro hs
    refine lkp_key.1 ?_
    unfold Eng.has
    unfold atB at hs
    cases hk : lkp E s with
    | none => rw [hk] at hs; exact absurd rfl hs
    | some a => rfl
theorem EI0.ez {E : Be} (h : EI0 E) : EZ E := fun s hs => by
  cases hk : lkp E s with
  | none => unfold atB; rw [hk]; rfl
  | some a =>
    have h2 := h.nz _ (lkp_mem hk)
    unfold atB at hs
    rw [hk] at hs
    exact absurd hs h2
theorem sortedK_sorted {E : Be} (h : EI0 E) : NmS (sortedK E) := by
  unfold sortedK NmS
  refine List.pairwise_map.2 ?_
  have hn : (keyL E).Nodup := by
    unfold keyL
    have : (E.map fun p => bl p.1) = (E.map (·.1)).map bl := by rw [List.map_map]; rfl
    rw [this]
    exact List.Pairwise.map bl (fun a b (hab : a ≠ b) e => hab (bl_inj e)) h.nd
  have h1 := sortS_sorted (keyL E)
  have h2 : (sortS (keyL E)).Nodup := (sortS_perm _).nodup_iff.2 hn
  refine List.Pairwise.imp ?_ (h1.and h2)
  rintro a b ⟨hab, hne⟩
  have hle : a ≤ b := by simpa using hab
  have hlt : a < b := by
    rcases Classical.em (b ≤ a) with h3 | h3
    · exact absurd (List.le_antisymm hle h3) hne
    · exact List.not_le.1 h3
  have h4 := less_cmpS (mk a) (mk b)
  rw [bl_mk, bl_mk, less_lt, decide_eq_true hlt] at h4
  exact of_decide_eq_true h4.symm
theorem sortedK_mem {E : Be} {s : ByteArray} : s ∈ sortedK E ↔ s ∈ E.map (·.1) := by
  unfold sortedK
  rw [List.mem_map]
  constructor
  · rintro ⟨a, h1, rfl⟩
    have h2 := (sortS_perm _).mem_iff.1 h1
    unfold keyL at h2
    obtain ⟨p, h3, rfl⟩ := List.mem_map.1 h2
    have : mk (bl p.1) = p.1 := bl_inj (bl_mk _)
    rw [this]
    exact List.mem_map.2 ⟨p, h3, rfl⟩
  · intro hs
    obtain ⟨p, h3, rfl⟩ := List.mem_map.1 hs
    exact ⟨bl p.1, (sortS_perm _).mem_iff.2 (List.mem_map.2 ⟨p, h3, rfl⟩), bl_inj (bl_mk _)⟩
theorem sortedK_filter {E : Be} (h : EI0 E) {all : List ByteArray} (ha : NmS all) (hk : ∀ s ∈ E.map (·.1), s ∈ all) : sortedK E = all.filter fun s => decide ((atB E s).2 ≠ 0) := by
  refine nmS_eq (sortedK_sorted h) (List.Pairwise.filter _ ha) fun s => ?_
  rw [sortedK_mem, List.mem_filter, decide_eq_true_iff, h.mem]
  exact ⟨fun hs => ⟨hk s (h.mem.2 hs), hs⟩, fun hs => hs.2⟩
theorem retLR_eq {M : List Pr} {E : Be} (h : EI0 E) {all : List ByteArray} (ha : NmS all) (hk : ∀ s ∈ E.map (·.1), s ∈ all) : retLR M E all = retR M E := by
  unfold retLR retR
  rw [retsL_filter, sortedK_filter h ha hk]

end Go.Proofs.YtlfpjndbpclnnaaGreatDoor

/-
  Chapter 47: the state of the law: two maps, two givers, two givers of the law, apart by colours.
  Conditions: none. By an AI agent.
-/
set_option maxRecDepth 10000
set_option linter.unusedSimpArgs false
set_option linter.unusedVariables false
namespace Go.Proofs.YtlfpjndbpclnnaaGreatDoor
open Go Eng

/-- A giver of the law, its map left out. -/
structure XS (H0 H : AHeap) (xb rb : Nat) (size : Int) (R : Re) (N : ByteArray → List Int) : Prop where
  f : H.f xb = .cells [.int .i64 size, .map (some rb)] T.law_Giver true
  m : H.f rb = .map (entsR R)
  xn : xb < H.n
  rn : rb < H.n
  ne : xb ≠ rb
  nx : H0.n ≤ xb
  nr : H0.n ≤ rb
  rows : ∀ s, IR H (atR R s) (N s)
  offs : ∀ s b, blockOf (atR R s) = some b → b ≠ xb ∧ b ≠ rb ∧ H0.n ≤ b
def XB (xb rb : Nat) (R : Re) (b : Nat) : Prop := b = xb ∨ b = rb ∨ ∃ s, blockOf (atR R s) = some b
section
variable {H0 H H' : AHeap} {bc xb rb : Nat} {M : List Pr} {size : Int} {R : Re} {N : ByteArray → List Int}
theorem XS.lt (x : XS H0 H xb rb size R N) {b : Nat} (h : XB xb rb R b) : b < H.n := by
  rcases h with rfl | rfl | ⟨s, h⟩
  · exact x.xn
  · exact x.rn
  · exact (x.rows s).lt h
theorem XS.keep {S : Nat → Prop} (x : XS H0 H xb rb size R N) (f : Fr S H H') (h : ∀ b, XB xb rb R b → ¬ S b) : XS H0 H' xb rb size R N :=
  ⟨by rw [f.f x.xn (h _ (.inl rfl))]; exact x.f, by rw [f.f x.rn (h _ (.inr (.inl rfl)))]; exact x.m, Nat.lt_of_lt_of_le x.xn f.n, Nat.lt_of_lt_of_le x.rn f.n, x.ne, x.nx, x.nr, fun s => (x.rows s).keep f fun b hb => h b (.inr (.inr ⟨s, hb⟩)), x.offs⟩
theorem RS.xs (r : RS H0 H bc xb rb M size R N) : XS H0 H xb rb size R N :=
  ⟨r.f, r.m, r.xn, r.rn, r.ne, r.nx, r.nr, r.rows, fun s b h => (r.offs s b h).2⟩
theorem RS.off (r : RS H0 H bc xb rb M size R N) {b : Nat} (h : XB xb rb R b) : ¬ MB H bc b := by
  rcases h with rfl | rfl | ⟨s, h⟩
  · exact r.ox
  · exact r.or
  · exact (r.offs s b h).1
theorem XS.rs (x : XS H0 H xb rb size R N) (fr : Fresh H0 H bc M) (h : ∀ b, XB xb rb R b → ¬ MB H bc b) : RS H0 H bc xb rb M size R N :=
  ⟨fr, x.f, x.m, x.xn, x.rn, x.ne, h _ (.inl rfl), h _ (.inr (.inl rfl)), x.nx, x.nr, x.rows, fun s b hb => ⟨h b (.inr (.inr ⟨s, hb⟩)), x.offs s b hb⟩⟩
end

def two {α : Type} (a b : α) : Bool → α := fun k => if k then b else a
def upB {α : Type} (f : Bool → α) (k : Bool) (a : α) : Bool → α := fun j => if j = k then a else f j
theorem upB_at {α : Type} (f : Bool → α) (k : Bool) (a : α) : upB f k a k = a := if_pos rfl
theorem upB_self {α : Type} (f : Bool → α) (k : Bool) : upB f k (f k) = f := by
  funext j; unfold upB; split
  · rename_i h; rw [h]
  · rfl

structure LS (H0 H : AHeap) (col : Nat → Nat) (bm bc : Nat) (Mm Mc : List Pr) (ga xa : Nat) (gb mb xb rb : Bool → Nat) (sz : Bool → Int) (Eg Ex : Bool → Be) (R : Bool → Re) (kb : Nat → Prop) (kf : Nat → Blk) : Prop where
  fm : Fresh H0 H bm Mm
  fc : Fresh H0 H bc Mc
  cm : ∀ b, MB H bm b → col b = 1
  cc : ∀ b, MB H bc b → col b = 2
  gv : ∀ k, Gv H (gb k) (mb k) (sz k) (Eg k)
  cg : ∀ k, col (gb k) = 3 + k.toNat
  cn : ∀ k, col (mb k) = 3 + k.toNat
  ng : ∀ k, H0.n ≤ gb k
  nm : ∀ k, H0.n ≤ mb k
  xs : ∀ k, XS H0 H (xb k) (rb k) (sz k) (R k) (fun s => nums (atB (Ex k) s))
  cx : ∀ k b, XB (xb k) (rb k) (R k) b → col b = 5 + k.toNat
  fg : H.f ga = .cells [.pointer (some ⟨gb false, 0, none⟩), .pointer (some ⟨gb true, 0, none⟩)] T.n2_ids_Giver true
  fx : H.f xa = .cells [.pointer (some ⟨xb false, 0, none⟩), .pointer (some ⟨xb true, 0, none⟩)] T.n2_ticketlinelaw_Giver true
  ca : col ga = 7
  cy : col xa = 8
  an : ga < H.n
  yn : xa < H.n
  na : H0.n ≤ ga
  kp : ∀ b, kb b → H.f b = kf b ∧ b < H.n ∧ col b = 9

section
variable {H0 H H' : AHeap} {col : Nat → Nat} {bm bc : Nat} {Mm Mc M' : List Pr} {ga xa : Nat} {gb mb xb rb : Bool → Nat} {sz : Bool → Int} {Eg Ex : Bool → Be} {R : Bool → Re} {kb : Nat → Prop} {kf : Nat → Blk}
theorem tn (k : Bool) : k.toNat = 0 ∨ k.toNat = 1 := by cases k <;> simp
theorem LS.gs (w : LS H0 H col bm bc Mm Mc ga xa gb mb xb rb sz Eg Ex R kb kf) (k : Bool) : GS H0 H bm (gb k) (mb k) Mm (sz k) (Eg k) :=
  ⟨w.fm, w.gv k, fun h => by have h1 := w.cm _ h; have h2 := w.cg k; omega, fun h => by have h1 := w.cm _ h; have h2 := w.cn k; omega, w.ng k, w.nm k⟩
theorem LS.rs (w : LS H0 H col bm bc Mm Mc ga xa gb mb xb rb sz Eg Ex R kb kf) (k : Bool) : RS H0 H bc (xb k) (rb k) Mc (sz k) (R k) (fun s => nums (atB (Ex k) s)) :=
  (w.xs k).rs w.fc fun b hb h => by have h1 := w.cc _ h; have h2 := w.cx k b hb; omega
/-- Nothing of it turns. -/
theorem LS.still (w : LS H0 H col bm bc Mm Mc ga xa gb mb xb rb sz Eg Ex R kb kf) (s : Still H H') : LS H0 H' col bm bc Mm Mc ga xa gb mb xb rb sz Eg Ex R kb kf :=
  ⟨w.fm.to s, w.fc.to s, fun b h => w.cm b (MBT_still w.fm.mdl s h), fun b h => w.cc b (MBT_still w.fc.mdl s h), fun k => (w.gv k).still s, w.cg, w.cn, w.ng, w.nm, fun k => (w.xs k).keep s fun _ _ h => h, w.cx, by rw [s.f w.an fun h => h]; exact w.fg, by rw [s.f w.yn fun h => h]; exact w.fx, w.ca, w.cy, Nat.lt_of_lt_of_le w.an s.n, Nat.lt_of_lt_of_le w.yn s.n, w.na, fun b hb => ⟨by rw [s.f (w.kp b hb).2.1 fun h => h]; exact (w.kp b hb).1, Nat.lt_of_lt_of_le (w.kp b hb).2.1 s.n, (w.kp b hb).2.2⟩⟩
/-- The program's map and a giver turn. -/
theorem LS.stepG (w : LS H0 H col bm bc Mm Mc ga xa gb mb xb rb sz Eg Ex R kb kf) (k : Bool) {E' : Be} (g : GS H0 H' bm (gb k) (mb k) M' (sz k) E') (u : UpG H bm (mb k) H') :
    ∃ col', LS H0 H' col' bm bc M' Mc ga xa gb mb xb rb sz (upB Eg k E') Ex R kb kf := by
  have hn := u.fr.n
  have hk := w.cn k
  have tk := tn k
  have off : ∀ b, ¬ col b = 1 → ¬ col b = 3 + k.toNat → ¬ (MB H bm b ∨ b = mb k) := fun b h1 h2 h => by
    rcases h with h | h
    · exact h1 (w.cm b h)
    · exact h2 (h ▸ hk)
  have hc : ∀ c, MB H bc c → ¬ (MB H bm c ∨ c = mb k) := fun c h => off c (by have := w.cc c h; omega) (by have := w.cc c h; omega)
  have hcm := (mb_same w.fc.mdl u.fr hc).2
  refine ⟨fun b => if b < H.n then col b else 1, ⟨g.fr, w.fc.by u.fr hc fun b hb h => ?_, fun b h => ?_, fun b h => ?_, fun j => ?_, fun j => ?_, fun j => ?_, w.ng, w.nm, fun j => (w.xs j).keep u.fr fun b hb => ?_, fun j b hb => ?_, ?_, ?_, ?_, ?_, Nat.lt_of_lt_of_le w.an hn, Nat.lt_of_lt_of_le w.yn hn, w.na, fun b hb => ?_⟩⟩
  · rcases h with h | h
    · have := w.fm.new b h; omega
    · have := w.nm k; omega
  · show (if b < H.n then col b else 1) = 1
    rcases u.mb b h with h | h
    · rw [if_pos (w.fm.mdl.blk h)]; exact w.cm b h
    · rw [if_neg (by omega)]
  · show (if b < H.n then col b else 1) = 2
    have h := hcm b h
    rw [if_pos (w.fc.mdl.blk h)]; exact w.cc b h
  · unfold upB
    split
    · rename_i h; rw [h]; exact g.gv
    · rename_i h
      have tj := tn j
      have hjk : j.toNat ≠ k.toNat := by cases j <;> cases k <;> simp at h ⊢
      have h1 := w.cg j
      have h2 := w.cn j
      exact (w.gv j).keep u.fr (off _ (by omega) (by omega)) (off _ (by omega) (by omega))
  · show (if gb j < H.n then col (gb j) else 1) = _
    rw [if_pos (w.gv j).gn]; exact w.cg j
  · show (if mb j < H.n then col (mb j) else 1) = _
    rw [if_pos (w.gv j).mn]; exact w.cn j
  · have h1 := w.cx j b hb
    have tj := tn j
    exact off b (by omega) (by omega)
  · show (if b < H.n then col b else 1) = _
    rw [if_pos ((w.xs j).lt hb)]; exact w.cx j b hb
  · have h1 := w.ca
    rw [u.fr.f w.an (off _ (by omega) (by omega))]; exact w.fg
  · have h1 := w.cy
    rw [u.fr.f w.yn (off _ (by omega) (by omega))]; exact w.fx
  · show (if ga < H.n then col ga else 1) = _
    rw [if_pos w.an]; exact w.ca
  · show (if xa < H.n then col xa else 1) = _
    rw [if_pos w.yn]; exact w.cy
  · obtain ⟨h1, h2, h3⟩ := w.kp b hb
    refine ⟨by rw [u.fr.f h2 (off b (by omega) (by omega))]; exact h1, Nat.lt_of_lt_of_le h2 hn, ?_⟩
    show (if b < H.n then col b else 1) = 9
    rw [if_pos h2]; exact h3

open Classical in
/-- The law's map and a giver of the law turn. -/
theorem LS.stepX (w : LS H0 H col bm bc Mm Mc ga xa gb mb xb rb sz Eg Ex R kb kf) (k : Bool) {E' : Be} {R' : Re} (r : RS H0 H' bc (xb k) (rb k) M' (sz k) R' (fun s => nums (atB E' s))) (u : UpG H bc (rb k) H') (hR : RN (R k) R' H) :
    ∃ col', LS H0 H' col' bm bc Mm M' ga xa gb mb xb rb sz Eg (upB Ex k E') (upB R k R') kb kf := by
  have hn := u.fr.n
  have hk := w.cx k (rb k) (.inr (.inl rfl))
  have tk := tn k
  have off : ∀ b, ¬ col b = 2 → ¬ col b = 5 + k.toNat → ¬ (MB H bc b ∨ b = rb k) := fun b h1 h2 h => by
    rcases h with h | h
    · exact h1 (w.cc b h)
    · exact h2 (h ▸ hk)
  have hc : ∀ c, MB H bm c → ¬ (MB H bc c ∨ c = rb k) := fun c h => off c (by have := w.cm c h; omega) (by have := w.cm c h; omega)
  have hcm := (mb_same w.fm.mdl u.fr hc).2
  refine ⟨fun b => if b < H.n then col b else if MB H' bc b then 2 else 5 + k.toNat, ⟨w.fm.by u.fr hc fun b hb h => ?_, r.fr, fun b h => ?_, fun b h => ?_, fun j => ?_, fun j => ?_, fun j => ?_, w.ng, w.nm, fun j => ?_, fun j b hb => ?_, ?_, ?_, ?_, ?_, Nat.lt_of_lt_of_le w.an hn, Nat.lt_of_lt_of_le w.yn hn, w.na, fun b hb => ?_⟩⟩
  · rcases h with h | h
    · have := w.fc.new b h; omega
    · have := (w.xs k).nr; omega
  · have h := hcm b h
    simp only [if_pos (w.fm.mdl.blk h)]; exact w.cm b h
  · rcases u.mb b h with h1 | h1
    · simp only [if_pos (w.fc.mdl.blk h1)]; exact w.cc b h1
    · simp only [if_neg (show ¬ b < H.n by omega), if_pos h]
  · have h1 := w.cg j
    have h2 := w.cn j
    have tj := tn j
    exact (w.gv j).keep u.fr (off _ (by omega) (by omega)) (off _ (by omega) (by omega))
  · simp only [if_pos (w.gv j).gn]; exact w.cg j
  · simp only [if_pos (w.gv j).mn]; exact w.cn j
  · unfold upB
    by_cases h : j = k
    · subst h
      simp only [if_pos rfl]; exact r.xs
    · simp only [if_neg h]
      have tj := tn j
      have hjk : j.toNat ≠ k.toNat := by cases j <;> cases k <;> simp at h ⊢
      exact (w.xs j).keep u.fr fun b hb => by have h1 := w.cx j b hb; exact off b (by omega) (by omega)
  · unfold upB at hb
    by_cases h : j = k
    · subst h
      simp only [if_pos rfl] at hb
      by_cases hbn : b < H.n
      · simp only [if_pos hbn]
        refine w.cx j b ?_
        rcases hb with hb | hb | ⟨s, hb⟩
        · exact .inl hb
        · exact .inr (.inl hb)
        · rcases hR s b hb with h1 | h1
          · exact .inr (.inr ⟨s, h1⟩)
          · omega
      · simp only [if_neg hbn, if_neg (r.off hb)]
    · simp only [if_neg h] at hb
      simp only [if_pos ((w.xs j).lt hb)]; exact w.cx j b hb
  · have h1 := w.ca
    rw [u.fr.f w.an (off _ (by omega) (by omega))]; exact w.fg
  · have h1 := w.cy
    rw [u.fr.f w.yn (off _ (by omega) (by omega))]; exact w.fx
  · simp only [if_pos w.an]; exact w.ca
  · simp only [if_pos w.yn]; exact w.cy
  · obtain ⟨h1, h2, h3⟩ := w.kp b hb
    refine ⟨by rw [u.fr.f h2 (off b (by omega) (by omega))]; exact h1, Nat.lt_of_lt_of_le h2 hn, ?_⟩
    simp only [if_pos h2]; exact h3
end

end Go.Proofs.YtlfpjndbpclnnaaGreatDoor

/-
  Chapter 47: the state of the law: the other steps.
  Conditions: none. By an AI agent.
-/
set_option maxRecDepth 10000
set_option linter.unusedSimpArgs false
set_option linter.unusedVariables false
namespace Go.Proofs.YtlfpjndbpclnnaaGreatDoor
open Go Eng

section
variable {H0 H H' : AHeap} {col : Nat → Nat} {bm bc : Nat} {Mm Mc M' : List Pr} {ga xa : Nat} {gb mb xb rb : Bool → Nat} {sz : Bool → Int} {Eg Ex : Bool → Be} {R : Bool → Re} {kb : Nat → Prop} {kf : Nat → Blk}
theorem LS.stepM (w : LS H0 H col bm bc Mm Mc ga xa gb mb xb rb sz Eg Ex R kb kf) (fr : Fresh H0 H' bm M') (u : Up H bm H') : ∃ col', LS H0 H' col' bm bc M' Mc ga xa gb mb xb rb sz Eg Ex R kb kf := by
  obtain ⟨c, h⟩ := w.stepG false ((w.gs false).map fr u) (UpG.of_up u)
  rw [upB_self] at h
  exact ⟨c, h⟩
theorem LS.stepC (w : LS H0 H col bm bc Mm Mc ga xa gb mb xb rb sz Eg Ex R kb kf) (fr : Fresh H0 H' bc M') (u : Up H bc H') : ∃ col', LS H0 H' col' bm bc Mm M' ga xa gb mb xb rb sz Eg Ex R kb kf := by
  obtain ⟨c, h⟩ := w.stepX false ((w.rs false).map fr u) (UpG.of_up u) (RN.refl _ _)
  rw [upB_self, upB_self] at h
  exact ⟨c, h⟩
/-- A giver of the law gets new rows. -/
theorem LS.stepL (w : LS H0 H col bm bc Mm Mc ga xa gb mb xb rb sz Eg Ex R kb kf) (k : Bool) {rb' : Nat} {E' : Be} {R' : Re} (x : XS H0 H' (xb k) rb' (sz k) R' (fun s => nums (atB E' s))) (f : Fr (fun b => b = xb k) H H') (hr : H.n ≤ rb') (hR : ∀ s b, blockOf (atR R' s) = some b → H.n ≤ b) :
    ∃ col', LS H0 H' col' bm bc Mm Mc ga xa gb mb xb (upB rb k rb') sz Eg (upB Ex k E') (upB R k R') kb kf := by
  have hn := f.n
  have hk := w.cx k (xb k) (.inl rfl)
  have tk := tn k
  have off : ∀ b, ¬ col b = 5 + k.toNat → ¬ b = xb k := fun b h2 h => h2 (h ▸ hk)
  have hc1 : ∀ c, MB H bm c → ¬ c = xb k := fun c h => off c (by have := w.cm c h; omega)
  have hc2 : ∀ c, MB H bc c → ¬ c = xb k := fun c h => off c (by have := w.cc c h; omega)
  have hcm := (mb_same w.fm.mdl f hc1).2
  have hcc := (mb_same w.fc.mdl f hc2).2
  have hxn := (w.xs k).nx
  refine ⟨fun b => if b < H.n then col b else 5 + k.toNat, ⟨w.fm.by f hc1 fun b hb h => by omega, w.fc.by f hc2 fun b hb h => by omega, fun b h => ?_, fun b h => ?_, fun j => ?_, fun j => ?_, fun j => ?_, w.ng, w.nm, fun j => ?_, fun j b hb => ?_, ?_, ?_, ?_, ?_, Nat.lt_of_lt_of_le w.an hn, Nat.lt_of_lt_of_le w.yn hn, w.na, fun b hb => ?_⟩⟩
  · have h := hcm b h
    simp only [if_pos (w.fm.mdl.blk h)]; exact w.cm b h
  · have h := hcc b h
    simp only [if_pos (w.fc.mdl.blk h)]; exact w.cc b h
  · have h1 := w.cg j
    have h2 := w.cn j
    have tj := tn j
    exact (w.gv j).keep f (off _ (by omega)) (off _ (by omega))
  · simp only [if_pos (w.gv j).gn]; exact w.cg j
  · simp only [if_pos (w.gv j).mn]; exact w.cn j
  · unfold upB
    by_cases h : j = k
    · subst h
      simp only [if_pos rfl]; exact x
    · simp only [if_neg h]
      have tj := tn j
      have hjk : j.toNat ≠ k.toNat := by cases j <;> cases k <;> simp at h ⊢
      exact (w.xs j).keep f fun b hb => by have h1 := w.cx j b hb; exact off b (by omega)
  · unfold upB at hb
    by_cases h : j = k
    · subst h
      simp only [if_pos rfl] at hb
      rcases hb with hb | hb | ⟨s, hb⟩
      · rw [hb]; simp only [if_pos (w.xs j).xn]; exact hk
      · have h9 : ¬ b < H.n := by simp only [↓reduceIte] at hb; omega
        simp only [if_neg h9]
      · have := hR s b hb
        simp only [if_neg (show ¬ b < H.n by omega)]
    · simp only [if_neg h] at hb
      simp only [if_pos ((w.xs j).lt hb)]; exact w.cx j b hb
  · have h1 := w.ca
    rw [f.f w.an (off _ (by omega))]; exact w.fg
  · have h1 := w.cy
    rw [f.f w.yn (off _ (by omega))]; exact w.fx
  · simp only [if_pos w.an]; exact w.ca
  · simp only [if_pos w.yn]; exact w.cy
  · obtain ⟨h1, h2, h3⟩ := w.kp b hb
    refine ⟨by rw [f.f h2 (off b (by omega))]; exact h1, Nat.lt_of_lt_of_le h2 hn, ?_⟩
    simp only [if_pos h2]; exact h3
/-- A giver of the program is another one. -/
theorem LS.stepP (w : LS H0 H col bm bc Mm Mc ga xa gb mb xb rb sz Eg Ex R kb kf) (k : Bool) {gb' mb' : Nat} {E' : Be} {S : Nat → Prop} (g : Gv H' gb' mb' (sz k) E') (f : Fr S H H') (hS : ∀ b, S b → b = mb k ∨ b = ga ∨ H.n ≤ b) (hg : H.n ≤ gb') (hm : H.n ≤ mb')
    (fg : H'.f ga = .cells [.pointer (some ⟨upB gb k gb' false, 0, none⟩), .pointer (some ⟨upB gb k gb' true, 0, none⟩)] T.n2_ids_Giver true) :
    ∃ col', LS H0 H' col' bm bc Mm Mc ga xa (upB gb k gb') (upB mb k mb') xb rb sz (upB Eg k E') Ex R kb kf := by
  have hn := f.n
  have h0n := w.fm.still.n
  have hk := w.cn k
  have hga := w.ca
  have tk := tn k
  have off : ∀ b, b < H.n → ¬ col b = 3 + k.toNat → ¬ col b = 7 → ¬ S b := fun b h1 h2 h3 h => by
    rcases hS b h with h | h | h
    · exact h2 (h ▸ hk)
    · exact h3 (h ▸ hga)
    · omega
  have hc1 : ∀ c, MB H bm c → ¬ S c := fun c h => off c (w.fm.mdl.blk h) (by have := w.cm c h; omega) (by have := w.cm c h; omega)
  have hc2 : ∀ c, MB H bc c → ¬ S c := fun c h => off c (w.fc.mdl.blk h) (by have := w.cc c h; omega) (by have := w.cc c h; omega)
  have hcm := (mb_same w.fm.mdl f hc1).2
  have hcc := (mb_same w.fc.mdl f hc2).2
  have hnm := w.nm k
  have hna := w.na
  have h0 : ∀ b, b < H0.n → ¬ S b := fun b hb h => by
    rcases hS b h with h | h | h <;> omega
  refine ⟨fun b => if b < H.n then col b else 3 + k.toNat, ⟨w.fm.by f hc1 h0, w.fc.by f hc2 h0, fun b h => ?_, fun b h => ?_, fun j => ?_, fun j => ?_, fun j => ?_, fun j => ?_, fun j => ?_, fun j => (w.xs j).keep f fun b hb => ?_, fun j b hb => ?_, fg, ?_, ?_, ?_, Nat.lt_of_lt_of_le w.an hn, Nat.lt_of_lt_of_le w.yn hn, w.na, fun b hb => ?_⟩⟩
  · have h := hcm b h
    simp only [if_pos (w.fm.mdl.blk h)]; exact w.cm b h
  · have h := hcc b h
    simp only [if_pos (w.fc.mdl.blk h)]; exact w.cc b h
  · unfold upB
    by_cases h : j = k
    · subst h
      simp only [if_pos rfl]; exact g
    · simp only [if_neg h]
      have tj := tn j
      have hjk : j.toNat ≠ k.toNat := by cases j <;> cases k <;> simp at h ⊢
      have h1 := w.cg j
      have h2 := w.cn j
      exact (w.gv j).keep f (off _ (w.gv j).gn (by omega) (by omega)) (off _ (w.gv j).mn (by omega) (by omega))
  · by_cases h : j = k
    · have e : upB gb k gb' j = gb' := if_pos h
      rw [e, h]
      simp only [if_neg (show ¬ gb' < H.n by omega)]
    · have e : upB gb k gb' j = gb j := if_neg h
      rw [e]
      simp only [if_pos (w.gv j).gn]; exact w.cg j
  · by_cases h : j = k
    · have e : upB mb k mb' j = mb' := if_pos h
      rw [e, h]
      simp only [if_neg (show ¬ mb' < H.n by omega)]
    · have e : upB mb k mb' j = mb j := if_neg h
      rw [e]
      simp only [if_pos (w.gv j).mn]; exact w.cn j
  · unfold upB
    split
    · omega
    · exact w.ng j
  · unfold upB
    split
    · omega
    · exact w.nm j
  · have h1 := w.cx j b hb
    have tj := tn j
    refine off b ((w.xs j).lt hb) ?_ ?_ <;> omega
  · simp only [if_pos ((w.xs j).lt hb)]; exact w.cx j b hb
  · have h1 := w.cy
    rw [f.f w.yn (off _ w.yn (by omega) (by omega))]; exact w.fx
  · simp only [if_pos w.an]; exact w.ca
  · simp only [if_pos w.yn]; exact w.cy
  · obtain ⟨h1, h2, h3⟩ := w.kp b hb
    refine ⟨by rw [f.f h2 (off b h2 (by omega) (by omega))]; exact h1, Nat.lt_of_lt_of_le h2 hn, ?_⟩
    simp only [if_pos h2]; exact h3
/-- A new block is kept. -/
theorem LS.more (w : LS H0 H col bm bc Mm Mc ga xa gb mb xb rb sz Eg Ex R kb kf) {a : Nat} {c : Blk} (s : Still H H') (ha : H.n ≤ a) (ha' : a < H'.n) (hc : H'.f a = c) :
    LS H0 H' (fun b => if b < H.n then col b else 9) bm bc Mm Mc ga xa gb mb xb rb sz Eg Ex R (fun b => kb b ∨ b = a) (fun b => if b = a then c else kf b) := by
  have w' := w.still s
  refine ⟨w'.fm, w'.fc, fun b h => ?_, fun b h => ?_, w'.gv, fun j => ?_, fun j => ?_, w.ng, w.nm, w'.xs, fun j b hb => ?_, w'.fg, w'.fx, ?_, ?_, w'.an, w'.yn, w.na, fun b hb => ?_⟩
  · have h := MBT_still w.fm.mdl s h
    simp only [if_pos (w.fm.mdl.blk h)]; exact w.cm b h
  · have h := MBT_still w.fc.mdl s h
    simp only [if_pos (w.fc.mdl.blk h)]; exact w.cc b h
  · simp only [if_pos (w.gv j).gn]; exact w.cg j
  · simp only [if_pos (w.gv j).mn]; exact w.cn j
  · simp only [if_pos ((w.xs j).lt hb)]; exact w.cx j b hb
  · simp only [if_pos w.an]; exact w.ca
  · simp only [if_pos w.yn]; exact w.cy
  · rcases hb with hb | hb
    · obtain ⟨h1, h2, h3⟩ := w.kp b hb
      have hne : ¬ b = a := by omega
      simp only [if_pos h2, if_neg hne]
      exact ⟨by rw [s.f h2 fun h => h]; exact h1, Nat.lt_of_lt_of_le h2 s.n, h3⟩
    · subst hb
      simp only [if_neg (show ¬ b < H.n by omega), if_pos]
      exact ⟨hc, ha', trivial⟩
theorem LS.less (w : LS H0 H col bm bc Mm Mc ga xa gb mb xb rb sz Eg Ex R kb kf) {kb' : Nat → Prop} {kf' : Nat → Blk} (h : ∀ b, kb' b → kb b ∧ kf' b = kf b) : LS H0 H col bm bc Mm Mc ga xa gb mb xb rb sz Eg Ex R kb' kf' :=
  ⟨w.fm, w.fc, w.cm, w.cc, w.gv, w.cg, w.cn, w.ng, w.nm, w.xs, w.cx, w.fg, w.fx, w.ca, w.cy, w.an, w.yn, w.na, fun b hb => by
    obtain ⟨h1, h2⟩ := h b hb
    rw [h2]
    exact w.kp b h1⟩
end
theorem rd_at {α : Type} {E : Enc α} {H H' : AHeap} {v : Value} {l : List α} (r : Rd E H v l) (h : ∀ b, blockOf v = some b → H'.f b = H.f b ∧ b < H'.n) : Rd E H' v l := by
  rcases r with r | r | ⟨b, o, c, rfl, h1, h2, h3⟩
  · exact .inl r
  · exact .inr (.inl r)
  · obtain ⟨h4, h5⟩ := h b rfl
    exact .inr (.inr ⟨b, o, c, rfl, h1, h5, by rw [h4]; exact h3⟩)

end Go.Proofs.YtlfpjndbpclnnaaGreatDoor

/-
  Chapter 47: what stays true of a giver's blocks, and how many pairs there are.
  Conditions: none. By an AI agent.
-/
set_option maxRecDepth 10000
set_option linter.unusedSimpArgs false
set_option linter.unusedVariables false
namespace Go.Proofs.YtlfpjndbpclnnaaGreatDoor
open Go Eng

structure EV (E : Be) (all : List ByteArray) : Prop where
  ok : EOk E
  sh : ESh E
  e0 : EI0 E
  ky : KeysOk E
  sub : ∀ s ∈ E.map (·.1), s ∈ all
theorem EV.nil (all : List ByteArray) : EV [] all :=
  ⟨fun _ => ⟨Int.le_refl _, Int.le_refl _, show (0 : Int) + 0 ≤ 1099511627776 by decide⟩, fun _ => show (0 : Int) ≤ 1000 by decide, ⟨List.Pairwise.nil, fun _ h => (by cases h)⟩, fun _ h => (by cases h), fun _ h => (by cases h)⟩
theorem EV.del {E : Be} {all : List ByteArray} (h : EV E all) (s : ByteArray) : EV (Eng.delE E s) all := by
  have hm : ∀ p ∈ Eng.delE E s, p ∈ E := fun p hp => (List.mem_filter.1 hp).1
  refine ⟨h.ok.del s, fun k => ?_, ⟨keys_del_nodup h.e0.nd s, fun p hp => h.e0.nz p (hm p hp)⟩, fun p hp => h.ky p (hm p hp), fun k hk => ?_⟩
  · rw [atB_del]
    split
    · exact show (0 : Int) ≤ 1000 by decide
    · exact h.sh k
  · obtain ⟨p, hp, rfl⟩ := List.mem_map.1 hk
    exact h.sub _ (List.mem_map.2 ⟨p, hm p hp, rfl⟩)
theorem mem_putE {E : Be} {s : ByteArray} {a : Int × Int} {p : ByteArray × (Int × Int)} (h : p ∈ Eng.putE E s a) : p = (s, a) ∨ p ∈ E := by
  unfold Eng.putE at h
  split at h
  · unfold repE at h
    obtain ⟨q, hq, rfl⟩ := List.mem_map.1 h
    split
    · rename_i e; left; rw [e]
    · exact .inr hq
  · rcases List.mem_append.1 h with h | h
    · exact .inr h
    · simp only [List.mem_cons, List.not_mem_nil, or_false] at h
      exact .inl h
theorem EV.put {E : Be} {all : List ByteArray} (h : EV E all) {s : ByteArray} {a : Int × Int} (hs : s ∈ all) (hk : (bl s).length ≤ 24) (h1 : 0 ≤ a.1) (h2 : 0 ≤ a.2) (h3 : a.1 + a.2 ≤ 1099511627776) (h4 : a.2 ≤ 1000) (h5 : a.2 ≠ 0) : EV (Eng.putE E s a) all := by
  refine ⟨fun k => ?_, fun k => ?_, ⟨keys_put_nodup h.e0.nd s a, fun p hp => ?_⟩, fun p hp => ?_, fun k hk => ?_⟩
  · rw [atB_put]
    split
    · exact ⟨h1, h2, h3⟩
    · exact h.ok k
  · rw [atB_put]
    split
    · exact h4
    · exact h.sh k
  · rcases mem_putE hp with rfl | hp
    · exact h5
    · exact h.e0.nz p hp
  · rcases mem_putE hp with rfl | hp
    · exact hk
    · exact h.ky p hp
  · obtain ⟨p, hp, rfl⟩ := List.mem_map.1 hk
    rcases mem_putE hp with rfl | hp
    · exact hs
    · exact h.sub _ (List.mem_map.2 ⟨p, hp, rfl⟩)
theorem EV.set {E : Be} {all : List ByteArray} (h : EV E all) {s : ByteArray} {a : Int × Int} (hs : s ∈ all) (hk : (bl s).length ≤ 24) (h1 : 0 ≤ a.1) (h2 : 0 ≤ a.2) (h3 : a.1 + a.2 ≤ 1099511627776) (h4 : a.2 ≤ 1000) : EV (setB E s a) all := by
  unfold setB
  split
  · exact h.del s
  · rename_i h5
    exact h.put hs hk h1 h2 h3 h4 h5
theorem chk_len0 {s : ByteArray} (h : chk s [] = 0) : (bl s).length ≤ 24 := by
  unfold chk at h
  by_cases h1 : bl s = []
  · rw [h1]; simp
  · rw [if_neg h1] at h
    by_cases h2 : 24 < (bl s).length
    · rw [if_pos (.inl h2)] at h
      exact absurd h (by decide)
    · omega
theorem EV.gv {E : Be} {all : List ByteArray} (h : EV E all) (M : List Pr) {s : ByteArray} (hs : s ∈ all) (size : Int) : EV (gvR M E s size).2.2 all := by
  have ho := h.ok s
  have hsh := h.sh s
  unfold gvR
  by_cases he : (nxt M s).2 = 0
  · have hk := chk_len0 (nxt_ok he)
    rw [if_neg (by simpa using he)]
    by_cases hy : (atB E s).2 = 0
    · rw [if_pos hy]
      obtain ⟨t0, t1, t2, _⟩ := tk_bound M s size
      by_cases her : (tk M s size).2.1 = 0
      · obtain ⟨n1, n2, n3⟩ := tk_n her
        rw [if_neg (by simpa using her)]
        refine h.set hs hk ?_ ?_ ?_ ?_ <;> (simp only; omega)
      · rw [if_pos her]
        exact h
    · rw [if_neg hy]
      refine h.set hs hk ?_ ?_ ?_ ?_ <;> (simp only; omega)
  · rw [if_pos he]
    exact h
theorem EV.back {all : List ByteArray} : ∀ (t : List ByteArray) (M : List Pr) {E : Be}, EV E all → EV (backM t M E).2 all
  | [], _, _, h => h
  | s :: t, _, _, h => EV.back t _ (h.del s)
theorem EV.ret {E : Be} {all : List ByteArray} (h : EV E all) (M : List Pr) : EV (retR M E).2.2 all := by
  unfold retR
  split
  · exact h
  · exact h.back _ _
theorem EV.len {E : Be} {all : List ByteArray} (h : EV E all) (ha : NmS all) : E.length ≤ all.length := by
  have h1 := sortedK_filter h.e0 ha h.sub
  have h2 : (sortedK E).length = E.length := by
    unfold sortedK
    rw [List.length_map, sortS_len]
    unfold keyL
    rw [List.length_map]
  rw [← h2, h1]
  exact List.length_filter_le _ _

theorem putE_len (m : List Pr) (a : Pr) : (Go.Proofs.YtlfpjndbpclnnaaGreatDoor.putE m a).2.length ≤ m.length + 1 := by
  have := fold_len [a] m
  simpa using this
theorem tk_len (M : List Pr) (s : ByteArray) (n : Int) : (tk M s n).2.2.length ≤ M.length + 1 := by
  unfold tk
  split
  · exact Nat.le_succ _
  · split
    · exact Nat.le_succ _
    · split
      · exact Nat.le_succ _
      · exact putE_len _ _
theorem gvR_len (M : List Pr) (E : Be) (s : ByteArray) (size : Int) : (gvR M E s size).2.1.length ≤ M.length + 1 := by
  unfold gvR
  split
  · exact Nat.le_succ _
  · split
    · split
      · exact Nat.le_succ _
      · exact tk_len _ _ _
    · exact Nat.le_succ _
theorem backM_len : ∀ (t : List ByteArray) (M : List Pr) (E : Be), (backM t M E).1.length ≤ M.length + t.length
  | [], _, _ => Nat.le_refl _
  | s :: t, M, E => by
    have h1 := backM_len t (Go.Proofs.YtlfpjndbpclnnaaGreatDoor.putE M ⟨s, mk (itoaS (atB E s).1)⟩).2 (Eng.delE E s)
    have h2 := putE_len M ⟨s, mk (itoaS (atB E s).1)⟩
    rw [backM, List.length_cons]
    omega
theorem retLR_len (M : List Pr) (E : Be) (all : List ByteArray) : (retLR M E all).2.1.length ≤ M.length + all.length := by
  unfold retLR
  split
  · exact Nat.le_add_right _ _
  · rename_i h
    have h : (retsL M E all []).1 = 0 := by simpa using h
    obtain ⟨u, h1, h2, _⟩ := retsL_sub all [] h
    have h3 := backM_len (retsL M E all []).2 M E
    rw [h1] at h3 ⊢
    have h4 := h2.length_le
    simp only [List.nil_append] at h3 ⊢
    omega

end Go.Proofs.YtlfpjndbpclnnaaGreatDoor

/-
  The seat's functions as terms over the engine's combinators (a program of ours printed it).
  Conditions: none. By an AI agent.
-/
set_option linter.unusedVariables false
namespace Go.Proofs.YtlfpjndbpclnnaaGreatDoor
open Go Eng

/-! ticketline.ticketlinelaw47.IdsPlays -/

noncomputable def s_law_IdsPlays (mg : GT) (mc : CT) (ms : ST) (P : Program) (C : CallF) (L0 : Value → Value → Value → Value → Value → Value → Value → AHeap → K → Res) (L1 : Value → Value → Value → Value → Value → Value → Value → AHeap → K → Res) (a0 : Value) (a1 : Value) (H : AHeap) (K0 : K) : Res :=
bothK (newv T.n2_int a0 H) fun t2 h1 =>
enterK C F.law_small [a1, (.int .i64 30)] h1 fun t25 h2 =>
bareK (xun P .not t25) h2 fun t26 h3 =>
mc t26 (fun k1 => enterK C F.law_known [] h3 fun t27 h4 =>
k1 .ret [(4, t27)] h4) (fun k1 =>
k1 .normal [(1, a1), (2, t2)] h3) (seqK (fun tT h5 =>
bareK (bldS #[(.slice none 0 0)] [(0, 1)] []) h5 fun t28 h6 =>
bothK (newv T.model_Model t28 h6) fun t29 h7 =>
bareK (bldS #[(.slice none 0 0)] [(0, 1)] []) h7 fun t30 h8 =>
bothK (newv T.model_Model t30 h8) fun t31 h9 =>
bothK (newv T.n2_ids_Giver (.agg #[(.pointer none), (.pointer none)]) h9) fun t7 h10 =>
bothK (newv T.n2_ticketlinelaw_Giver (.agg #[(.pointer none), (.pointer none)]) h10) fun t8 h11 =>
ms (fun k2 =>
L0 (get tT 1) (get tT 2) t29 t31 t7 t8 (.int .i64 0) h11 (blkK [1, 5, 6, 7, 8] 0 k2)) (seqK (fun tT_1 h12 =>
enterK C F.law_names [(get tT_1 1)] h12 fun t80 h13 =>
ms (fun k3 =>
L1 (get tT_1 1) (get tT_1 5) (get tT_1 6) (get tT_1 7) (get tT_1 8) t80 (.int .i64 0) h13 (blkK [] 2 k3)) (seqK (fun tT_2 h14 =>
enterK C F.law_known [] h14 fun t236 h15 =>
K0 .ret [(4, t236)] h15) K0)) K0)) K0)

noncomputable def s_law_IdsPlays_b0 (mg : GT) (mc : CT) (ms : ST) (P : Program) (C : CallF) (L0 : Value → Value → Value → Value → Value → Value → Value → AHeap → K → Res) (L1 : Value → Value → Value → Value → Value → Value → Value → AHeap → K → Res) (v1 : Value) (v2 : Value) (v5 : Value) (v6 : Value) (v7 : Value) (v8 : Value) (v9 : Value) (H : AHeap) (k : K) : Res :=
bareK (xbin P .lss T.int (.tmp 32) (.const (.int .i64 2)) v9 (.int .i64 2)) H fun t33 h12 =>
mc t33 (fun k3 => k3 .normal [(1, v1), (2, v2), (5, v5), (6, v6), (7, v7), (8, v8), (9, v9)] h12) (fun k3 =>
k3 (.exit 0) [(33, t33), (32, v9), (1, v1), (2, v2), (5, v5), (6, v6), (7, v7), (8, v8), (9, v9)] h12) (seqK (fun tT h13 =>
ms (fun k4 =>
bareK (ixA 2 1 (get tT 2) (get tT 9)) h13 fun t38 h14 =>
bareK (ld1 h14 t38) h14 fun t39 h15 =>
enterK C F.ids_New [t39] h15 fun t40 h16 =>
bareK (xextract t40 0) h16 fun t41 h17 =>
bareK (xextract t40 1) h17 fun t42 h18 =>
bareK (ixA 2 1 (get tT 2) (get tT 9)) h18 fun t44 h19 =>
bareK (ld1 h19 t44) h19 fun t45 h20 =>
bareK (xbin P .lss T.int (.tmp 45) (.const (.int .i64 1)) t45 (.int .i64 1)) h20 fun t46 h21 =>
mg t46 false (fun o5 => o5 (get tT 9) h21) h21 fun t48 h22 =>
mg t46 false (fun o6 => bareK (ixA 2 1 (get tT 2) t48) h22 o6) h22 fun t49 h23 =>
mg t46 false (fun o7 => bareK (ld1 h23 t49) h23 o7) h23 fun t50 h24 =>
mg t46 false (fun o8 => bareK (xbin P .gtr T.int (.tmp 50) (.const (.int .i64 1000)) t50 (.int .i64 1000)) h24 o8) h24 fun t51 h25 =>
pickK t46 (.bool true) t51 fun t52 =>
mc t52 (fun k9 => bareK (xbin P .eql T.p_ids_Giver (.tmp 53) (.const (.pointer none)) t41 (.pointer none)) h25 fun t54 h26 =>
mg t54 true (fun o10 => o10 t42 h26) h26 fun t56 h27 =>
mg t54 true (fun o11 => bareK (xbin P .eql T.api_Errno (.tmp 56) (.const (.int .i64 2)) t56 (.int .i64 2)) h27 o11) h27 fun t57 h28 =>
pickK t54 t57 (.bool false) fun t58 =>
mg t58 true (fun o12 => enterK C F.law_known [] h28 o12) h28 fun t60 h29 =>
pickK t58 t60 (.bool false) fun t61 =>
k9 .ret [(4, t61)] h29) (fun k9 =>
k9 .normal [(1, (get tT 1)), (2, (get tT 2)), (5, (get tT 5)), (6, (get tT 6)), (7, (get tT 7)), (8, (get tT 8)), (9, (get tT 9)), (10, t41), (11, t42)] h25) (seqK (fun tT_1 h30 =>
bareK (xbin P .eql T.p_ids_Giver (.tmp 62) (.const (.pointer none)) (get tT_1 10) (.pointer none)) h30 fun t63 h31 =>
mg t63 false (fun o13 => o13 (get tT_1 11) h31) h31 fun t65 h32 =>
mg t63 false (fun o14 => bareK (xbin P .neq T.api_Errno (.tmp 65) (.const (.int .i64 0)) t65 (.int .i64 0)) h32 o14) h32 fun t66 h33 =>
pickK t63 (.bool true) t66 fun t67 =>
mc t67 (fun k15 => k15 .ret [(4, (.bool false))] h33) (fun k15 =>
k15 .normal [(1, (get tT_1 1)), (2, (get tT_1 2)), (5, (get tT_1 5)), (6, (get tT_1 6)), (7, (get tT_1 7)), (8, (get tT_1 8)), (9, (get tT_1 9)), (10, (get tT_1 10))] h33) (seqK (fun tT_2 h34 =>
bareK (ixA 2 1 (get tT_2 2) (get tT_2 9)) h34 fun t72 h35 =>
bareK (ld1 h35 t72) h35 fun t73 h36 =>
bothK (xmakeMap P T.map_string_int none h36) fun t74 h37 =>
bareK (bldS #[(.int .i64 0), (.map none)] [(0, 1), (1, 1)] [(0, t73), (1, t74)]) h37 fun t75 h38 =>
bothK (newv T.law_Giver t75 h38) fun t76 h39 =>
bareK (ixA 2 1 (get tT_2 7) (get tT_2 9)) h39 fun t77 h40 =>
quietK (st1 h40 t77 (get tT_2 10)) fun _ h41 =>
bareK (ixA 2 1 (get tT_2 8) (get tT_2 9)) h41 fun t78 h42 =>
quietK (st1 h42 t78 t76) fun _ h43 =>
checkK (okV (some true) none h40 h41 h34 h34 && (okV (some true) none h40 h41 h34 h34 && (okV (some true) none h40 h41 h34 h35 && (okV (some true) (blockOf t72) h40 h41 h35 h36 && (okV (some true) none h40 h41 h36 h37 && (okV (some true) none h40 h41 h37 h38 && (okV (some true) none h40 h41 h38 h39 && true))))))) <|
k4 .normal [(1, (get tT_2 1)), (2, (get tT_2 2)), (5, (get tT_2 5)), (6, (get tT_2 6)), (7, (get tT_2 7)), (8, (get tT_2 8)), (9, (get tT_2 9))] h43) (blkK [1, 2, 5, 6, 7, 8, 9] 1 k4))) (blkK [1, 2, 5, 6, 7, 8, 9] 1 k4))) (seqK (fun tT_3 h44 =>
bareK (xbin P .add T.int (.tmp 34) (.const (.int .i64 1)) (get tT_3 9) (.int .i64 1)) h44 fun t35 h45 =>
k .normal [(1, (get tT_3 1)), (2, (get tT_3 2)), (5, (get tT_3 5)), (6, (get tT_3 6)), (7, (get tT_3 7)), (8, (get tT_3 8)), (9, t35)] h45) (afterK [1, 2, 5, 6, 7, 8, 9] k))) (afterK [1, 2, 5, 6, 7, 8, 9] k))

noncomputable def s_law_IdsPlays_b1 (mg : GT) (mc : CT) (ms : ST) (P : Program) (C : CallF) (L0 : Value → Value → Value → Value → Value → Value → Value → AHeap → K → Res) (L1 : Value → Value → Value → Value → Value → Value → Value → AHeap → K → Res) (v1 : Value) (v5 : Value) (v6 : Value) (v7 : Value) (v8 : Value) (v12 : Value) (v13 : Value) (H : AHeap) (k : K) : Res :=
bareK (lenS v1) H fun t83 h14 =>
bareK (xbin P .lss T.int (.tmp 81) (.tmp 83) v13 t83) h14 fun t84 h15 =>
mc t84 (fun k4 => k4 .normal [(1, v1), (5, v5), (6, v6), (7, v7), (8, v8), (12, v12), (13, v13)] h15) (fun k4 =>
k4 (.exit 2) [(84, t84), (83, t83), (82, v1), (81, v13), (1, v1), (5, v5), (6, v6), (7, v7), (8, v8), (12, v12), (13, v13)] h15) (seqK (fun tT h16 =>
ms (fun k5 =>
bareK (ixS 5 (get tT 1) (get tT 13)) h16 fun t89 h17 =>
bareK (ldN 5 h17 t89) h17 fun t90 h18 =>
bothK (newv T.law_Act (.agg #[(.int .i64 0), (.int .i64 0), (.bool false), (.string (mk [])), (.string (mk []))]) h18) fun t14 h19 =>
quietK (stN 5 h19 t14 t90) fun _ h20 =>
bareK (fad 2 t14) h20 fun t91 h21 =>
bareK (ld1 h21 t91) h21 fun t92 h22 =>
mc t92 (fun k6 => k6 .normal [(1, (get tT 1)), (5, (get tT 5)), (6, (get tT 6)), (7, (get tT 7)), (8, (get tT 8)), (12, (get tT 12)), (13, (get tT 13)), (14, t14), (15, (.int .i64 1))] h22) (fun k6 =>
k6 .normal [(1, (get tT 1)), (5, (get tT 5)), (6, (get tT 6)), (7, (get tT 7)), (8, (get tT 8)), (12, (get tT 12)), (13, (get tT 13)), (14, t14), (15, (.int .i64 0))] h22) (seqK (fun tT_1 h23 =>
bareK (fad 0 (get tT_1 14)) h23 fun t93 h24 =>
bareK (ld1 h24 t93) h24 fun t94 h25 =>
ms (fun k7 =>
bareK (xbin P .eql T.int (.tmp 94) (.const (.int .i64 0)) t94 (.int .i64 0)) h25 fun t113 h26 =>
mc t113 (fun k8 => bareK (ixA 2 1 (get tT_1 8) (get tT_1 15)) h26 fun t116 h27 =>
bareK (ld1 h27 t116) h27 fun t117 h28 =>
bareK (fad 3 (get tT_1 14)) h28 fun t119 h29 =>
bareK (ld1 h29 t119) h29 fun t120 h30 =>
enterK C F.law_Giver_give [t117, (get tT_1 6), t120] h30 fun t121 h31 =>
bareK (xextract t121 0) h31 fun t122 h32 =>
bareK (xextract t121 1) h32 fun t123 h33 =>
checkK true <|
bareK (ixA 2 1 (get tT_1 7) (get tT_1 15)) h33 fun t125 h34 =>
bareK (ld1 h34 t125) h34 fun t126 h35 =>
bareK (fad 3 (get tT_1 14)) h35 fun t128 h36 =>
bareK (ld1 h36 t128) h36 fun t129 h37 =>
enterK C F.law_gives [t126, (get tT_1 5), t129, t122, t123] h37 fun t132 h38 =>
mg t132 true (fun o9 => o9 (get tT_1 15) h38) h38 fun t134 h39 =>
mg t132 true (fun o10 => bareK (ixA 2 1 (get tT_1 7) t134) h39 o10) h39 fun t135 h40 =>
mg t132 true (fun o11 => bareK (ld1 h40 t135) h40 o11) h40 fun t136 h41 =>
mg t132 true (fun o12 => bareK (fad 3 (get tT_1 14)) h41 o12) h41 fun t137 h42 =>
mg t132 true (fun o13 => bareK (ld1 h42 t137) h42 o13) h42 fun t138 h43 =>
mg t132 true (fun o14 => enterK C F.law_gives [t136, (.pointer none), t138, (.int .i64 0), (.int .i64 1)] h43 o14) h43 fun t139 h44 =>
pickK t132 t139 (.bool false) fun t140 =>
checkK true <|
k8 .normal [(1, (get tT_1 1)), (5, (get tT_1 5)), (6, (get tT_1 6)), (7, (get tT_1 7)), (8, (get tT_1 8)), (12, (get tT_1 12)), (13, (get tT_1 13)), (16, t140)] h44) (fun k8 =>
bareK (xbin P .eql T.int (.tmp 94) (.const (.int .i64 1)) t94 (.int .i64 1)) h26 fun t142 h45 =>
mc t142 (fun k15 => bareK (ixA 2 1 (get tT_1 8) (get tT_1 15)) h45 fun t144 h46 =>
bareK (ld1 h46 t144) h46 fun t145 h47 =>
bothK (xmakeMap P T.map_string_int none h47) fun t146 h48 =>
bareK (xnilCheck t145) h48 fun t147 h49 =>
bareK (fad 1 t147) h49 fun t148 h50 =>
quietK (st1 h50 t148 t146) fun _ h51 =>
bareK (ixA 2 1 (get tT_1 7) (get tT_1 15)) h51 fun t150 h52 =>
bareK (ld1 h52 t150) h52 fun t151 h53 =>
enterK C F.ids_Giver_Lose [t151] h53 fun t152 h54 =>
k15 .normal [(1, (get tT_1 1)), (5, (get tT_1 5)), (6, (get tT_1 6)), (7, (get tT_1 7)), (8, (get tT_1 8)), (12, (get tT_1 12)), (13, (get tT_1 13)), (16, (.bool true))] h54) (fun k15 =>
bareK (xbin P .eql T.int (.tmp 94) (.const (.int .i64 2)) t94 (.int .i64 2)) h45 fun t154 h55 =>
mc t154 (fun k16 => bareK (ixA 2 1 (get tT_1 8) (get tT_1 15)) h55 fun t157 h56 =>
bareK (ld1 h56 t157) h56 fun t158 h57 =>
enterK C F.law_Giver_back [t158, (get tT_1 6), (get tT_1 12)] h57 fun t161 h58 =>
bareK (xextract t161 0) h58 fun t162 h59 =>
bareK (xextract t161 1) h59 fun t163 h60 =>
bareK (ixA 2 1 (get tT_1 7) (get tT_1 15)) h60 fun t165 h61 =>
bareK (ld1 h61 t165) h61 fun t166 h62 =>
enterK C F.law_returns [t166, (get tT_1 5), t162, t163] h62 fun t170 h63 =>
mg t170 true (fun o17 => o17 (get tT_1 15) h63) h63 fun t172 h64 =>
mg t170 true (fun o18 => bareK (ixA 2 1 (get tT_1 7) t172) h64 o18) h64 fun t173 h65 =>
mg t170 true (fun o19 => bareK (ld1 h65 t173) h65 o19) h65 fun t174 h66 =>
mg t170 true (fun o20 => enterK C F.law_returns [t174, (.pointer none), (.int .i64 0), (.int .i64 1)] h66 o20) h66 fun t175 h67 =>
pickK t170 t175 (.bool false) fun t176 =>
k16 .normal [(1, (get tT_1 1)), (5, (get tT_1 5)), (6, (get tT_1 6)), (7, (get tT_1 7)), (8, (get tT_1 8)), (12, (get tT_1 12)), (13, (get tT_1 13)), (16, t176)] h67) (fun k16 =>
bareK (xbin P .eql T.int (.tmp 94) (.const (.int .i64 3)) t94 (.int .i64 3)) h55 fun t178 h68 =>
mc t178 (fun k21 => bareK (fad 3 (get tT_1 14)) h68 fun t181 h69 =>
bareK (ld1 h69 t181) h69 fun t182 h70 =>
bareK (fad 1 (get tT_1 14)) h70 fun t183 h71 =>
bareK (ld1 h71 t183) h71 fun t184 h72 =>
enterK C F.law_take [(get tT_1 6), t182, t184] h72 fun t185 h73 =>
bareK (xextract t185 0) h73 fun t186 h74 =>
bareK (xextract t185 1) h74 fun t187 h75 =>
bothK (newv T.api_Block (.agg #[(.int .i64 0), (.int .i64 0)]) h75) fun t21 h76 =>
quietK (stN 2 h76 t21 t186) fun _ h77 =>
bareK (fad 3 (get tT_1 14)) h77 fun t189 h78 =>
bareK (ld1 h78 t189) h78 fun t190 h79 =>
bareK (fad 1 (get tT_1 14)) h79 fun t191 h80 =>
bareK (ld1 h80 t191) h80 fun t192 h81 =>
bareK (ldN 2 h81 t21) h81 fun t193 h82 =>
enterK C F.law_takes [(get tT_1 5), t190, t192, t193, t187] h82 fun t195 h83 =>
k21 .normal [(1, (get tT_1 1)), (5, (get tT_1 5)), (6, (get tT_1 6)), (7, (get tT_1 7)), (8, (get tT_1 8)), (12, (get tT_1 12)), (13, (get tT_1 13)), (16, t195)] h83) (fun k21 =>
bareK (xbin P .eql T.int (.tmp 94) (.const (.int .i64 4)) t94 (.int .i64 4)) h68 fun t197 h84 =>
mc t197 (fun k22 => bareK (fad 3 (get tT_1 14)) h84 fun t199 h85 =>
bareK (ld1 h85 t199) h85 fun t200 h86 =>
bareK (fad 4 (get tT_1 14)) h86 fun t201 h87 =>
bareK (ld1 h87 t201) h87 fun t202 h88 =>
enterK C F.model_Model_Put [(get tT_1 5), t200, t202] h88 fun t203 h89 =>
bareK (fad 3 (get tT_1 14)) h89 fun t205 h90 =>
bareK (ld1 h90 t205) h90 fun t206 h91 =>
bareK (fad 4 (get tT_1 14)) h91 fun t207 h92 =>
bareK (ld1 h92 t207) h92 fun t208 h93 =>
enterK C F.model_Model_Put [(get tT_1 6), t206, t208] h93 fun t209 h94 =>
k22 .normal [(1, (get tT_1 1)), (5, (get tT_1 5)), (6, (get tT_1 6)), (7, (get tT_1 7)), (8, (get tT_1 8)), (12, (get tT_1 12)), (13, (get tT_1 13)), (16, (.bool true))] h94) (fun k22 =>
bareK (ixA 2 1 (get tT_1 7) (get tT_1 15)) h84 fun t96 h95 =>
bareK (ld1 h95 t96) h95 fun t97 h96 =>
enterK C F.ids_Giver_Copy [t97] h96 fun t98 h97 =>
bareK (ixA 2 1 (get tT_1 7) (get tT_1 15)) h97 fun t100 h98 =>
bareK (ld1 h98 t100) h98 fun t101 h99 =>
enterK C F.ids_Giver_Lose [t101] h99 fun t102 h100 =>
bareK (ixA 2 1 (get tT_1 7) (get tT_1 15)) h100 fun t104 h101 =>
bareK (ld1 h101 t104) h101 fun t105 h102 =>
bareK (bldS #[(.slice none 0 0)] [(0, 1)] []) h102 fun t106 h103 =>
bothK (newv T.model_Model t106 h103) fun t107 h104 =>
enterK C F.ids_Giver_Give [t105, t107, (.string (mk [111, 116, 104, 101, 114]))] h104 fun t108 h105 =>
bareK (ixA 2 1 (get tT_1 7) (get tT_1 15)) h105 fun t111 h106 =>
quietK (st1 h106 t111 t98) fun _ h107 =>
k22 .normal [(1, (get tT_1 1)), (5, (get tT_1 5)), (6, (get tT_1 6)), (7, (get tT_1 7)), (8, (get tT_1 8)), (12, (get tT_1 12)), (13, (get tT_1 13)), (16, (.bool true))] h107) (afterK [1, 5, 6, 7, 8, 12, 13, 16] k21)) (afterK [1, 5, 6, 7, 8, 12, 13, 16] k16)) (afterK [1, 5, 6, 7, 8, 12, 13, 16] k15)) (afterK [1, 5, 6, 7, 8, 12, 13, 16] k8)) (blkK [1, 5, 6, 7, 8, 12, 13, 16] 4 k7)) (seqK (fun tT_2 h108 =>
bareK (xun P .not (get tT_2 16)) h108 fun t211 h109 =>
mg t211 false (fun o23 => bareK (ixA 2 1 (get tT_2 7) (.int .i64 0)) h109 o23) h109 fun t213 h110 =>
mg t211 false (fun o24 => bareK (ld1 h110 t213) h110 o24) h110 fun t214 h111 =>
mg t211 false (fun o25 => bareK (ixA 2 1 (get tT_2 8) (.int .i64 0)) h111 o25) h111 fun t215 h112 =>
mg t211 false (fun o26 => bareK (ld1 h112 t215) h112 o26) h112 fun t216 h113 =>
mg t211 false (fun o27 => o27 (get tT_2 12) h113) h113 fun t217 h114 =>
mg t211 false (fun o28 => enterK C F.law_alike [t214, t216, t217] h114 o28) h114 fun t218 h115 =>
mg t211 false (fun o29 => bareK (xun P .not t218) h115 o29) h115 fun t219 h116 =>
pickK t211 (.bool true) t219 fun t220 =>
mg t220 false (fun o30 => bareK (ixA 2 1 (get tT_2 7) (.int .i64 1)) h116 o30) h116 fun t222 h117 =>
mg t220 false (fun o31 => bareK (ld1 h117 t222) h117 o31) h117 fun t223 h118 =>
mg t220 false (fun o32 => bareK (ixA 2 1 (get tT_2 8) (.int .i64 1)) h118 o32) h118 fun t224 h119 =>
mg t220 false (fun o33 => bareK (ld1 h119 t224) h119 o33) h119 fun t225 h120 =>
mg t220 false (fun o34 => o34 (get tT_2 12) h120) h120 fun t226 h121 =>
mg t220 false (fun o35 => enterK C F.law_alike [t223, t225, t226] h121 o35) h121 fun t227 h122 =>
mg t220 false (fun o36 => bareK (xun P .not t227) h122 o36) h122 fun t228 h123 =>
pickK t220 (.bool true) t228 fun t229 =>
mg t229 false (fun o37 => o37 (get tT_2 5) h123) h123 fun t231 h124 =>
mg t229 false (fun o38 => o38 (get tT_2 6) h124) h124 fun t232 h125 =>
mg t229 false (fun o39 => enterK C F.model_Equal [t231, t232] h125 o39) h125 fun t233 h126 =>
mg t229 false (fun o40 => bareK (xun P .not t233) h126 o40) h126 fun t234 h127 =>
pickK t229 (.bool true) t234 fun t235 =>
mc t235 (fun k41 => k41 .ret [(4, (.bool false))] h127) (fun k41 =>
k41 .normal [(1, (get tT_2 1)), (5, (get tT_2 5)), (6, (get tT_2 6)), (7, (get tT_2 7)), (8, (get tT_2 8)), (12, (get tT_2 12)), (13, (get tT_2 13))] h127) (blkK [1, 5, 6, 7, 8, 12, 13] 3 k5)) (blkK [1, 5, 6, 7, 8, 12, 13] 3 k5))) (blkK [1, 5, 6, 7, 8, 12, 13] 3 k5))) (seqK (fun tT_3 h128 =>
bareK (xbin P .add T.int (.tmp 85) (.const (.int .i64 1)) (get tT_3 13) (.int .i64 1)) h128 fun t86 h129 =>
k .normal [(1, (get tT_3 1)), (5, (get tT_3 5)), (6, (get tT_3 6)), (7, (get tT_3 7)), (8, (get tT_3 8)), (12, (get tT_3 12)), (13, t86)] h129) (afterK [1, 5, 6, 7, 8, 12, 13] k))) (afterK [1, 5, 6, 7, 8, 12, 13] k))

theorem s_law_IdsPlays_eq (M : CombL) (C : CallF) (LP : LoopH) (a0 : Value) (a1 : Value) (H : AHeap) : dBodyL M Tryz.prog hints C LP F.law_IdsPlays [a0, a1] H = s_law_IdsPlays M.b.g M.c M.s Tryz.prog C (fun v1 v2 v5 v6 v7 v8 v9 H k => loopL M Tryz.prog hints C LP F.law_IdsPlays 0 [(1, v1), (2, v2), (5, v5), (6, v6), (7, v7), (8, v8), (9, v9)] H k) (fun v1 v5 v6 v7 v8 v12 v13 H k => loopL M Tryz.prog hints C LP F.law_IdsPlays 1 [(1, v1), (5, v5), (6, v6), (7, v7), (8, v8), (12, v12), (13, v13)] H k) a0 a1 H (endK Tryz.prog [.tmp 4]) := by kernel_rfl

theorem s_law_IdsPlays_b0_eq (M : CombL) (C : CallF) (LP : LoopH) (v1 : Value) (v2 : Value) (v5 : Value) (v6 : Value) (v7 : Value) (v8 : Value) (v9 : Value) (H : AHeap) (k : K) : bodyL M Tryz.prog hints C LP F.law_IdsPlays 0 [(1, v1), (2, v2), (5, v5), (6, v6), (7, v7), (8, v8), (9, v9)] H (afterK [1, 2, 5, 6, 7, 8, 9] k) = s_law_IdsPlays_b0 M.b.g M.c M.s Tryz.prog C (fun v1 v2 v5 v6 v7 v8 v9 H k => loopL M Tryz.prog hints C LP F.law_IdsPlays 0 [(1, v1), (2, v2), (5, v5), (6, v6), (7, v7), (8, v8), (9, v9)] H k) (fun v1 v5 v6 v7 v8 v12 v13 H k => loopL M Tryz.prog hints C LP F.law_IdsPlays 1 [(1, v1), (5, v5), (6, v6), (7, v7), (8, v8), (12, v12), (13, v13)] H k) v1 v2 v5 v6 v7 v8 v9 H k := by kernel_rfl

theorem s_law_IdsPlays_b1_eq (M : CombL) (C : CallF) (LP : LoopH) (v1 : Value) (v5 : Value) (v6 : Value) (v7 : Value) (v8 : Value) (v12 : Value) (v13 : Value) (H : AHeap) (k : K) : bodyL M Tryz.prog hints C LP F.law_IdsPlays 1 [(1, v1), (5, v5), (6, v6), (7, v7), (8, v8), (12, v12), (13, v13)] H (afterK [1, 5, 6, 7, 8, 12, 13] k) = s_law_IdsPlays_b1 M.b.g M.c M.s Tryz.prog C (fun v1 v2 v5 v6 v7 v8 v9 H k => loopL M Tryz.prog hints C LP F.law_IdsPlays 0 [(1, v1), (2, v2), (5, v5), (6, v6), (7, v7), (8, v8), (9, v9)] H k) (fun v1 v5 v6 v7 v8 v12 v13 H k => loopL M Tryz.prog hints C LP F.law_IdsPlays 1 [(1, v1), (5, v5), (6, v6), (7, v7), (8, v8), (12, v12), (13, v13)] H k) v1 v5 v6 v7 v8 v12 v13 H k := by kernel_rfl

end Go.Proofs.YtlfpjndbpclnnaaGreatDoor

/-
  The equations of the seat's functions over calls in the limit (a program of ours printed it).
  Conditions: none. By an AI agent.
-/
set_option linter.unusedVariables false
namespace Go.Proofs.YtlfpjndbpclnnaaGreatDoor
open Go Eng

theorem u_n2_int : Tryz.prog.underlying T.n2_int = Tryz.prog.underlying 22 := rfl
theorem u_n2_ids_Giver : Tryz.prog.underlying T.n2_ids_Giver = Tryz.prog.underlying 31 := rfl
theorem u_n2_ticketlinelaw_Giver : Tryz.prog.underlying T.n2_ticketlinelaw_Giver = Tryz.prog.underlying 33 := rfl
theorem u_law_Giver : Tryz.prog.underlying T.law_Giver = Tryz.prog.underlying 39 := rfl
theorem u_law_Act : Tryz.prog.underlying T.law_Act = Tryz.prog.underlying 43 := rfl

noncomputable def l_law_IdsPlays_0 (v1 : Value) (v2 : Value) (v5 : Value) (v6 : Value) (v7 : Value) (v8 : Value) (v9 : Value) (H : AHeap) (k : K) : Res := loopL stdL Tryz.prog hints CC limLP F.law_IdsPlays 0 [(1, v1), (2, v2), (5, v5), (6, v6), (7, v7), (8, v8), (9, v9)] H k
noncomputable def l_law_IdsPlays_1 (v1 : Value) (v5 : Value) (v6 : Value) (v7 : Value) (v8 : Value) (v12 : Value) (v13 : Value) (H : AHeap) (k : K) : Res := loopL stdL Tryz.prog hints CC limLP F.law_IdsPlays 1 [(1, v1), (5, v5), (6, v6), (7, v7), (8, v8), (12, v12), (13, v13)] H k
theorem r_law_IdsPlays_0 (v1 : Value) (v2 : Value) (v5 : Value) (v6 : Value) (v7 : Value) (v8 : Value) (v9 : Value) (H : AHeap) (k : K) : l_law_IdsPlays_0 v1 v2 v5 v6 v7 v8 v9 H k = s_law_IdsPlays_b0 guardK condL shareL Tryz.prog CC l_law_IdsPlays_0 l_law_IdsPlays_1 v1 v2 v5 v6 v7 v8 v9 H (seqK (fun T H => l_law_IdsPlays_0 (get T 1) (get T 2) (get T 5) (get T 6) (get T 7) (get T 8) (get T 9) H k) k) := ((loopL_next (by kernel_rfl) rfl H k).trans (s_law_IdsPlays_b0_eq stdL CC limLP v1 v2 v5 v6 v7 v8 v9 H _)).trans (by kernel_rfl)
theorem r_law_IdsPlays_1 (v1 : Value) (v5 : Value) (v6 : Value) (v7 : Value) (v8 : Value) (v12 : Value) (v13 : Value) (H : AHeap) (k : K) : l_law_IdsPlays_1 v1 v5 v6 v7 v8 v12 v13 H k = s_law_IdsPlays_b1 guardK condL shareL Tryz.prog CC l_law_IdsPlays_0 l_law_IdsPlays_1 v1 v5 v6 v7 v8 v12 v13 H (seqK (fun T H => l_law_IdsPlays_1 (get T 1) (get T 5) (get T 6) (get T 7) (get T 8) (get T 12) (get T 13) H k) k) := ((loopL_next (by kernel_rfl) rfl H k).trans (s_law_IdsPlays_b1_eq stdL CC limLP v1 v5 v6 v7 v8 v12 v13 H _)).trans (by kernel_rfl)
theorem d_law_IdsPlays (a0 : Value) (a1 : Value) (H : AHeap) {r : Value × AHeap} (h : s_law_IdsPlays guardK condL shareL Tryz.prog CC l_law_IdsPlays_0 l_law_IdsPlays_1 a0 a1 H (endK Tryz.prog [.tmp 4]) = some r) : CC F.law_IdsPlays [a0, a1] H = some (tidy H r) := D_body (by kernel_rfl) ((s_law_IdsPlays_eq stdL CC limLP a0 a1 H).trans (Eq.trans (show s_law_IdsPlays stdL.b.g stdL.c stdL.s Tryz.prog CC (fun v1 v2 v5 v6 v7 v8 v9 H k => loopL stdL Tryz.prog hints CC limLP F.law_IdsPlays 0 [(1, v1), (2, v2), (5, v5), (6, v6), (7, v7), (8, v8), (9, v9)] H k) (fun v1 v5 v6 v7 v8 v12 v13 H k => loopL stdL Tryz.prog hints CC limLP F.law_IdsPlays 1 [(1, v1), (5, v5), (6, v6), (7, v7), (8, v8), (12, v12), (13, v13)] H k) a0 a1 H (endK Tryz.prog [.tmp 4]) = s_law_IdsPlays guardK condL shareL Tryz.prog CC l_law_IdsPlays_0 l_law_IdsPlays_1 a0 a1 H (endK Tryz.prog [.tmp 4]) by kernel_rfl) h))

end Go.Proofs.YtlfpjndbpclnnaaGreatDoor

/-
  Chapter 47: IdsPlays: one call.
  Conditions: none. By an AI agent.
-/
set_option maxRecDepth 10000
set_option linter.unusedSimpArgs false
set_option linter.unusedVariables false
namespace Go.Proofs.YtlfpjndbpclnnaaGreatDoor
open Go Eng

section
variable {H0 H H' : AHeap} {col : Nat → Nat} {bm bc : Nat} {M : List Pr} {ga xa : Nat} {gb mb xb rb : Bool → Nat} {sz : Bool → Int} {E : Bool → Be} {R : Bool → Re} {kb : Nat → Prop} {kf : Nat → Blk}
/-- The checks after each call. -/
theorem LS.chk (w : LS H0 H col bm bc M M ga xa gb mb xb rb sz E E R kb kf) {va : Value} {all : List ByteArray} (ev : ∀ k, EV (E k) all) (rd : Rd EStr H va all) (hl : all.length ≤ 1000) :
    (∀ k, CC F.law_alike [.pointer (some ⟨gb k, 0, none⟩), .pointer (some ⟨xb k, 0, none⟩), va] H = some (.bool true, H)) ∧ CC F.model_Equal [.pointer (some ⟨bm, 0, none⟩), .pointer (some ⟨bc, 0, none⟩)] H = some (.bool true, H) := by
  refine ⟨fun k => q_alike (w.rs k) (w.gv k) (ev k).ok (ev k).sh (ev k).e0.ez (ev k).ky va all rd (by omega), ?_⟩
  have h1 := w.fm.len
  have h2 := q_Equal bm bc M M H w.fm.mdl w.fc.mdl (by omega) (by omega)
  rw [decide_eq_true rfl] at h2
  exact h2
end

@[go_sem] theorem ixa0 {b : Nat} : ixA 2 1 (.pointer (some ⟨b, 0, none⟩)) (.int .i64 0) = some (.pointer (some ⟨b, 0, none⟩)) := rfl
@[go_sem] theorem ixa1 {b : Nat} : ixA 2 1 (.pointer (some ⟨b, 0, none⟩)) (.int .i64 1) = some (.pointer (some ⟨b, 1, none⟩)) := rfl
def actC (a : Act) : Blk := .cells [.int .i64 a.what, .int .i64 a.n, .bool a.two, .string a.name, .string a.value] T.law_Act true
/-- The state before a call. -/
structure St (H0 : AHeap) (bm bc ga xa : Nat) (sz : Bool → Int) (va : Value) (all : List ByteArray) (i : Nat) (H : AHeap) : Prop where
  ex : ∃ col gb mb xb rb R M E, LS H0 H col bm bc M M ga xa gb mb xb rb sz E E R (fun b => blockOf va = some b) H.f ∧ (∀ k, EV (E k) all) ∧ M.length ≤ 31 * i
  rd : Rd EStr H va all
  lv : ∀ b, blockOf va = some b → b < H.n

theorem St.fin {H0 H H2 : AHeap} {col : Nat → Nat} {bm bc ga xa : Nat} {sz : Bool → Int} {va : Value} {all : List ByteArray} {gb mb xb rb : Bool → Nat} {R : Bool → Re} {M : List Pr} {E : Bool → Be} {c : Blk} {i : Nat} (rd : Rd EStr H va all) (lv : ∀ b, blockOf va = some b → b < H.n) (w : LS H0 H2 col bm bc M M ga xa gb mb xb rb sz E E R (fun b => blockOf va = some b ∨ b = H.n) (fun b => if b = H.n then c else H.f b)) (ev : ∀ k, EV (E k) all) (hM : M.length ≤ 31 * i) : St H0 bm bc ga xa sz va all i H2 := by
  have key : ∀ b, blockOf va = some b → H2.f b = H.f b ∧ b < H2.n := fun b hb => by
    obtain ⟨h1, h2, _⟩ := w.kp b (.inl hb)
    have := lv b hb
    rw [if_neg (show ¬ b = H.n by omega)] at h1
    exact ⟨h1, h2⟩
  exact ⟨⟨col, gb, mb, xb, rb, R, M, E, w.less fun b hb => ⟨.inl hb, (w.kp b (.inl hb)).1⟩, ev, hM⟩, rd_at rd key, fun b hb => (key b hb).2⟩
theorem LS.act {H0 H H2 : AHeap} {col : Nat → Nat} {bm bc ga xa : Nat} {sz : Bool → Int} {gb mb xb rb : Bool → Nat} {R : Bool → Re} {M M' : List Pr} {E E' : Bool → Be} {c : Blk} {kb : Nat → Prop} {kf : Nat → Blk} {a : Nat} (w : LS H0 H2 col bm bc M M' ga xa gb mb xb rb sz E E' R (fun b => kb b ∨ b = a) (fun b => if b = a then c else kf b)) : H2.f a = c :=
  (w.kp a (.inr rfl)).1.trans (if_pos rfl)
theorem LS.names {H0 H H2 : AHeap} {col : Nat → Nat} {bm bc ga xa : Nat} {sz : Bool → Int} {va : Value} {all : List ByteArray} {gb mb xb rb : Bool → Nat} {R : Bool → Re} {M M' : List Pr} {E E' : Bool → Be} {c : Blk} (rd : Rd EStr H va all) (lv : ∀ b, blockOf va = some b → b < H.n) (w : LS H0 H2 col bm bc M M' ga xa gb mb xb rb sz E E' R (fun b => blockOf va = some b ∨ b = H.n) (fun b => if b = H.n then c else H.f b)) : Rd EStr H2 va all :=
  rd_at rd fun b hb => by
    obtain ⟨h1, h2, _⟩ := w.kp b (.inl hb)
    have := lv b hb
    rw [if_neg (show ¬ b = H.n by omega)] at h1
    exact ⟨h1, h2⟩

def Goes (H0 : AHeap) (bm bc ga xa : Nat) (sz : Bool → Int) (va : Value) (all : List ByteArray) (v1 : Value) (i : Nat) (H : AHeap) : Prop :=
  ∃ H', St H0 bm bc ga xa sz va all (i + 1) H' ∧ ∀ K : K, l_law_IdsPlays_1 v1 (.pointer (some ⟨bm, 0, none⟩)) (.pointer (some ⟨bc, 0, none⟩)) (.pointer (some ⟨ga, 0, none⟩)) (.pointer (some ⟨xa, 0, none⟩)) va (.int .i64 (i : Int)) H K = l_law_IdsPlays_1 v1 (.pointer (some ⟨bm, 0, none⟩)) (.pointer (some ⟨bc, 0, none⟩)) (.pointer (some ⟨ga, 0, none⟩)) (.pointer (some ⟨xa, 0, none⟩)) va (.int .i64 ((i : Int) + 1)) H' K

set_option maxHeartbeats 4000000 in
theorem b_give {H0 : AHeap} {bm bc ga xa : Nat} {sz : Bool → Int} {va : Value} {all : List ByteArray} (hal : all.length ≤ 30) (l : List Act) (v1 : Value) (hr : Rd EAct H0 v1 l) (i : Nat) (hi : i < l.length) (hll : l.length ≤ 30) (hn : l[i].name ∈ all) (H : AHeap) (s : St H0 bm bc ga xa sz va all i H) (h0 : l[i].what = 0) : Goes H0 bm bc ga xa sz va all v1 i H := by
  obtain ⟨⟨col, gb, mb, xb, rb, R, M, E, w, ev, hM⟩, rd, lv⟩ := s
  have hlen := hr.lenS
  have hlt : (i : Int) < (l.length : Int) := by omega
  obtain ⟨b1, o1, ix, c5, _, _, _⟩ := rd_act (hr.still w.fm.still) hi
  generalize l[i] = a at *
  obtain ⟨what, n, two, name, value⟩ := a
  simp only at *
  subst h0
  obtain ⟨Ha, hHa⟩ : ∃ Ha, H.push (.cells [.int .i64 0, .int .i64 0, .bool false, .string (mk []), .string (mk [])] T.law_Act true) = Ha := ⟨_, rfl⟩
  have fa : Ha.f H.n = .cells [.int .i64 0, .int .i64 0, .bool false, .string (mk []), .string (mk [])] T.law_Act true := by rw [← hHa]; exact push_f_eq rfl
  have sa : Still H Ha := by rw [← hHa]; exact (Fr.refl H).push _
  obtain ⟨Hb, hHb⟩ : ∃ Hb, Ha.set H.n (.cells [.int .i64 0, .int .i64 n, .bool two, .string name, .string value] T.law_Act true) = Hb := ⟨_, rfl⟩
  have fb : Hb.f H.n = .cells [.int .i64 0, .int .i64 n, .bool two, .string name, .string value] T.law_Act true := by rw [← hHb]; exact set_f_eq
  have sb : Still H Hb := by rw [← hHb]; exact Fr.set sa _ _ fun h => by omega
  have nb : H.n < Hb.n := by rw [← hHb, ← hHa]; exact Nat.lt_succ_self _
  have wb := w.more sb (Nat.le_refl _) nb fb
  have gb0 := wb.fg
  have xb0 := wb.fx
  obtain ⟨H1, R1, m1, r1, u1, hR1⟩ := q_lgive (wb.rs two) (ev two).ok (ev two).sh (by omega) name
  obtain ⟨col1, w1⟩ := wb.stepX two r1 u1 hR1
  have f1 := w1.act (H := H)
  have gb1 := w1.fg
  obtain ⟨H2, m2, g2, u2⟩ := q_gives (w1.gs two) (ev two).ok (by omega) name
  obtain ⟨col2, w2⟩ := w1.stepG two g2 u2
  have f2 := w2.act (H := H)
  have gb2 := w2.fg
  have xb2 := w2.fx
  have m3 := q_gives0 (w2.gv two) name
  have ev2 : ∀ k, EV (upB E two (gvR M (E two) name (sz two)).2.2 k) all := fun k => by
    unfold upB
    split
    · exact (ev two).gv M hn _
    · exact ev k
  obtain ⟨ck1, ck2⟩ := w2.chk ev2 (w2.names rd lv) (by omega)
  have ck3 := ck1 false
  have ck4 := ck1 true
  have hM2 := gvR_len M (E two) name (sz two)
  refine ⟨H2, St.fin rd lv w2 ev2 (by omega), fun K => ?_⟩
  rw [r_law_IdsPlays_1]
  cases two
  · simp (disch := first | with_reducible rfl | assumption | omega | rfl | (simp only [go_sem]; first | done | omega)) only [go_sem, ↓reduceIte, reduceCtorEq, Nat.reduceEqDiff, Nat.reduceAdd, Nat.reduceSub, Nat.reduceMul, Nat.reduceDiv, Nat.reduceMod, Nat.reduceLeDiff, Nat.reduceLT, Nat.reduceBEq, Int.reduceEq, Int.reduceBEq, Int.reduceBNe, Int.reduceLT, Int.reduceLE, Int.reduceAdd, Int.reduceSub, Int.reduceNeg, Int.reduceToNat, Int.reducePow, Nat.reducePow, Int.reduceMul, Int.reduceDiv, ↓s_law_IdsPlays_b1, hlen, hlt, ix, c5, hHa, fa, hHb, fb, gb0, xb0, ↓enterK_eq m1, enterK_eq m1, f1, gb1, ↓enterK_eq m2, enterK_eq m2, f2, gb2, xb2, ↓enterK_eq m3, enterK_eq m3, ↓enterK_eq ck3, enterK_eq ck3, ↓enterK_eq ck4, enterK_eq ck4, ↓enterK_eq ck2, enterK_eq ck2]
  · simp (disch := first | with_reducible rfl | assumption | omega | rfl | (simp only [go_sem]; first | done | omega)) only [go_sem, ↓reduceIte, reduceCtorEq, Nat.reduceEqDiff, Nat.reduceAdd, Nat.reduceSub, Nat.reduceMul, Nat.reduceDiv, Nat.reduceMod, Nat.reduceLeDiff, Nat.reduceLT, Nat.reduceBEq, Int.reduceEq, Int.reduceBEq, Int.reduceBNe, Int.reduceLT, Int.reduceLE, Int.reduceAdd, Int.reduceSub, Int.reduceNeg, Int.reduceToNat, Int.reducePow, Nat.reducePow, Int.reduceMul, Int.reduceDiv, ↓s_law_IdsPlays_b1, hlen, hlt, ix, c5, hHa, fa, hHb, fb, gb0, xb0, ↓enterK_eq m1, enterK_eq m1, f1, gb1, ↓enterK_eq m2, enterK_eq m2, f2, gb2, xb2, ↓enterK_eq m3, enterK_eq m3, ↓enterK_eq ck3, enterK_eq ck3, ↓enterK_eq ck4, enterK_eq ck4, ↓enterK_eq ck2, enterK_eq ck2]

end Go.Proofs.YtlfpjndbpclnnaaGreatDoor

/-
  Chapter 47: IdsPlays: the other calls.
  Conditions: none. By an AI agent. Printed by acts.py.
-/
set_option maxRecDepth 10000
set_option linter.unusedSimpArgs false
set_option linter.unusedVariables false
namespace Go.Proofs.YtlfpjndbpclnnaaGreatDoor
open Go Eng

theorem atR_nil (s : ByteArray) : atR [] s = .slice none 0 0 := rfl
theorem nums_none (s : ByteArray) : nums (atB [] s) = [] := rfl

set_option maxHeartbeats 4000000 in
theorem b_lose {H0 : AHeap} {bm bc ga xa : Nat} {sz : Bool → Int} {va : Value} {all : List ByteArray} (hal : all.length ≤ 30) (hnm : NmS all) (l : List Act) (v1 : Value) (hr : Rd EAct H0 v1 l) (i : Nat) (hi : i < l.length) (hll : l.length ≤ 30) (hn : l[i].name ∈ all) (H : AHeap) (s : St H0 bm bc ga xa sz va all i H) (h0 : l[i].what = 1) : Goes H0 bm bc ga xa sz va all v1 i H := by
  obtain ⟨⟨col, gb, mb, xb, rb, R, M, E, w, ev, hM⟩, rd, lv⟩ := s
  have hlen := hr.lenS
  have hlt : (i : Int) < (l.length : Int) := by omega
  obtain ⟨b1, o1, ix, c5, _, _, _⟩ := rd_act (hr.still w.fm.still) hi
  generalize l[i] = a at *
  obtain ⟨what, n, two, name, value⟩ := a
  simp only at *
  subst h0
  obtain ⟨Ha, hHa⟩ : ∃ Ha, H.push (.cells [.int .i64 0, .int .i64 0, .bool false, .string (mk []), .string (mk [])] T.law_Act true) = Ha := ⟨_, rfl⟩
  have fa : Ha.f H.n = .cells [.int .i64 0, .int .i64 0, .bool false, .string (mk []), .string (mk [])] T.law_Act true := by rw [← hHa]; exact push_f_eq rfl
  have sa : Still H Ha := by rw [← hHa]; exact (Fr.refl H).push _
  obtain ⟨Hb, hHb⟩ : ∃ Hb, Ha.set H.n (.cells [.int .i64 1, .int .i64 n, .bool two, .string name, .string value] T.law_Act true) = Hb := ⟨_, rfl⟩
  have fb : Hb.f H.n = .cells [.int .i64 1, .int .i64 n, .bool two, .string name, .string value] T.law_Act true := by rw [← hHb]; exact set_f_eq
  have sb : Still H Hb := by rw [← hHb]; exact Fr.set sa _ _ fun h => by omega
  have nb : H.n < Hb.n := by rw [← hHb, ← hHa]; exact Nat.lt_succ_self _
  have wb := w.more sb (Nat.le_refl _) nb fb
  have gb0 := wb.fg
  have xb0 := wb.fx
  have mkI := make_map (H := Hb) mtInts
  obtain ⟨H1, hH1⟩ : ∃ H1, Hb.push (.map []) = H1 := ⟨_, rfl⟩
  rw [hH1] at mkI
  have s1 : Still Hb H1 := by rw [← hH1]; exact (Fr.refl Hb).push _
  have n1 : H1.n = Hb.n + 1 := by rw [← hH1]; rfl
  have fm1 : H1.f Hb.n = .map [] := by rw [← hH1]; exact push_f_eq rfl
  have xk := wb.xs two
  have hxn := xk.xn
  have fx1 : H1.f (xb two) = .cells [.int .i64 (sz two), .map (some (rb two))] T.law_Giver true := by rw [s1.f hxn fun h => h]; exact xk.f
  obtain ⟨H2, hH2⟩ : ∃ H2, H1.set (xb two) (.cells [.int .i64 (sz two), .map (some Hb.n)] T.law_Giver true) = H2 := ⟨_, rfl⟩
  have n2 : H2.n = H1.n := by rw [← hH2]; rfl
  have fr2 : Fr (fun b => b = xb two) Hb H2 := by rw [← hH2]; exact Fr.set s1.still _ _ fun _ => rfl
  have x2 : XS H0 H2 (xb two) Hb.n (sz two) [] (fun s => nums (atB [] s)) :=
    ⟨by rw [← hH2]; exact set_f_eq, by rw [← hH2, H1.set_other _ (by omega)]; exact fm1, by omega, by omega, by omega, xk.nx, wb.fm.still.n, fun s => .inl ⟨rfl, rfl⟩, fun s b hb => by rw [atR_nil] at hb; cases hb⟩
  obtain ⟨col2, w2⟩ := wb.stepL two x2 fr2 (Nat.le_refl _) fun s b hb => by rw [atR_nil] at hb; cases hb
  have gb1 : H1.f ga = _ := (s1.f wb.an fun h => h).trans wb.fg
  have xb1 : H1.f xa = _ := (s1.f wb.yn fun h => h).trans wb.fx
  have gb2 := w2.fg
  obtain ⟨H3, m3, gv3, fr3, _⟩ := q_Lose w2.fm.ok (w2.gv two)
  obtain ⟨col3, w3⟩ := w2.stepG two ((w2.gs two).giv gv3 fr3) (UpG.of_giv (w2.gs two) fr3)
  have gb3 := w3.fg
  have xb3 := w3.fx
  have ev3 : ∀ k, EV (upB E two [] k) all := fun k => by
    unfold upB
    split
    · exact EV.nil all
    · exact ev k
  obtain ⟨ck1, ck2⟩ := w3.chk ev3 (w3.names rd lv) (by omega)
  have ck3 := ck1 false
  have ck4 := ck1 true
  refine ⟨H3, St.fin rd lv w3 ev3 (by omega), fun K => ?_⟩
  rw [r_law_IdsPlays_1]
  cases two
  · simp (disch := first | with_reducible rfl | assumption | omega | rfl | (simp only [go_sem]; first | done | omega)) only [go_sem, ↓reduceIte, reduceCtorEq, Nat.reduceEqDiff, Nat.reduceAdd, Nat.reduceSub, Nat.reduceMul, Nat.reduceDiv, Nat.reduceMod, Nat.reduceLeDiff, Nat.reduceLT, Nat.reduceBEq, Int.reduceEq, Int.reduceBEq, Int.reduceBNe, Int.reduceLT, Int.reduceLE, Int.reduceAdd, Int.reduceSub, Int.reduceNeg, Int.reduceToNat, Int.reducePow, Nat.reducePow, Int.reduceMul, Int.reduceDiv, ↓s_law_IdsPlays_b1, hlen, hlt, ix, c5, hHa, fa, hHb, fb, gb0, xb0, mkI, fx1, hH2, gb1, gb2, ↓enterK_eq m3, enterK_eq m3, gb3, xb3, ↓enterK_eq ck3, enterK_eq ck3, ↓enterK_eq ck4, enterK_eq ck4, ↓enterK_eq ck2, enterK_eq ck2]
  · simp (disch := first | with_reducible rfl | assumption | omega | rfl | (simp only [go_sem]; first | done | omega)) only [go_sem, ↓reduceIte, reduceCtorEq, Nat.reduceEqDiff, Nat.reduceAdd, Nat.reduceSub, Nat.reduceMul, Nat.reduceDiv, Nat.reduceMod, Nat.reduceLeDiff, Nat.reduceLT, Nat.reduceBEq, Int.reduceEq, Int.reduceBEq, Int.reduceBNe, Int.reduceLT, Int.reduceLE, Int.reduceAdd, Int.reduceSub, Int.reduceNeg, Int.reduceToNat, Int.reducePow, Nat.reducePow, Int.reduceMul, Int.reduceDiv, ↓s_law_IdsPlays_b1, hlen, hlt, ix, c5, hHa, fa, hHb, fb, gb0, xb0, mkI, fx1, hH2, gb1, gb2, ↓enterK_eq m3, enterK_eq m3, gb3, xb3, ↓enterK_eq ck3, enterK_eq ck3, ↓enterK_eq ck4, enterK_eq ck4, ↓enterK_eq ck2, enterK_eq ck2]

set_option maxHeartbeats 4000000 in
theorem b_return {H0 : AHeap} {bm bc ga xa : Nat} {sz : Bool → Int} {va : Value} {all : List ByteArray} (hal : all.length ≤ 30) (hnm : NmS all) (l : List Act) (v1 : Value) (hr : Rd EAct H0 v1 l) (i : Nat) (hi : i < l.length) (hll : l.length ≤ 30) (hn : l[i].name ∈ all) (H : AHeap) (s : St H0 bm bc ga xa sz va all i H) (h0 : l[i].what = 2) : Goes H0 bm bc ga xa sz va all v1 i H := by
  obtain ⟨⟨col, gb, mb, xb, rb, R, M, E, w, ev, hM⟩, rd, lv⟩ := s
  have hlen := hr.lenS
  have hlt : (i : Int) < (l.length : Int) := by omega
  obtain ⟨b1, o1, ix, c5, _, _, _⟩ := rd_act (hr.still w.fm.still) hi
  generalize l[i] = a at *
  obtain ⟨what, n, two, name, value⟩ := a
  simp only at *
  subst h0
  obtain ⟨Ha, hHa⟩ : ∃ Ha, H.push (.cells [.int .i64 0, .int .i64 0, .bool false, .string (mk []), .string (mk [])] T.law_Act true) = Ha := ⟨_, rfl⟩
  have fa : Ha.f H.n = .cells [.int .i64 0, .int .i64 0, .bool false, .string (mk []), .string (mk [])] T.law_Act true := by rw [← hHa]; exact push_f_eq rfl
  have sa : Still H Ha := by rw [← hHa]; exact (Fr.refl H).push _
  obtain ⟨Hb, hHb⟩ : ∃ Hb, Ha.set H.n (.cells [.int .i64 2, .int .i64 n, .bool two, .string name, .string value] T.law_Act true) = Hb := ⟨_, rfl⟩
  have fb : Hb.f H.n = .cells [.int .i64 2, .int .i64 n, .bool two, .string name, .string value] T.law_Act true := by rw [← hHb]; exact set_f_eq
  have sb : Still H Hb := by rw [← hHb]; exact Fr.set sa _ _ fun h => by omega
  have nb : H.n < Hb.n := by rw [← hHb, ← hHa]; exact Nat.lt_succ_self _
  have wb := w.more sb (Nat.le_refl _) nb fb
  have gb0 := wb.fg
  have xb0 := wb.fx
  have hle := (ev two).len hnm
  have heq := retLR_eq (M := M) (ev two).e0 hnm (ev two).sub
  have hML := retLR_len M (E two) all
  obtain ⟨H1, R1, m1, r1, u1, hR1⟩ := q_lback (wb.rs two) (ev two).ok (ev two).sh va all (wb.names rd lv) (by omega) hnm.nodup
  rw [heq] at m1 r1 hML
  obtain ⟨col1, w1⟩ := wb.stepX two r1 u1 hR1
  have f1 := w1.act (H := H)
  have gb1 := w1.fg
  obtain ⟨H2, m2, g2, e2, u2⟩ := q_returns (w1.gs two) (ev two).ok (ev two).ky (by omega)
  obtain ⟨col2, w2⟩ := w1.stepG two g2 u2
  have gb2 := w2.fg
  have xb2 := w2.fx
  have m3 := q_returns0 (w2.gv two)
  have ev2 : ∀ k, EV (upB E two (retR M (E two)).2.2 k) all := fun k => by
    unfold upB
    split
    · exact (ev two).ret M
    · exact ev k
  obtain ⟨ck1, ck2⟩ := w2.chk ev2 (w2.names rd lv) (by omega)
  have ck3 := ck1 false
  have ck4 := ck1 true
  refine ⟨H2, St.fin rd lv w2 ev2 (by omega), fun K => ?_⟩
  rw [r_law_IdsPlays_1]
  cases two
  · simp (disch := first | with_reducible rfl | assumption | omega | rfl | (simp only [go_sem]; first | done | omega)) only [go_sem, ↓reduceIte, reduceCtorEq, Nat.reduceEqDiff, Nat.reduceAdd, Nat.reduceSub, Nat.reduceMul, Nat.reduceDiv, Nat.reduceMod, Nat.reduceLeDiff, Nat.reduceLT, Nat.reduceBEq, Int.reduceEq, Int.reduceBEq, Int.reduceBNe, Int.reduceLT, Int.reduceLE, Int.reduceAdd, Int.reduceSub, Int.reduceNeg, Int.reduceToNat, Int.reducePow, Nat.reducePow, Int.reduceMul, Int.reduceDiv, ↓s_law_IdsPlays_b1, hlen, hlt, ix, c5, hHa, fa, hHb, fb, gb0, xb0, ↓enterK_eq m1, enterK_eq m1, gb1, ↓enterK_eq m2, enterK_eq m2, gb2, xb2, ↓enterK_eq m3, enterK_eq m3, ↓enterK_eq ck3, enterK_eq ck3, ↓enterK_eq ck4, enterK_eq ck4, ↓enterK_eq ck2, enterK_eq ck2]
  · simp (disch := first | with_reducible rfl | assumption | omega | rfl | (simp only [go_sem]; first | done | omega)) only [go_sem, ↓reduceIte, reduceCtorEq, Nat.reduceEqDiff, Nat.reduceAdd, Nat.reduceSub, Nat.reduceMul, Nat.reduceDiv, Nat.reduceMod, Nat.reduceLeDiff, Nat.reduceLT, Nat.reduceBEq, Int.reduceEq, Int.reduceBEq, Int.reduceBNe, Int.reduceLT, Int.reduceLE, Int.reduceAdd, Int.reduceSub, Int.reduceNeg, Int.reduceToNat, Int.reducePow, Nat.reducePow, Int.reduceMul, Int.reduceDiv, ↓s_law_IdsPlays_b1, hlen, hlt, ix, c5, hHa, fa, hHb, fb, gb0, xb0, ↓enterK_eq m1, enterK_eq m1, gb1, ↓enterK_eq m2, enterK_eq m2, gb2, xb2, ↓enterK_eq m3, enterK_eq m3, ↓enterK_eq ck3, enterK_eq ck3, ↓enterK_eq ck4, enterK_eq ck4, ↓enterK_eq ck2, enterK_eq ck2]

set_option maxHeartbeats 4000000 in
theorem b_take {H0 : AHeap} {bm bc ga xa : Nat} {sz : Bool → Int} {va : Value} {all : List ByteArray} (hal : all.length ≤ 30) (hnm : NmS all) (l : List Act) (v1 : Value) (hr : Rd EAct H0 v1 l) (i : Nat) (hi : i < l.length) (hll : l.length ≤ 30) (hn : l[i].name ∈ all) (H : AHeap) (s : St H0 bm bc ga xa sz va all i H) (h0 : l[i].what = 3) : Goes H0 bm bc ga xa sz va all v1 i H := by
  obtain ⟨⟨col, gb, mb, xb, rb, R, M, E, w, ev, hM⟩, rd, lv⟩ := s
  have hlen := hr.lenS
  have hlt : (i : Int) < (l.length : Int) := by omega
  obtain ⟨b1, o1, ix, c5, _, _, _⟩ := rd_act (hr.still w.fm.still) hi
  generalize l[i] = a at *
  obtain ⟨what, n, two, name, value⟩ := a
  simp only at *
  subst h0
  obtain ⟨Ha, hHa⟩ : ∃ Ha, H.push (.cells [.int .i64 0, .int .i64 0, .bool false, .string (mk []), .string (mk [])] T.law_Act true) = Ha := ⟨_, rfl⟩
  have fa : Ha.f H.n = .cells [.int .i64 0, .int .i64 0, .bool false, .string (mk []), .string (mk [])] T.law_Act true := by rw [← hHa]; exact push_f_eq rfl
  have sa : Still H Ha := by rw [← hHa]; exact (Fr.refl H).push _
  obtain ⟨Hb, hHb⟩ : ∃ Hb, Ha.set H.n (.cells [.int .i64 3, .int .i64 n, .bool two, .string name, .string value] T.law_Act true) = Hb := ⟨_, rfl⟩
  have fb : Hb.f H.n = .cells [.int .i64 3, .int .i64 n, .bool two, .string name, .string value] T.law_Act true := by rw [← hHb]; exact set_f_eq
  have sb : Still H Hb := by rw [← hHb]; exact Fr.set sa _ _ fun h => by omega
  have nb : H.n < Hb.n := by rw [← hHb, ← hHa]; exact Nat.lt_succ_self _
  have wb := w.more sb (Nat.le_refl _) nb fb
  have gb0 := wb.fg
  have xb0 := wb.fx
  obtain ⟨H1, m1, fr1, u1⟩ := q_ltake bc M name n Hb wb.fc (by omega)
  obtain ⟨col1, w1⟩ := wb.stepC fr1 u1
  have f1 := w1.act (H := H)
  unfold tkV at m1
  obtain ⟨H2, hH2⟩ : ∃ H2, H1.push (.cells [.int .i64 0, .int .i64 0] T.api_Block true) = H2 := ⟨_, rfl⟩
  obtain ⟨s2, n2, f2⟩ := newBlk 0 0 hH2
  obtain ⟨H3, hH3⟩ : ∃ H3, H2.set H1.n (.cells [.int .i64 (tk M name n).1.1, .int .i64 (tk M name n).1.2] T.api_Block true) = H3 := ⟨_, rfl⟩
  have f3 : H3.f H1.n = .cells [.int .i64 (tk M name n).1.1, .int .i64 (tk M name n).1.2] T.api_Block true := by rw [← hH3]; exact set_f_eq
  have s3 : Still H1 H3 := by rw [← hH3]; exact Fr.set s2 _ _ fun h => by omega
  have w3 := w1.still s3
  have g3 := w3.act (H := H)
  obtain ⟨H4, m4, fr4, u4⟩ := q_takes bm M name n H3 w3.fm (by omega)
  obtain ⟨col4, w4⟩ := w3.stepM fr4 u4
  have gb4 := w4.fg
  have xb4 := w4.fx
  have hM2 := tk_len M name n
  obtain ⟨ck1, ck2⟩ := w4.chk ev (w4.names rd lv) (by omega)
  have ck3 := ck1 false
  have ck4 := ck1 true
  refine ⟨H4, St.fin rd lv w4 ev (by omega), fun K => ?_⟩
  rw [r_law_IdsPlays_1]
  cases two
  · simp (disch := first | with_reducible rfl | assumption | omega | rfl | (simp only [go_sem]; first | done | omega)) only [go_sem, ↓reduceIte, reduceCtorEq, Nat.reduceEqDiff, Nat.reduceAdd, Nat.reduceSub, Nat.reduceMul, Nat.reduceDiv, Nat.reduceMod, Nat.reduceLeDiff, Nat.reduceLT, Nat.reduceBEq, Int.reduceEq, Int.reduceBEq, Int.reduceBNe, Int.reduceLT, Int.reduceLE, Int.reduceAdd, Int.reduceSub, Int.reduceNeg, Int.reduceToNat, Int.reducePow, Nat.reducePow, Int.reduceMul, Int.reduceDiv, ↓s_law_IdsPlays_b1, hlen, hlt, ix, c5, hHa, fa, hHb, fb, gb0, xb0, ↓enterK_eq m1, enterK_eq m1, hH2, f2, hH3, f3, f1, g3, ↓enterK_eq m4, enterK_eq m4, gb4, xb4, ↓enterK_eq ck3, enterK_eq ck3, ↓enterK_eq ck4, enterK_eq ck4, ↓enterK_eq ck2, enterK_eq ck2]
  · simp (disch := first | with_reducible rfl | assumption | omega | rfl | (simp only [go_sem]; first | done | omega)) only [go_sem, ↓reduceIte, reduceCtorEq, Nat.reduceEqDiff, Nat.reduceAdd, Nat.reduceSub, Nat.reduceMul, Nat.reduceDiv, Nat.reduceMod, Nat.reduceLeDiff, Nat.reduceLT, Nat.reduceBEq, Int.reduceEq, Int.reduceBEq, Int.reduceBNe, Int.reduceLT, Int.reduceLE, Int.reduceAdd, Int.reduceSub, Int.reduceNeg, Int.reduceToNat, Int.reducePow, Nat.reducePow, Int.reduceMul, Int.reduceDiv, ↓s_law_IdsPlays_b1, hlen, hlt, ix, c5, hHa, fa, hHb, fb, gb0, xb0, ↓enterK_eq m1, enterK_eq m1, hH2, f2, hH3, f3, f1, g3, ↓enterK_eq m4, enterK_eq m4, gb4, xb4, ↓enterK_eq ck3, enterK_eq ck3, ↓enterK_eq ck4, enterK_eq ck4, ↓enterK_eq ck2, enterK_eq ck2]

set_option maxHeartbeats 4000000 in
theorem b_put {H0 : AHeap} {bm bc ga xa : Nat} {sz : Bool → Int} {va : Value} {all : List ByteArray} (hal : all.length ≤ 30) (hnm : NmS all) (l : List Act) (v1 : Value) (hr : Rd EAct H0 v1 l) (i : Nat) (hi : i < l.length) (hll : l.length ≤ 30) (hn : l[i].name ∈ all) (H : AHeap) (s : St H0 bm bc ga xa sz va all i H) (h0 : l[i].what = 4) : Goes H0 bm bc ga xa sz va all v1 i H := by
  obtain ⟨⟨col, gb, mb, xb, rb, R, M, E, w, ev, hM⟩, rd, lv⟩ := s
  have hlen := hr.lenS
  have hlt : (i : Int) < (l.length : Int) := by omega
  obtain ⟨b1, o1, ix, c5, _, _, _⟩ := rd_act (hr.still w.fm.still) hi
  generalize l[i] = a at *
  obtain ⟨what, n, two, name, value⟩ := a
  simp only at *
  subst h0
  obtain ⟨Ha, hHa⟩ : ∃ Ha, H.push (.cells [.int .i64 0, .int .i64 0, .bool false, .string (mk []), .string (mk [])] T.law_Act true) = Ha := ⟨_, rfl⟩
  have fa : Ha.f H.n = .cells [.int .i64 0, .int .i64 0, .bool false, .string (mk []), .string (mk [])] T.law_Act true := by rw [← hHa]; exact push_f_eq rfl
  have sa : Still H Ha := by rw [← hHa]; exact (Fr.refl H).push _
  obtain ⟨Hb, hHb⟩ : ∃ Hb, Ha.set H.n (.cells [.int .i64 4, .int .i64 n, .bool two, .string name, .string value] T.law_Act true) = Hb := ⟨_, rfl⟩
  have fb : Hb.f H.n = .cells [.int .i64 4, .int .i64 n, .bool two, .string name, .string value] T.law_Act true := by rw [← hHb]; exact set_f_eq
  have sb : Still H Hb := by rw [← hHb]; exact Fr.set sa _ _ fun h => by omega
  have nb : H.n < Hb.n := by rw [← hHb, ← hHa]; exact Nat.lt_succ_self _
  have wb := w.more sb (Nat.le_refl _) nb fb
  have gb0 := wb.fg
  have xb0 := wb.fx
  obtain ⟨H1, m1, fr1, u1⟩ := wb.fm.putU ⟨name, value⟩
  obtain ⟨col1, w1⟩ := wb.stepM fr1 u1
  have f1 := w1.act (H := H)
  obtain ⟨H2, m2, fr2, u2⟩ := w1.fc.putU ⟨name, value⟩
  obtain ⟨col2, w2⟩ := w1.stepC fr2 u2
  have gb2 := w2.fg
  have xb2 := w2.fx
  have hM2 := putE_len M ⟨name, value⟩
  obtain ⟨ck1, ck2⟩ := w2.chk ev (w2.names rd lv) (by omega)
  have ck3 := ck1 false
  have ck4 := ck1 true
  refine ⟨H2, St.fin rd lv w2 ev (by omega), fun K => ?_⟩
  rw [r_law_IdsPlays_1]
  cases two
  · simp (disch := first | with_reducible rfl | assumption | omega | rfl | (simp only [go_sem]; first | done | omega)) only [go_sem, ↓reduceIte, reduceCtorEq, Nat.reduceEqDiff, Nat.reduceAdd, Nat.reduceSub, Nat.reduceMul, Nat.reduceDiv, Nat.reduceMod, Nat.reduceLeDiff, Nat.reduceLT, Nat.reduceBEq, Int.reduceEq, Int.reduceBEq, Int.reduceBNe, Int.reduceLT, Int.reduceLE, Int.reduceAdd, Int.reduceSub, Int.reduceNeg, Int.reduceToNat, Int.reducePow, Nat.reducePow, Int.reduceMul, Int.reduceDiv, ↓s_law_IdsPlays_b1, hlen, hlt, ix, c5, hHa, fa, hHb, fb, gb0, xb0, ↓enterK_eq m1, enterK_eq m1, f1, ↓enterK_eq m2, enterK_eq m2, gb2, xb2, ↓enterK_eq ck3, enterK_eq ck3, ↓enterK_eq ck4, enterK_eq ck4, ↓enterK_eq ck2, enterK_eq ck2]
  · simp (disch := first | with_reducible rfl | assumption | omega | rfl | (simp only [go_sem]; first | done | omega)) only [go_sem, ↓reduceIte, reduceCtorEq, Nat.reduceEqDiff, Nat.reduceAdd, Nat.reduceSub, Nat.reduceMul, Nat.reduceDiv, Nat.reduceMod, Nat.reduceLeDiff, Nat.reduceLT, Nat.reduceBEq, Int.reduceEq, Int.reduceBEq, Int.reduceBNe, Int.reduceLT, Int.reduceLE, Int.reduceAdd, Int.reduceSub, Int.reduceNeg, Int.reduceToNat, Int.reducePow, Nat.reducePow, Int.reduceMul, Int.reduceDiv, ↓s_law_IdsPlays_b1, hlen, hlt, ix, c5, hHa, fa, hHb, fb, gb0, xb0, ↓enterK_eq m1, enterK_eq m1, f1, ↓enterK_eq m2, enterK_eq m2, gb2, xb2, ↓enterK_eq ck3, enterK_eq ck3, ↓enterK_eq ck4, enterK_eq ck4, ↓enterK_eq ck2, enterK_eq ck2]

set_option maxHeartbeats 4000000 in
theorem b_copy {H0 : AHeap} {bm bc ga xa : Nat} {sz : Bool → Int} {va : Value} {all : List ByteArray} (hal : all.length ≤ 30) (hnm : NmS all) (l : List Act) (v1 : Value) (hr : Rd EAct H0 v1 l) (i : Nat) (hi : i < l.length) (hll : l.length ≤ 30) (hn : l[i].name ∈ all) (H : AHeap) (s : St H0 bm bc ga xa sz va all i H) (h0 : ¬ l[i].what = 0) (h1 : ¬ l[i].what = 1) (h2 : ¬ l[i].what = 2) (h3 : ¬ l[i].what = 3) (h4 : ¬ l[i].what = 4) : Goes H0 bm bc ga xa sz va all v1 i H := by
  obtain ⟨⟨col, gb, mb, xb, rb, R, M, E, w, ev, hM⟩, rd, lv⟩ := s
  have hlen := hr.lenS
  have hlt : (i : Int) < (l.length : Int) := by omega
  obtain ⟨b1, o1, ix, c5, _, _, _⟩ := rd_act (hr.still w.fm.still) hi
  generalize l[i] = a at *
  obtain ⟨what, n, two, name, value⟩ := a
  simp only at *
  obtain ⟨Ha, hHa⟩ : ∃ Ha, H.push (.cells [.int .i64 0, .int .i64 0, .bool false, .string (mk []), .string (mk [])] T.law_Act true) = Ha := ⟨_, rfl⟩
  have fa : Ha.f H.n = .cells [.int .i64 0, .int .i64 0, .bool false, .string (mk []), .string (mk [])] T.law_Act true := by rw [← hHa]; exact push_f_eq rfl
  have sa : Still H Ha := by rw [← hHa]; exact (Fr.refl H).push _
  obtain ⟨Hb, hHb⟩ : ∃ Hb, Ha.set H.n (.cells [.int .i64 what, .int .i64 n, .bool two, .string name, .string value] T.law_Act true) = Hb := ⟨_, rfl⟩
  have fb : Hb.f H.n = .cells [.int .i64 what, .int .i64 n, .bool two, .string name, .string value] T.law_Act true := by rw [← hHb]; exact set_f_eq
  have sb : Still H Hb := by rw [← hHb]; exact Fr.set sa _ _ fun h => by omega
  have nb : H.n < Hb.n := by rw [← hHb, ← hHa]; exact Nat.lt_succ_self _
  have wb := w.more sb (Nat.le_refl _) nb fb
  have gb0 := wb.fg
  have xb0 := wb.fx
  obtain ⟨H1, m1, gv1, s1⟩ := q_Copy (wb.gv two)
  have w1 := wb.still s1
  have gb1 := w1.fg
  have n01 := s1.n
  have hg1 := gv1.gn
  have hm1 := gv1.mn
  have hgk := (wb.gv two).gn
  have hmk := (wb.gv two).mn
  have han := wb.an
  have hgm := (wb.gv two).ne
  obtain ⟨H2, m2, gv2, fr2, _⟩ := q_Lose w1.fm.ok (w1.gv two)
  obtain ⟨col2, w2⟩ := w1.stepG two ((w1.gs two).giv gv2 fr2) (UpG.of_giv (w1.gs two) fr2)
  have gb2 := w2.fg
  have n12 := fr2.n
  obtain ⟨H3, hH3⟩ : ∃ H3, H2.push (.cells [.slice none 0 0] T.model_Model true) = H3 := ⟨_, rfl⟩
  have frs := Fresh.start w2.fm.ok hH3
  have s3 : Still H2 H3 := frs.still
  have n23 := s3.n
  have h02 := w2.fm.still.n
  have frn : Fresh H0 H3 H2.n [] := ⟨w2.fm.still.trans s3, frs.ok, frs.mdl, fun c hc => Nat.le_trans h02 (frs.new c hc), frs.srt, frs.len, frs.vok⟩
  have g3 : GS H0 H3 H2.n (gb two) (mb two) [] (sz two) [] := ⟨frn, gv2.still s3, fun h => by have := frs.new _ h; omega, fun h => by have := frs.new _ h; omega, w.ng two, w.nm two⟩
  obtain ⟨H4, m4, g4, u4⟩ := q_Give g3 (EV.nil all).ok (by decide) (mk [111, 116, 104, 101, 114])
  have n34 := u4.fr.n
  have fr4 : Fr (fun b => b = mb two ∨ Hb.n ≤ b) Hb H4 := ((((Fr.refl Hb).then s1 fun _ _ h => h.elim).then fr2 fun b hb h => .inl h).then s3 fun _ _ h => h.elim).then u4.fr fun b hb h => by
    rcases h with h | h
    · have := frs.new b h; omega
    · exact .inl h
  have ga4 : ga ≠ mb two := fun h => by have h1 := wb.ca; have h2 := wb.cn two; rw [← h, h1] at h2; have := tn two; omega
  have gb4 : H4.f ga = _ := (fr4.f han (by omega)).trans wb.fg
  obtain ⟨H5, hH5⟩ : ∃ H5, H4.set ga (.cells [.pointer (some ⟨upB gb two (Hb.n + 1) false, 0, none⟩), .pointer (some ⟨upB gb two (Hb.n + 1) true, 0, none⟩)] T.n2_ids_Giver true) = H5 := ⟨_, rfl⟩
  have f5 : H5.f ga = .cells [.pointer (some ⟨upB gb two (Hb.n + 1) false, 0, none⟩), .pointer (some ⟨upB gb two (Hb.n + 1) true, 0, none⟩)] T.n2_ids_Giver true := by rw [← hH5]; exact set_f_eq
  have fr5 : Fr (fun b => b = mb two ∨ b = ga ∨ Hb.n ≤ b) Hb H5 := by
    rw [← hH5]
    exact Fr.set (fr4.mono fun b hb h => h.imp id .inr) _ _ fun h => .inr (.inl rfl)
  have gv5 : Gv H5 (Hb.n + 1) Hb.n (sz two) (E two) := by
    have k2 := gv1.keep fr2 (by omega) (by omega)
    have k3 := k2.still s3
    have k4 := k3.keep u4.fr (fun h => by
      rcases h with h | h
      · have := frs.new _ h; omega
      · omega) (fun h => by
      rcases h with h | h
      · have := frs.new _ h; omega
      · omega)
    exact k4.keep (S := fun b => b = ga) (by rw [← hH5]; exact Fr.set (Fr.refl H4) _ _ fun _ => rfl) (by omega) (by omega)
  obtain ⟨col5, w5⟩ := wb.stepP two gv5 fr5 (fun b h => h) (by omega) (Nat.le_refl _) f5
  rw [upB_self] at w5
  have gb5 := w5.fg
  have xb5 := w5.fx
  obtain ⟨ck1, ck2⟩ := w5.chk ev (w5.names rd lv) (by omega)
  have ck3 := ck1 false
  have ck4 := ck1 true
  refine ⟨H5, St.fin rd lv w5 ev (by omega), fun K => ?_⟩
  rw [r_law_IdsPlays_1]
  have e1 : upB gb false (Hb.n + 1) false = Hb.n + 1 := rfl
  have e2 : upB gb false (Hb.n + 1) true = gb true := rfl
  have e3 : upB gb true (Hb.n + 1) false = gb false := rfl
  have e4 : upB gb true (Hb.n + 1) true = Hb.n + 1 := rfl
  cases two <;> simp only [e1, e2, e3, e4] at hH5 gb5 ck3 ck4
  · simp (disch := first | with_reducible rfl | assumption | omega | rfl | (simp only [go_sem]; first | done | omega)) only [go_sem, ↓reduceIte, reduceCtorEq, Nat.reduceEqDiff, Nat.reduceAdd, Nat.reduceSub, Nat.reduceMul, Nat.reduceDiv, Nat.reduceMod, Nat.reduceLeDiff, Nat.reduceLT, Nat.reduceBEq, Int.reduceEq, Int.reduceBEq, Int.reduceBNe, Int.reduceLT, Int.reduceLE, Int.reduceAdd, Int.reduceSub, Int.reduceNeg, Int.reduceToNat, Int.reducePow, Nat.reducePow, Int.reduceMul, Int.reduceDiv, ↓s_law_IdsPlays_b1, hlen, hlt, ix, c5, hHa, fa, hHb, fb, gb0, xb0, h0, h1, h2, h3, h4, ↓enterK_eq m1, enterK_eq m1, gb1, ↓enterK_eq m2, enterK_eq m2, gb2, hH3, ↓enterK_eq m4, enterK_eq m4, gb4, hH5, gb5, xb5, ↓enterK_eq ck3, enterK_eq ck3, ↓enterK_eq ck4, enterK_eq ck4, ↓enterK_eq ck2, enterK_eq ck2]
  · simp (disch := first | with_reducible rfl | assumption | omega | rfl | (simp only [go_sem]; first | done | omega)) only [go_sem, ↓reduceIte, reduceCtorEq, Nat.reduceEqDiff, Nat.reduceAdd, Nat.reduceSub, Nat.reduceMul, Nat.reduceDiv, Nat.reduceMod, Nat.reduceLeDiff, Nat.reduceLT, Nat.reduceBEq, Int.reduceEq, Int.reduceBEq, Int.reduceBNe, Int.reduceLT, Int.reduceLE, Int.reduceAdd, Int.reduceSub, Int.reduceNeg, Int.reduceToNat, Int.reducePow, Nat.reducePow, Int.reduceMul, Int.reduceDiv, ↓s_law_IdsPlays_b1, hlen, hlt, ix, c5, hHa, fa, hHb, fb, gb0, xb0, h0, h1, h2, h3, h4, ↓enterK_eq m1, enterK_eq m1, gb1, ↓enterK_eq m2, enterK_eq m2, gb2, hH3, ↓enterK_eq m4, enterK_eq m4, gb4, hH5, gb5, xb5, ↓enterK_eq ck3, enterK_eq ck3, ↓enterK_eq ck4, enterK_eq ck4, ↓enterK_eq ck2, enterK_eq ck2]

end Go.Proofs.YtlfpjndbpclnnaaGreatDoor

/-
  Chapter 47: IdsPlays: the two loops.
  Conditions: none. By an AI agent.
-/
set_option maxRecDepth 10000
set_option linter.unusedSimpArgs false
set_option linter.unusedVariables false
namespace Go.Proofs.YtlfpjndbpclnnaaGreatDoor
open Go Eng

theorem l_ip1 {H0 : AHeap} {bm bc ga xa : Nat} {sz : Bool → Int} {va : Value} {all : List ByteArray} (hal : all.length ≤ 30) (hnm : NmS all) (l : List Act) (v1 : Value) (hr : Rd EAct H0 v1 l) (hll : l.length ≤ 30) (hn : ∀ a ∈ l, a.name ∈ all) : ∀ (m i : Nat) (H : AHeap), i + m = l.length → St H0 bm bc ga xa sz va all i H →
    ∃ H', ∀ K : K, l_law_IdsPlays_1 v1 (.pointer (some ⟨bm, 0, none⟩)) (.pointer (some ⟨bc, 0, none⟩)) (.pointer (some ⟨ga, 0, none⟩)) (.pointer (some ⟨xa, 0, none⟩)) va (.int .i64 (i : Int)) H (blkK [] 2 K) = K .normal [] H'
  | 0, i, H, him, s => by
    have hlt : ¬ (i : Int) < (l.length : Int) := by omega
    have hlen := hr.lenS
    refine ⟨H, fun K => ?_⟩
    rw [r_law_IdsPlays_1]
    simp (disch := first | with_reducible rfl | assumption | omega | rfl | (simp only [go_sem]; first | done | omega)) only [go_sem, ↓reduceIte, reduceCtorEq, Nat.reduceEqDiff, Nat.reduceAdd, Nat.reduceSub, Nat.reduceMul, Nat.reduceDiv, Nat.reduceMod, Nat.reduceLeDiff, Nat.reduceLT, Nat.reduceBEq, Int.reduceEq, Int.reduceBEq, Int.reduceBNe, Int.reduceLT, Int.reduceLE, Int.reduceAdd, Int.reduceSub, Int.reduceNeg, Int.reduceToNat, Int.reducePow, Nat.reducePow, Int.reduceMul, Int.reduceDiv, ↓s_law_IdsPlays_b1, hlen, hlt]
  | m + 1, i, H, him, s => by
    have hi : i < l.length := by omega
    have hni := hn l[i] (List.getElem_mem hi)
    have key : Goes H0 bm bc ga xa sz va all v1 i H := by
      by_cases h0 : l[i].what = 0
      · exact b_give hal l v1 hr i hi hll hni H s h0
      · by_cases h1 : l[i].what = 1
        · exact b_lose hal hnm l v1 hr i hi hll hni H s h1
        · by_cases h2 : l[i].what = 2
          · exact b_return hal hnm l v1 hr i hi hll hni H s h2
          · by_cases h3 : l[i].what = 3
            · exact b_take hal hnm l v1 hr i hi hll hni H s h3
            · by_cases h4 : l[i].what = 4
              · exact b_put hal hnm l v1 hr i hi hll hni H s h4
              · exact b_copy hal hnm l v1 hr i hi hll hni H s h0 h1 h2 h3 h4
    obtain ⟨H1, s1, h1⟩ := key
    obtain ⟨H', ih⟩ := l_ip1 hal hnm l v1 hr hll hn m (i + 1) H1 (by omega) s1
    refine ⟨H', fun K => ?_⟩
    have ih := ih K
    rw [Int.natCast_add] at ih
    rw [h1]
    exact ih

theorem okV_none3 {go : Option Bool} {a a' b b' : AHeap} (h : a'.ver b.n = a.ver b.n) : okV go none a a' b b' = true := by
  unfold okV
  rw [h]
  simp only [beq_self_eq_true, Bool.or_true, Bool.and_true]
  split <;> rfl

def kI (k : Bool) : Int := if k then 1 else 0
set_option maxHeartbeats 2000000 in
theorem ip0 (k : Bool) {H : AHeap} {sa ga xa bm bc : Nat} (v1 : Value) {s0 s1 z : Int} {g0 g1 x0 x1 : Value} (fs : H.f sa = .cells [.int .i64 s0, .int .i64 s1] T.n2_int true) (fg : H.f ga = .cells [g0, g1] T.n2_ids_Giver true) (fx : H.f xa = .cells [x0, x1] T.n2_ticketlinelaw_Giver true) (hsn : sa < H.n) (hgn : ga < H.n) (hxn : xa < H.n) (h1 : sa ≠ ga) (h3 : xa ≠ ga) (hk : (if k then s1 else s0) = z) (hz1 : ¬ z < 1) (hz2 : ¬ 1000 < z) :
    ∃ N H', H.n + 2 ≤ N ∧ H'.n = N + 2 ∧ Gv H' (H.n + 1) H.n z [] ∧ H'.f (N + 1) = .cells [.int .i64 z, .map (some N)] T.law_Giver true ∧ H'.f N = .map [] ∧ Fr (fun b => b = ga ∨ b = xa) H H' ∧
      H'.f ga = .cells [if k then g0 else .pointer (some ⟨H.n + 1, 0, none⟩), if k then .pointer (some ⟨H.n + 1, 0, none⟩) else g1] T.n2_ids_Giver true ∧
      H'.f xa = .cells [if k then x0 else .pointer (some ⟨N + 1, 0, none⟩), if k then .pointer (some ⟨N + 1, 0, none⟩) else x1] T.n2_ticketlinelaw_Giver true ∧
      ∀ K : K, l_law_IdsPlays_0 v1 (.pointer (some ⟨sa, 0, none⟩)) (.pointer (some ⟨bm, 0, none⟩)) (.pointer (some ⟨bc, 0, none⟩)) (.pointer (some ⟨ga, 0, none⟩)) (.pointer (some ⟨xa, 0, none⟩)) (.int .i64 (kI k)) H K = l_law_IdsPlays_0 v1 (.pointer (some ⟨sa, 0, none⟩)) (.pointer (some ⟨bm, 0, none⟩)) (.pointer (some ⟨bc, 0, none⟩)) (.pointer (some ⟨ga, 0, none⟩)) (.pointer (some ⟨xa, 0, none⟩)) (.int .i64 (kI k + 1)) H' K := by
  obtain ⟨H1, m1, gv1, sw1⟩ := q_New z H hz1 hz2
  have n01 := gv1.gn
  have mkI := make_map (H := H1) mtInts
  obtain ⟨H2, hH2⟩ : ∃ H2, H1.push (.map []) = H2 := ⟨_, rfl⟩
  rw [hH2] at mkI
  have s2 : Still H1 H2 := by rw [← hH2]; exact (Fr.refl H1).push _
  have n2 : H2.n = H1.n + 1 := by rw [← hH2]; rfl
  have fm2 : H2.f H1.n = .map [] := by rw [← hH2]; exact push_f_eq rfl
  obtain ⟨H3, hH3⟩ : ∃ H3, H2.push (.cells [.int .i64 z, .map (some H1.n)] T.law_Giver true) = H3 := ⟨_, rfl⟩
  have s3 : Still H2 H3 := by rw [← hH3]; exact (Fr.refl H2).push _
  have n3 : H3.n = H1.n + 2 := by rw [← hH3]; show H2.n + 1 = _; omega
  have f3 : H3.f (H1.n + 1) = .cells [.int .i64 z, .map (some H1.n)] T.law_Giver true := by rw [← n2, ← hH3]; exact push_f_eq rfl
  have sH3 : Still H H3 := (sw1.trans s2).trans s3
  have fs1 : H1.f sa = .cells [.int .i64 s0, .int .i64 s1] T.n2_int true := by rw [sw1.f hsn fun h => h]; exact fs
  have fg3 : H3.f ga = .cells [g0, g1] T.n2_ids_Giver true := by rw [sH3.f hgn fun h => h]; exact fg
  obtain ⟨H4, hH4⟩ : ∃ H4, H3.set ga (.cells [if k then g0 else .pointer (some ⟨H.n + 1, 0, none⟩), if k then .pointer (some ⟨H.n + 1, 0, none⟩) else g1] T.n2_ids_Giver true) = H4 := ⟨_, rfl⟩
  have fx4 : H4.f xa = .cells [x0, x1] T.n2_ticketlinelaw_Giver true := by
    rw [← hH4, H3.set_other _ h3, sH3.f hxn fun h => h]; exact fx
  obtain ⟨H5, hH5⟩ : ∃ H5, H4.set xa (.cells [if k then x0 else .pointer (some ⟨H1.n + 1, 0, none⟩), if k then .pointer (some ⟨H1.n + 1, 0, none⟩) else x1] T.n2_ticketlinelaw_Giver true) = H5 := ⟨_, rfl⟩
  have n5 : H5.n = H1.n + 2 := by rw [← hH5, ← hH4]; exact n3
  have fr4 : Fr (fun b => b = ga ∨ b = xa) H3 H5 := by rw [← hH5]; exact Fr.set (by rw [← hH4]; exact Fr.set (Fr.refl H3) _ _ fun _ => .inl rfl) _ _ fun _ => .inr rfl
  have fr5 : Fr (fun b => b = ga ∨ b = xa) H H5 := ((Fr.refl H).then sH3 fun _ _ h => h.elim).then fr4 fun _ _ h => h
  have ck1 : ∀ b : AHeap, okV (some true) none H3 H4 b b = true := fun b => okV_none (.inr (Nat.le_refl _))
  have vr : ∀ b, b ≠ ga → H4.ver b = H3.ver b := fun b hb => by rw [← hH4]; exact set_v_ne hb
  have ck2 : okV (some true) (some sa) H3 H4 H1 H1 = true := okV_some (.inr (vr sa h1)) (.inr (Nat.le_refl _))
  have ck2' : okV (some true) (some (sa)) H3 H4 H1 H1 = true := ck2
  have ck3 : okV (some true) none H3 H4 H1 H2 = true := okV_none3 (vr _ (by omega))
  have ck4 : okV (some true) none H3 H4 H2 H3 = true := okV_none3 (vr _ (by omega))
  refine ⟨H1.n, H5, by omega, n5, ((gv1.still s2).still s3).keep fr4 (by omega) (by omega), by rw [fr4.f (by omega) (by omega)]; exact f3, by rw [fr4.f (by omega) (by omega), s3.f (by omega) fun h => h]; exact fm2, fr5, by rw [← hH5, H4.set_other _ (Ne.symm h3), ← hH4]; exact set_f_eq, by rw [← hH5]; exact set_f_eq, fun K => ?_⟩
  rw [r_law_IdsPlays_0]
  unfold kI
  cases k
  · simp only [Bool.false_eq_true, if_false] at hk hH4 hH5
    subst hk
    simp (disch := first | with_reducible rfl | assumption | omega | rfl | (simp only [go_sem]; first | done | omega)) only [go_sem, ↓reduceIte, reduceCtorEq, Nat.reduceEqDiff, Nat.reduceAdd, Nat.reduceSub, Nat.reduceMul, Nat.reduceDiv, Nat.reduceMod, Nat.reduceLeDiff, Nat.reduceLT, Nat.reduceBEq, Int.reduceEq, Int.reduceBEq, Int.reduceBNe, Int.reduceLT, Int.reduceLE, Int.reduceAdd, Int.reduceSub, Int.reduceNeg, Int.reduceToNat, Int.reducePow, Nat.reducePow, Int.reduceMul, Int.reduceDiv, ↓s_law_IdsPlays_b0, fs, ↓enterK_eq m1, enterK_eq m1, fs1, hz1, hz2, mkI, hH3, n2, fg3, hH4, fx4, hH5, ck1, ck2, ck3, ck4]
  · simp only [if_true] at hk hH4 hH5
    subst hk
    simp (disch := first | with_reducible rfl | assumption | omega | rfl | (simp only [go_sem]; first | done | omega)) only [go_sem, ↓reduceIte, reduceCtorEq, Nat.reduceEqDiff, Nat.reduceAdd, Nat.reduceSub, Nat.reduceMul, Nat.reduceDiv, Nat.reduceMod, Nat.reduceLeDiff, Nat.reduceLT, Nat.reduceBEq, Int.reduceEq, Int.reduceBEq, Int.reduceBNe, Int.reduceLT, Int.reduceLE, Int.reduceAdd, Int.reduceSub, Int.reduceNeg, Int.reduceToNat, Int.reducePow, Nat.reducePow, Int.reduceMul, Int.reduceDiv, ↓s_law_IdsPlays_b0, fs, ↓enterK_eq m1, enterK_eq m1, fs1, hz1, hz2, mkI, hH3, n2, fg3, hH4, fx4, hH5, ck1, ck2, ck3, ck4]

set_option maxHeartbeats 2000000 in
theorem ip0bad (k : Bool) {H : AHeap} {sa ga xa bm bc : Nat} (v1 : Value) {s0 s1 z : Int} (fs : H.f sa = .cells [.int .i64 s0, .int .i64 s1] T.n2_int true) (hk : (if k then s1 else s0) = z) (hz : z < 1 ∨ 1000 < z) :
    ∃ H', ∀ K : K, l_law_IdsPlays_0 v1 (.pointer (some ⟨sa, 0, none⟩)) (.pointer (some ⟨bm, 0, none⟩)) (.pointer (some ⟨bc, 0, none⟩)) (.pointer (some ⟨ga, 0, none⟩)) (.pointer (some ⟨xa, 0, none⟩)) (.int .i64 (kI k)) H (blkK [1, 5, 6, 7, 8] 0 K) = K .ret [(4, .bool true)] H' := by
  have m1 := q_New_bad z H hz
  refine ⟨H, fun K => ?_⟩
  rw [r_law_IdsPlays_0]
  unfold kI
  by_cases h1 : z < 1
  · cases k
    · simp only [Bool.false_eq_true, if_false] at hk
      subst hk
      simp (disch := first | with_reducible rfl | assumption | omega | rfl | (simp only [go_sem]; first | done | omega)) only [go_sem, ↓reduceIte, reduceCtorEq, Nat.reduceEqDiff, Nat.reduceAdd, Nat.reduceSub, Nat.reduceMul, Nat.reduceDiv, Nat.reduceMod, Nat.reduceLeDiff, Nat.reduceLT, Nat.reduceBEq, Int.reduceEq, Int.reduceBEq, Int.reduceBNe, Int.reduceLT, Int.reduceLE, Int.reduceAdd, Int.reduceSub, Int.reduceNeg, Int.reduceToNat, Int.reducePow, Nat.reducePow, Int.reduceMul, Int.reduceDiv, ↓s_law_IdsPlays_b0, fs, ↓enterK_eq m1, enterK_eq m1, h1]
    · simp only [if_true] at hk
      subst hk
      simp (disch := first | with_reducible rfl | assumption | omega | rfl | (simp only [go_sem]; first | done | omega)) only [go_sem, ↓reduceIte, reduceCtorEq, Nat.reduceEqDiff, Nat.reduceAdd, Nat.reduceSub, Nat.reduceMul, Nat.reduceDiv, Nat.reduceMod, Nat.reduceLeDiff, Nat.reduceLT, Nat.reduceBEq, Int.reduceEq, Int.reduceBEq, Int.reduceBNe, Int.reduceLT, Int.reduceLE, Int.reduceAdd, Int.reduceSub, Int.reduceNeg, Int.reduceToNat, Int.reducePow, Nat.reducePow, Int.reduceMul, Int.reduceDiv, ↓s_law_IdsPlays_b0, fs, ↓enterK_eq m1, enterK_eq m1, h1]
  · have h2 : 1000 < z := by omega
    cases k
    · simp only [Bool.false_eq_true, if_false] at hk
      subst hk
      simp (disch := first | with_reducible rfl | assumption | omega | rfl | (simp only [go_sem]; first | done | omega)) only [go_sem, ↓reduceIte, reduceCtorEq, Nat.reduceEqDiff, Nat.reduceAdd, Nat.reduceSub, Nat.reduceMul, Nat.reduceDiv, Nat.reduceMod, Nat.reduceLeDiff, Nat.reduceLT, Nat.reduceBEq, Int.reduceEq, Int.reduceBEq, Int.reduceBNe, Int.reduceLT, Int.reduceLE, Int.reduceAdd, Int.reduceSub, Int.reduceNeg, Int.reduceToNat, Int.reducePow, Nat.reducePow, Int.reduceMul, Int.reduceDiv, ↓s_law_IdsPlays_b0, fs, ↓enterK_eq m1, enterK_eq m1, h1, h2]
    · simp only [if_true] at hk
      subst hk
      simp (disch := first | with_reducible rfl | assumption | omega | rfl | (simp only [go_sem]; first | done | omega)) only [go_sem, ↓reduceIte, reduceCtorEq, Nat.reduceEqDiff, Nat.reduceAdd, Nat.reduceSub, Nat.reduceMul, Nat.reduceDiv, Nat.reduceMod, Nat.reduceLeDiff, Nat.reduceLT, Nat.reduceBEq, Int.reduceEq, Int.reduceBEq, Int.reduceBNe, Int.reduceLT, Int.reduceLE, Int.reduceAdd, Int.reduceSub, Int.reduceNeg, Int.reduceToNat, Int.reducePow, Nat.reducePow, Int.reduceMul, Int.reduceDiv, ↓s_law_IdsPlays_b0, fs, ↓enterK_eq m1, enterK_eq m1, h1, h2]

end Go.Proofs.YtlfpjndbpclnnaaGreatDoor
