/-
  Chapter 24: the map and the reference, side by side.
  Conditions: none. By an AI agent.
-/
import Derived.Test.YtlagijfkkpbbnaaR4
set_option maxRecDepth 10000
set_option linter.unusedSimpArgs false
set_option linter.unusedVariables false
namespace Go.Proofs.Ytlagijfkkpbbnaa
open Go Eng

theorem MdlT.blk {t : TypeId} {H : AHeap} {b : Nat} {l : List Pr} (r : MdlT t H b l) {c : Nat} (h : MBT t H b c) : c < H.n := by
  obtain ⟨v, h1, h2, h3, h4⟩ := r
  rcases h with h | ⟨u, hu, hb⟩
  · omega
  · rw [h1] at hu; cases hu; exact h3.blk hb

/-- A call that works on one map leaves another one. -/
theorem sep {t1 t2 : TypeId} {H H' : AHeap} {b1 b2 : Nat} {l2 : List Pr} (r2 : MdlT t2 H b2 l2) (dis : ∀ c, MBT t1 H b1 c → ¬ MBT t2 H b2 c) (u : UpT t1 H b1 H') :
    MdlT t2 H' b2 l2 ∧ (∀ c, MBT t2 H' b2 c → MBT t2 H b2 c) ∧ ∀ c, MBT t1 H' b1 c → ¬ MBT t2 H' b2 c := by
  have hb2 : ¬ MBT t1 H b1 b2 := fun h => dis b2 h (.inl rfl)
  have hlt : b2 < H.n := r2.blk (.inl rfl)
  have hf : H'.f b2 = H.f b2 := u.fr.f hlt hb2
  have hm : ∀ c, MBT t2 H' b2 c → MBT t2 H b2 c := fun c h => h.imp id fun ⟨v, hv, hb⟩ => ⟨v, by rw [← hf]; exact hv, hb⟩
  refine ⟨r2.keep u.fr hb2 fun v hv c hc h => dis c h (.inr ⟨v, hv, hc⟩), hm, fun c h1 h2 => ?_⟩
  have h2 := hm c h2
  rcases u.mb c h1 with h | h
  · exact dis c h h2
  · have := r2.blk h2; omega

/-- The map and the reference have the same pairs; what there was before is as it was. -/
structure Two (Hz H : AHeap) (bm bx : Nat) (l : List Pr) : Prop where
  ok : Ok H
  base : Still Hz H
  m : Mdl H bm l
  x : MdlR H bx l
  dis : ∀ c, MB H bm c → ¬ MBT T.ref24_Model H bx c
  lom : ∀ c, MB H bm c → Hz.n ≤ c
  lox : ∀ c, MBT T.ref24_Model H bx c → Hz.n ≤ c
  srt : Srt l
  len : l.length ≤ 20000

theorem MBT_still {t : TypeId} {H H' : AHeap} {b : Nat} {l : List Pr} (r : MdlT t H b l) (s : Still H H') {c : Nat} (h : MBT t H' b c) : MBT t H b c := by
  obtain ⟨v, h1, h2, _⟩ := r
  exact h.imp id fun ⟨u, hu, hb⟩ => ⟨u, by rw [← s.f h2 (fun h => h)]; exact hu, hb⟩

theorem Two.still {Hz H H' : AHeap} {bm bx : Nat} {l : List Pr} (t : Two Hz H bm bx l) (s : Still H H') : Two Hz H' bm bx l :=
  ⟨t.ok.fr s, t.base.still.then s fun _ _ h => h, t.m.still s, t.x.still s, fun c h1 h2 => t.dis c (MBT_still t.m s h1) (MBT_still t.x s h2), fun c h => t.lom c (MBT_still t.m s h), fun c h => t.lox c (MBT_still t.x s h), t.srt, t.len⟩

/-- One call of each, which make the same of their pairs. -/
theorem Two.step {Hz H H1 H2 : AHeap} {bm bx : Nat} {l l' : List Pr} (t : Two Hz H bm bx l) (m1 : Mdl H1 bm l') (u1 : Up H bm H1) (x2 : MdlR H2 bx l') (u2 : UpT T.ref24_Model H1 bx H2) (hs : Srt l') (hl : l'.length ≤ 20000) : Two Hz H2 bm bx l' := by
  obtain ⟨x1, hx1, d1⟩ := sep t.x t.dis u1
  obtain ⟨m2, hm2, d2⟩ := sep m1 (fun c h1 h2 => d1 c h2 h1) u2
  have b1 : Still Hz H1 := t.base.still.then u1.fr fun c hc h => by have := t.lom c h; omega
  have lox1 : ∀ c, MBT T.ref24_Model H1 bx c → Hz.n ≤ c := fun c h => t.lox c (hx1 c h)
  have n0 : Hz.n ≤ H.n := t.base.n
  have n1 : Hz.n ≤ H1.n := b1.n
  refine ⟨(t.ok.fr u1.fr).fr u2.fr, b1.still.then u2.fr fun c hc h => by have := lox1 c h; omega, m2, x2, fun c h1 h2 => d2 c h2 h1, fun c h => ?_, fun c h => ?_, hs, hl⟩
  · rcases u1.mb c (hm2 c h) with h | h
    · exact t.lom c h
    · omega
  · rcases u2.mb c h with h | h
    · exact lox1 c h
    · omega
/-- The reference is as it was behind a call of the map. -/
theorem Two.midx {Hz H H1 : AHeap} {bm bx : Nat} {l : List Pr} (t : Two Hz H bm bx l) (u1 : Up H bm H1) : MdlR H1 bx l := (sep t.x t.dis u1).1

/-- What Put answers and makes of the pairs. -/
def putE (l : List Pr) (a : Pr) : Int × List Pr := if chk a.key [a.value] = 0 then putP l a (posP l a.key) else (chk a.key [a.value], l)
def insertE (l : List Pr) (a : Pr) : Int × List Pr := if chk a.key [a.value] = 0 then insertP l a (posP l a.key) else (chk a.key [a.value], l)
def swapE (l : List Pr) (key old new : ByteArray) : Int × List Pr := if chk key [old, new] = 0 then swapP l key old new (posP l key) else (chk key [old, new], l)
def getE (l : List Pr) (key : ByteArray) : Value := if chk key [] = 0 then getP l key (posP l key) else .tuple #[.string (mk []), .int .i64 (chk key [])]
def delE (l : List Pr) (key : ByteArray) : List Pr := if chk key [] = 0 then (if isP l key (posP l key) = true then l.take (posP l key) ++ l.drop (posP l key + 1) else l) else l

theorem q_putM (b : Nat) (l : List Pr) (a : Pr) (H : AHeap) (ok : Ok H) (r : Mdl H b l) (hs : Srt l) (hl : l.length ≤ 20000) :
    ∃ H', CC F.model_Model_Put [.pointer (some ⟨b, 0, none⟩), .string a.key, .string a.value] H = some (.int .i64 (putE l a).1, H') ∧ Mdl H' b (putE l a).2 ∧ Up H b H' := by
  unfold putE
  split
  · rename_i h; exact q_Put b l a H ok r hl _ (posP_pos hs a.key) h
  · rename_i h; exact ⟨H, q_Put_bad b l a H r h, r, Up.refl H b⟩
theorem q_putR (b : Nat) (l : List Pr) (a : Pr) (H : AHeap) (ok : Ok H) (r : MdlR H b l) (hs : Srt l) (hl : l.length ≤ 20000) :
    ∃ H', CC F.ref24_Model_Put [.pointer (some ⟨b, 0, none⟩), .string a.key, .string a.value] H = some (.int .i64 (putE l a).1, H') ∧ MdlR H' b (putE l a).2 ∧ UpT T.ref24_Model H b H' := by
  unfold putE
  split
  · rename_i h; exact q_RPut b l a H ok r hs hl h
  · rename_i h; exact ⟨H, q_RPut_bad b a H h, r, UpT.refl H b⟩
theorem q_insM (b : Nat) (l : List Pr) (a : Pr) (H : AHeap) (ok : Ok H) (r : Mdl H b l) (hs : Srt l) (hl : l.length ≤ 20000) :
    ∃ H', CC F.model_Model_Insert [.pointer (some ⟨b, 0, none⟩), .string a.key, .string a.value] H = some (.int .i64 (insertE l a).1, H') ∧ Mdl H' b (insertE l a).2 ∧ Up H b H' := by
  unfold insertE
  split
  · rename_i h; exact q_Insert b l a H ok r hl _ (posP_pos hs a.key) h
  · rename_i h; exact ⟨H, q_Insert_bad b l a H r h, r, Up.refl H b⟩
theorem q_insR (b : Nat) (l : List Pr) (a : Pr) (H : AHeap) (ok : Ok H) (r : MdlR H b l) (hs : Srt l) (hl : l.length ≤ 20000) :
    ∃ H', CC F.ref24_Model_Insert [.pointer (some ⟨b, 0, none⟩), .string a.key, .string a.value] H = some (.int .i64 (insertE l a).1, H') ∧ MdlR H' b (insertE l a).2 ∧ UpT T.ref24_Model H b H' := by
  unfold insertE
  split
  · rename_i h; exact q_RInsert b l a H ok r hs hl h
  · rename_i h; exact ⟨H, q_RInsert_bad b a H h, r, UpT.refl H b⟩
theorem q_swapM (b : Nat) (l : List Pr) (key old new : ByteArray) (H : AHeap) (ok : Ok H) (r : Mdl H b l) (hs : Srt l) (hl : l.length ≤ 20000) :
    ∃ H', CC F.model_Model_Swap [.pointer (some ⟨b, 0, none⟩), .string key, .string old, .string new] H = some (.int .i64 (swapE l key old new).1, H') ∧ Mdl H' b (swapE l key old new).2 ∧ Up H b H' := by
  unfold swapE
  split
  · rename_i h; exact q_Swap b l key old new H ok r hl _ (posP_pos hs key) h
  · rename_i h; exact ⟨H, q_Swap_bad b l key old new H r h, r, Up.refl H b⟩
theorem q_swapR (b : Nat) (l : List Pr) (key old new : ByteArray) (H : AHeap) (ok : Ok H) (r : MdlR H b l) (hs : Srt l) (hl : l.length ≤ 20000) :
    ∃ H', CC F.ref24_Model_Swap [.pointer (some ⟨b, 0, none⟩), .string key, .string old, .string new] H = some (.int .i64 (swapE l key old new).1, H') ∧ MdlR H' b (swapE l key old new).2 ∧ UpT T.ref24_Model H b H' := by
  unfold swapE
  split
  · rename_i h; exact q_RSwap b l key old new H ok r hs hl h
  · rename_i h; exact ⟨H, q_RSwap_bad b key old new H h, r, UpT.refl H b⟩
theorem q_getM (b : Nat) (l : List Pr) (key : ByteArray) (H : AHeap) (r : Mdl H b l) (hs : Srt l) (hl : l.length ≤ 20000) : CC F.model_Model_Get [.pointer (some ⟨b, 0, none⟩), .string key] H = some (getE l key, H) := by
  unfold getE
  split
  · rename_i h; exact q_Get b l key H r (by omega) _ (posP_pos hs key) h
  · rename_i h; exact q_Get_bad b key H h
theorem q_getR (b : Nat) (l : List Pr) (key : ByteArray) (H : AHeap) (r : MdlR H b l) (hs : Srt l) (hl : l.length ≤ 20000) : CC F.ref24_Model_Get [.pointer (some ⟨b, 0, none⟩), .string key] H = some (getE l key, H) := by
  unfold getE
  split
  · rename_i h; exact q_RGet b l key H r hs (by omega) h
  · rename_i h; exact q_RGet_bad b key H h
theorem q_delM (b : Nat) (l : List Pr) (key : ByteArray) (H : AHeap) (ok : Ok H) (r : Mdl H b l) (hs : Srt l) (hl : l.length ≤ 20000) :
    ∃ H', CC F.model_Model_Delete [.pointer (some ⟨b, 0, none⟩), .string key] H = some (getE l key, H') ∧ Mdl H' b (delE l key) ∧ Up H b H' := by
  unfold getE delE
  by_cases h : chk key [] = 0
  · rw [if_pos h, if_pos h]; exact q_Delete b l key H ok r hl _ (posP_pos hs key) h
  · rw [if_neg h, if_neg h]; exact ⟨H, q_Delete_bad b key H h, r, Up.refl H b⟩
theorem q_delR (b : Nat) (l : List Pr) (key : ByteArray) (H : AHeap) (ok : Ok H) (r : MdlR H b l) (hs : Srt l) (hl : l.length ≤ 20000) :
    ∃ H', CC F.ref24_Model_Delete [.pointer (some ⟨b, 0, none⟩), .string key] H = some (getE l key, H') ∧ MdlR H' b (delE l key) ∧ UpT T.ref24_Model H b H' := by
  unfold getE delE
  by_cases h : chk key [] = 0
  · rw [if_pos h, if_pos h]; exact q_RDelete b l key H ok r hs hl h
  · rw [if_neg h, if_neg h]; exact ⟨H, q_RDelete_bad b key H h, r, UpT.refl H b⟩

theorem srt_putE {l : List Pr} (hs : Srt l) (a : Pr) : Srt (putE l a).2 := by
  unfold putE
  split
  · exact srt_put hs a
  · exact hs
theorem len_putE {l : List Pr} (hl : l.length ≤ 20000) (a : Pr) : (putE l a).2.length ≤ 20000 := by
  unfold putE
  split
  · exact len_put hl a
  · exact hl
theorem srt_insertE {l : List Pr} (hs : Srt l) (a : Pr) : Srt (insertE l a).2 := by
  unfold insertE
  split
  · exact srt_insert hs a
  · exact hs
theorem len_insertE {l : List Pr} (hl : l.length ≤ 20000) (a : Pr) : (insertE l a).2.length ≤ 20000 := by
  unfold insertE
  split
  · exact len_insert hl a
  · exact hl
theorem srt_swapE {l : List Pr} (hs : Srt l) (k o n : ByteArray) : Srt (swapE l k o n).2 := by
  unfold swapE
  split
  · exact srt_swap hs k o n
  · exact hs
theorem len_swapE {l : List Pr} (hl : l.length ≤ 20000) (k o n : ByteArray) : (swapE l k o n).2.length ≤ 20000 := by
  unfold swapE
  split
  · exact len_swap hl k o n
  · exact hl
theorem srt_delE {l : List Pr} (hs : Srt l) (k : ByteArray) : Srt (delE l k) := by
  unfold delE
  split
  · split
    · exact srt_del hs _
    · exact hs
  · exact hs
theorem len_delE {l : List Pr} (hl : l.length ≤ 20000) (k : ByteArray) : (delE l k).length ≤ 20000 := by
  unfold delE
  split
  · split
    · simp; omega
    · exact hl
  · exact hl

/-! ### Ranges -/
theorem endP_pos {l : List Pr} (hs : Srt l) (st : ByteArray) : (bl st = [] ∧ endP l st = l.length) ∨ (¬ bl st = [] ∧ PosP l st (endP l st)) := by
  unfold endP
  by_cases h : bl st = []
  · rw [if_pos h]; exact .inl ⟨h, rfl⟩
  · rw [if_neg h]; exact .inr ⟨h, posP_pos hs st⟩

/-- The error and the pairs of a range. -/
def rangeE (l : List Pr) (sf st : ByteArray) (n : Int) : Int × List Pr :=
  if n < 1 ∨ 32 < n then (2, []) else if 24 < ((bl sf).length : Int) ∨ 24 < ((bl st).length : Int) then (5, []) else (0, rangeP l (posP l sf) (endP l st) n.toNat)

theorem rangeE_len (l : List Pr) (sf st : ByteArray) (n : Int) : (rangeE l sf st n).2.length ≤ l.length := by
  unfold rangeE
  split
  · simp
  · split
    · simp
    · unfold rangeP; simp; omega

theorem q_rangeM (b : Nat) (l : List Pr) (sf st : ByteArray) (n : Int) (H : AHeap) (r : Mdl H b l) (hs : Srt l) (hl : l.length ≤ 20000) :
    ∃ v' H', CC F.model_Model_Range [.pointer (some ⟨b, 0, none⟩), .string sf, .string st, .int .i64 n] H = some (.tuple #[v', .int .i64 (rangeE l sf st n).1], H') ∧ Own EPr H' T.api_Pair v' (rangeE l sf st n).2 ∧ Still H H' := by
  unfold rangeE
  split
  · rename_i h; exact ⟨_, H, q_Range_arg b sf st n H h, .inl ⟨rfl, rfl⟩, Fr.refl H⟩
  · rename_i h
    split
    · rename_i h2; exact ⟨_, H, q_Range_long b sf st n H (by omega) (by omega) h2, .inl ⟨rfl, rfl⟩, Fr.refl H⟩
    · rename_i h2
      obtain ⟨k, rfl⟩ : ∃ k : Nat, n = (k : Int) := ⟨n.toNat, by omega⟩
      exact q_Range b l sf st k H r hl _ _ (posP_pos hs sf) (endP_pos hs st) (by omega) (by omega) (by omega) (by omega)
theorem q_rangeR (b : Nat) (l : List Pr) (sf st : ByteArray) (n : Int) (H : AHeap) (r : MdlR H b l) (hs : Srt l) (hl : l.length ≤ 20000) :
    ∃ v' H', CC F.ref24_Model_Range [.pointer (some ⟨b, 0, none⟩), .string sf, .string st, .int .i64 n] H = some (.tuple #[v', .int .i64 (rangeE l sf st n).1], H') ∧ Rd EPr H' v' (rangeE l sf st n).2 ∧ Still H H' := by
  unfold rangeE
  split
  · rename_i h; exact ⟨_, H, q_RRange_arg b sf st n H h, .inl ⟨rfl, rfl⟩, Fr.refl H⟩
  · rename_i h
    split
    · rename_i h2; exact ⟨_, H, q_RRange_long b sf st n H (by omega) (by omega) h2, .inl ⟨rfl, rfl⟩, Fr.refl H⟩
    · rename_i h2
      obtain ⟨k, rfl⟩ : ∃ k : Nat, n = (k : Int) := ⟨n.toNat, by omega⟩
      exact q_RRange b l sf st k H r hs hl (by omega) (by omega) (by omega) (by omega)

theorem q_ranges (b : Nat) (l w : List Pr) (sf st : ByteArray) (n e : Int) (v : Value) (H : AHeap) (r : Mdl H b l) (hs : Srt l) (hl : l.length ≤ 20000) (hw : Rd EPr H v w) (h1 : w = (rangeE l sf st n).2) (h2 : e = (rangeE l sf st n).1) :
    CC F.law_ranges [.pointer (some ⟨b, 0, none⟩), .string sf, .string st, .int .i64 n, v, .int .i64 e] H = some (.bool true, H) := by
  obtain ⟨v', H', hr, ho, hst⟩ := q_rangeM b l sf st n H r hs hl
  have hlen := rangeE_len l sf st n
  have hsame := q_RSame (rangeE l sf st n).2 w v' v H' ho.rd (hw.still hst) (by omega)
  rw [decide_eq_true h1.symm] at hsame
  subst h2
  generalize (rangeE l sf st n).1 = e at hr
  apply pure_of _ (d_law_ranges _ _ _ _ _ _ H) rfl
  rotate_left 2
  · simp (disch := first | with_reducible rfl | assumption | omega | rfl | (simp only [go_sem]; first | done | omega)) only [go_sem, ↓reduceIte, reduceCtorEq, Nat.reduceEqDiff, Nat.reduceAdd, Nat.reduceSub, Nat.reduceMul, Nat.reduceDiv, Nat.reduceMod, Nat.reduceLeDiff, Nat.reduceLT, Nat.reduceBEq, Int.reduceEq, Int.reduceBEq, Int.reduceBNe, Int.reduceLT, Int.reduceLE, Int.reduceAdd, Int.reduceSub, Int.reduceNeg, Int.reduceToNat, Int.reducePow, Nat.reducePow, Int.reduceMul, Int.reduceDiv, ↓s_law_ranges, enterK_eq hr, enterK_eq hsame]
    rfl
  · exact hst

end Go.Proofs.Ytlagijfkkpbbnaa
