/-
  The engine, part 9: the abstract machine names no block that is not there: any operation; regions, code, calls.
  Conditions: none. By an AI agent.
-/
import Derived.Test.YtlagijfkkpbbnaaEng8
namespace Go.Proofs.Ytlagijfkkpbbnaa.Eng
open Go

variable {P : Program} {H H' : AHeap}

theorem OkV.still (h : Cl H) {v : Value} (hv : AD H.n v) : OkV H H v := ⟨h, hv, VO.refl _⟩

theorem nilTest_bool {n : Nat} {t : TypeId} {x y : Value} {b : Bool} (_h : nilTest P t x y = some b) : AD n (.bool b) := .bool b

theorem xbin_ad {n : Nat} {op : BinOp} {t : TypeId} {ox oy : Operand} {x y v : Value} (h : xbin P op t ox oy x y = some v) : AD n v := by
  unfold xbin at h
  split at h
  · cases op <;> simp only [strOp, reduceCtorEq] at h
    case add => split at h <;> simp at h; subst h; exact .str _
    all_goals (simp at h; subst h; exact .bool _)
  · split at h
    · exact AD.of_gr (pvg_inv h).2
    · split at h
      · simp only [Option.map_eq_some_iff] at h; obtain ⟨b, _, rfl⟩ := h; exact .bool _
      · simp only [Option.map_eq_some_iff] at h; obtain ⟨b, _, rfl⟩ := h; exact .bool _
      · simp at h

theorem slS_ad {n : Nat} {e : TypeId} {sz : Nat} {x v : Value} {lo hi mx : Option Value} (hx : AD n x) (h : slS e sz x lo hi mx H = some v) : AD n v := by
  unfold slS at h
  split at h
  · cases hx with
    | sl hb =>
      cases mx with
      | some m =>
        cases hi with
        | some hh =>
          simp only [Option.bind_eq_some_iff, Option.map_eq_some_iff] at h
          obtain ⟨_, _, _, _, _, _, rfl⟩ := h
          exact .sl hb
        | none => simp at h
      | none =>
        have h' : ((highOf (‹Nat› / 2) ‹Nat› hi).bind fun _ => (none : Option Nat)) = none := by simp
        cases hi <;>
          (simp only [Option.bind_eq_some_iff] at h
           obtain ⟨_, _, _, _, h⟩ := h
           split at h
           · split at h
             · simp at h; subst h; exact .sl hb
             · split at h
               · simp at h; subst h; exact .sl hb
               · simp at h
           · simp at h)
  · cases mx with
    | some m =>
      cases hi with
      | some hh =>
        simp only [Option.bind_eq_some_iff, Option.map_eq_some_iff] at h
        obtain ⟨_, _, _, _, _, _, rfl⟩ := h
        exact .nils
      | none => simp at h
    | none =>
      cases hi <;>
        (simp only [Option.bind_eq_some_iff, Option.map_eq_some_iff] at h
         obtain ⟨_, _, _, _, rfl⟩ := h
         exact .nils)
  · simp at h

theorem xslice_ad {n : Nat} {t : TypeId} {x v : Value} {lo hi mx : Option Value} (hx : AD n x) (h : xslice P t x lo hi mx H = some v) : AD n v := by
  unfold xslice at h
  split at h
  · simp only [Option.bind_eq_some_iff] at h
    obtain ⟨sz, _, h⟩ := h
    exact slS_ad hx h
  · simp only [Option.bind_eq_some_iff] at h
    obtain ⟨sz, _, h⟩ := h
    split at h
    · simp at h
    · unfold slA at h
      split at h
      · simp only [Option.bind_eq_some_iff, Option.map_eq_some_iff] at h
        obtain ⟨_, _, _, _, rfl⟩ := h
        cases hx with | ptr hb => exact .sl hb
      · simp at h
  · split at h
    · simp at h
    · unfold slT at h
      split at h
      · simp only [Option.bind_eq_some_iff, Option.map_eq_some_iff] at h
        obtain ⟨_, _, _, _, rfl⟩ := h
        exact .str _
      · simp at h
  · simp at h

theorem xindexAddr_ad {n : Nat} {t : TypeId} {x i v : Value} (hx : AD n x) (h : xindexAddr P t x i = some v) : AD n v := by
  unfold xindexAddr at h
  split at h
  · simp only [Option.bind_eq_some_iff] at h
    obtain ⟨sz, _, h⟩ := h
    unfold ixS at h
    split at h
    · split at h
      · simp at h; subst h; cases hx with | sl hb => exact .ptr hb
      · simp at h
    · simp at h
  · simp only [Option.bind_eq_some_iff] at h
    obtain ⟨sz, _, h⟩ := h
    unfold ixA at h
    split at h
    · split at h
      · simp at h; subst h; cases hx with | ptr hb => exact .ptr hb
      · simp at h
    · simp at h
  · simp at h

theorem xindex_ad {n : Nat} {t : TypeId} {x i v : Value} (hx : AD n x) (h : xindex P t x i = some v) : AD n v := by
  unfold xindex at h
  split at h
  · simp only [Option.bind_eq_some_iff] at h
    obtain ⟨sz, _, h⟩ := h
    split at h
    · exact xpart_ad hx h
    · simp at h
  · split at h
    · split at h
      · simp only [Option.map_eq_some_iff] at h
        obtain ⟨b, _, rfl⟩ := h
        exact .int _ _
      · simp at h
    · simp at h
  · simp at h

theorem xfield_ad {n : Nat} {t : TypeId} {x v : Value} {f : Nat} (hx : AD n x) (h : xfield P t x f = some v) : AD n v := by
  unfold xfield at h
  split at h
  · split at h
    · exact xpart_ad hx h
    · simp at h
  · simp at h

theorem xfieldAddr_ad {n : Nat} {t : TypeId} {x v : Value} {f : Nat} (hx : AD n x) (h : xfieldAddr P t x f = some v) : AD n v := by
  unfold xfieldAddr at h
  split at h
  · split at h
    · split at h
      · simp at h
      · unfold fad at h
        split at h
        · simp at h; subst h; cases hx with | ptr hb => exact .ptr hb
        · simp at h
    · simp at h
  · simp at h

theorem xextract_ad {n : Nat} {x v : Value} {i : Nat} (hx : AD n x) (h : xextract x i = some v) : AD n v := by
  unfold xextract at h
  split at h
  · cases hx with | tup hx => exact AD.arr hx h
  · simp at h

theorem xbuild_ad {n : Nat} {t : TypeId} {parts : List (Nat × Value)} (hp : ∀ p, p ∈ parts → AD n p.2) {v : Value} (h : xbuild P t parts = some v) : AD n v := by
  unfold xbuild at h
  split at h
  · rename_i z fs hz hu
    obtain ⟨_, _, _, hg⟩ := zero_inv hz
    have hz' : AD n (.agg z) := AD.of_gr hg
    cases hz' with
    | agg hz' =>
      simp only [Option.bind_eq_some_iff, bldS, Option.map_eq_some_iff] at h
      obtain ⟨_, _, out, ho, rfl⟩ := h
      exact .agg (fillX_ad hp hz' ho)
  · rename_i z m e hz hu
    obtain ⟨_, _, _, hg⟩ := zero_inv hz
    have hz' : AD n (.agg z) := AD.of_gr hg
    cases hz' with
    | agg hz' =>
      simp only [Option.bind_eq_some_iff, bldA, Option.map_eq_some_iff] at h
      obtain ⟨_, _, out, ho, rfl⟩ := h
      exact .agg (fillX_ad hp hz' ho)
  · simp at h

theorem zrow_ad {n : Nat} {e : TypeId} {z : List Value} (h : zrow P e = some z) : ADs n z := by
  obtain ⟨i, zv, _, _, hg, rfl, _, _⟩ := zrow_inv h
  have hz : AD n zv := AD.of_gr hg
  cases zv with
  | agg cs => cases hz with | agg hz => exact hz
  | _ => exact ADs.cons hz ADs.nil

theorem xbuildSlice_ad (hc : Cl H) {t : TypeId} {len : Nat} {parts : List (Nat × Value)} (hp : ∀ p, p ∈ parts → AD H.n p.2) {v : Value} (h : xbuildSlice P t len parts H = some (v, H')) : OkV H H' v := by
  unfold xbuildSlice at h
  split at h
  · simp only [Option.bind_eq_some_iff] at h
    obtain ⟨z, hz, h⟩ := h
    split at h
    · simp only [bldL, Option.map_eq_some_iff] at h
      obtain ⟨out, ho, h⟩ := h
      cases h
      refine ⟨hc.row ?_, .sl (by simp), VO.push _ _⟩
      have : ADs H.n out.toList := fillX_ad hp (ADs.zeros (zrow_ad hz) len) ho
      exact this.mono (by omega)
    · simp at h
  · simp at h

theorem xmakeSlice_ad (hc : Cl H) {t : TypeId} {l c v : Value} (h : xmakeSlice P t l c H = some (v, H')) : OkV H H' v := by
  unfold xmakeSlice at h
  split at h
  · simp only [Option.bind_eq_some_iff] at h
    obtain ⟨z, hz, h⟩ := h
    unfold mkS at h
    split at h
    · split at h
      · simp at h
        obtain ⟨rfl, rfl⟩ := h
        exact ⟨hc.row (ADs.zeros (zrow_ad hz) _), .sl (by simp), VO.push _ _⟩
      · simp at h
    · simp at h
  · simp at h

theorem xconv_ad (hc : Cl H) {src dst : TypeId} {x v : Value} (h : xconv P src dst x H = some (v, H')) : OkV H H' v := by
  unfold xconv at h
  split at h
  · split at h
    · split at h
      · simp at h
        obtain ⟨rfl, rfl⟩ := h
        exact ⟨hc.row (ADs.bytes _), .sl (by simp), VO.push _ _⟩
      · simp at h
    · simp at h
  · split at h
    · split at h
      · simp at h
        obtain ⟨rfl, rfl⟩ := h
        exact OkV.still hc (.str _)
      · simp only [Option.bind_eq_some_iff, Option.map_eq_some_iff] at h
        obtain ⟨_, _, _, _, h⟩ := h
        cases h
        exact OkV.still hc (.str _)
    · simp at h
  · split at h
    · simp only [Option.map_eq_some_iff] at h
      obtain ⟨u, hu, h⟩ := h
      cases h
      exact OkV.still hc (AD.of_gr (pvg_inv hu).2)
    · simp at h

theorem srcOf_ad (hc : Cl H) {e tx : TypeId} {z : List Value} (hz : zrow P e = some z) {x : Value} {n : Nat} {new : List Value} (h : srcOf P e z tx x H = some (n, new)) : ADs H.n new := by
  unfold srcOf at h
  split at h
  · unfold srcS at h
    split at h
    · simp at h; obtain ⟨rfl, rfl⟩ := h; exact ADs.nil
    · split at h
      · simp at h; obtain ⟨rfl, rfl⟩ := h; exact ADs.nil
      · simp only [Option.map_eq_some_iff] at h
        obtain ⟨l, hl, h⟩ := h
        cases h
        exact hc.cut hl
    · simp at h
  · split at h
    · unfold srcT at h
      split at h
      · simp at h; obtain ⟨rfl, rfl⟩ := h; exact ADs.bytes _
      · simp at h
    · simp at h
  · unfold srcZ at h
    split at h
    · split at h
      · simp at h; obtain ⟨rfl, rfl⟩ := h; exact ADs.zeros (zrow_ad hz) _
      · simp at h
    · simp at h
  · simp at h

theorem Cl.kill (hc : Cl H) (b : Nat) : Cl (H.set b .dead) := hc.set b (fun _ _ _ hk => by cases hk) (fun _ hk => by cases hk)

theorem app_ad (hc : Cl H) {e : TypeId} {sz bytes : Nat} {s v : Value} {src : Option (Nat × List Value)} (hs : AD H.n s) (hsrc : ∀ n new, src = some (n, new) → ADs H.n new) (h : app e sz bytes s src H = some (v, H')) : OkV H H' v := by
  unfold app at h
  split at h
  · simp only [Option.bind_eq_some_iff] at h
    obtain ⟨⟨n, new⟩, hsr, h⟩ := h
    have hnew := hsrc n new hsr
    simp only at h
    split at h
    · simp at h; obtain ⟨rfl, rfl⟩ := h; exact OkV.still hc hs
    · split at h
      · simp at h
      · split at h
        · split at h
          · simp only [Option.map_eq_some_iff] at h
            obtain ⟨H1, hst, h⟩ := h
            cases h
            obtain ⟨k1, k2, k3⟩ := hc.stL hnew hst
            cases hs with | sl hb => exact ⟨k1, .sl (by rw [k2]; exact hb), k3⟩
          · simp at h
        · split at h
          · simp at h
          · simp only [Option.bind_eq_some_iff, Option.map_eq_some_iff] at h
            obtain ⟨old, hold, H1, hk, h⟩ := h
            cases h
            have holdad : ADs H.n old := by
              unfold oldOf at hold
              split at hold
              · simp at hold; subst hold; exact ADs.nil
              · split at hold
                · exact hc.cut hold
                · simp at hold
            have hH1 : Cl H1 ∧ H1.n = H.n ∧ VO H H1 := by
              split at hk
              · simp at hk; subst hk; exact ⟨hc, rfl, VO.refl _⟩
              · unfold kill at hk
                split at hk
                · split at hk
                  · split at hk
                    · simp at hk; subst hk; exact ⟨hc.kill _, rfl, VO.set _ _ _ (by simp [alive])⟩
                    · simp at hk
                  · simp at hk
                · simp at hk
            obtain ⟨c1, c2, c3⟩ := hH1
            refine ⟨c1.row ?_, .sl (by simp), c3.trans (VO.push _ _)⟩
            rw [c2]
            exact (holdad.append hnew).mono (by omega)
  · simp at h

theorem xbuiltin_ad (hc : Cl H) {b : Builtin} {ts : List TypeId} {args : List Value} (ha : ADs H.n args) {v : Value} (h : xbuiltin P b ts args H = some (.val v H')) : OkV H H' v := by
  unfold xbuiltin at h
  split at h
  · obtain ⟨v0, H0, hh, e⟩ := both_inv h
    cases e
    clear h
    unfold xappend at hh
    split at hh
    · split at hh
      · simp only [Option.bind_eq_some_iff] at hh
        obtain ⟨z, hz, hk⟩ := hh
        exact app_ad hc (ha _ (by simp)) (fun n new hsr => srcOf_ad hc hz hsr) hk
      · simp at hh
    · simp at hh
  · obtain ⟨v0, hh, e⟩ := bare_inv h
    cases e
    clear h
    refine OkV.still hc ?_
    unfold xlen at hh
    split at hh
    · simp at hh
    · split at hh <;> first | (simp at hh; subst hh; exact .int _ _) | simp at hh
  · obtain ⟨v0, H0, hh, e⟩ := both_inv h
    cases e
    clear h
    unfold xcopy at hh
    split at hh
    · simp at hh
    · split at hh
      · simp only [Option.bind_eq_some_iff] at hh
        obtain ⟨sz, _, hh⟩ := hh
        unfold cpy at hh
        split at hh
        · split at hh
          · simp at hh; obtain ⟨rfl, rfl⟩ := hh; exact OkV.still hc (.int _ _)
          · split at hh
            · simp only [Option.bind_eq_some_iff, Option.map_eq_some_iff] at hh
              obtain ⟨l, hl, H1, hst, hh⟩ := hh
              cases hh
              obtain ⟨k1, k2, k3⟩ := hc.stL (hc.cut hl) hst
              exact ⟨k1, .int _ _, k3⟩
            · simp at hh
        · simp at hh
      · simp at hh
  · obtain ⟨v0, H0, hh, e⟩ := both_inv h
    cases e
    clear h
    unfold xclear at hh
    split at hh
    · simp at hh
    · split at hh
      · simp at hh; obtain ⟨rfl, rfl⟩ := hh; exact OkV.still hc (.tup (by simp))
      · split at hh
        · simp at hh; obtain ⟨rfl, rfl⟩ := hh; exact OkV.still hc (.tup (by simp))
        · simp only [Option.bind_eq_some_iff, Option.map_eq_some_iff] at hh
          obtain ⟨z, hz, H1, hst, hh⟩ := hh
          cases hh
          obtain ⟨k1, k2, k3⟩ := hc.stL (ADs.zeros (zrow_ad hz) _) hst
          exact ⟨k1, .tup (by simp), k3⟩
      · simp at hh
  · simp at h; obtain ⟨rfl, rfl⟩ := h; exact OkV.still hc (.str _)
  · simp at h; obtain ⟨rfl, rfl⟩ := h; exact OkV.still hc (.str _)
  · split at h
    · obtain ⟨v0, hh, e⟩ := bare_inv h
      cases e
      exact OkV.still hc (AD.of_gr (pvg_inv hh).2)
    · simp at h
  · split at h
    · obtain ⟨v0, hh, e⟩ := bare_inv h
      cases e
      exact OkV.still hc (AD.of_gr (pvg_inv hh).2)
    · simp at h
  · obtain ⟨v0, hh, e⟩ := bare_inv h
    cases e
    clear h
    refine OkV.still hc ?_
    unfold xcap at hh
    split at hh
    · simp at hh
    · split at hh
      · simp at hh; subst hh; exact .int _ _
      · split at hh
        · simp at hh; subst hh; exact .int _ _
        · simp at hh
      · simp at hh
  · simp at h

theorem parts_ad {n : Nat} {ρ : Operand → Value} (hρ : ∀ x, AD n (ρ x)) (l : List (Nat × Operand)) : ∀ p, p ∈ (l.map fun p => (p.1, ρ p.2)) → AD n p.2 := by
  intro p hp
  obtain ⟨q, _, rfl⟩ := List.mem_map.1 hp
  exact hρ _

theorem dOp_ad (hc : Cl H) {ρ : Operand → Value} (hρ : ∀ x, AD H.n (ρ x)) {o : Op} {v : Value} (h : dOp P ρ o H = some (.val v H')) : OkV H H' v := by
  cases o with
  | move x => simp [dOp] at h; obtain ⟨rfl, rfl⟩ := h; exact OkV.still hc (hρ x)
  | assign x => simp [dOp] at h; obtain ⟨rfl, rfl⟩ := h; exact OkV.still hc (hρ x)
  | pick c a b =>
    simp only [dOp] at h
    split at h
    · rename_i t _
      simp at h
      obtain ⟨rfl, rfl⟩ := h
      refine OkV.still hc ?_
      cases t
      · exact hρ b
      · exact hρ a
    · simp at h
  | alloc t =>
    obtain ⟨v0, H0, hh, e⟩ := both_inv h
    cases e
    simp only [xalloc, Option.bind_eq_some_iff] at hh
    obtain ⟨z, hz, hh⟩ := hh
    obtain ⟨_, _, _, hg⟩ := zero_inv hz
    exact newv_ad hc (AD.of_gr hg) hh
  | box t x => obtain ⟨v0, H0, hh, e⟩ := both_inv h; cases e; exact newv_ad hc (hρ x) hh
  | build t parts => obtain ⟨v0, hh, e⟩ := bare_inv h; cases e; exact OkV.still hc (xbuild_ad (parts_ad hρ _) hh)
  | buildSlice t len parts => obtain ⟨v0, H0, hh, e⟩ := both_inv h; cases e; exact xbuildSlice_ad hc (parts_ad hρ _) hh
  | load t a => obtain ⟨v0, hh, e⟩ := bare_inv h; cases e; exact OkV.still hc (xload_ad hc hh)
  | store t a x =>
    obtain ⟨H0, hh, e⟩ := quiet_inv h
    cases e
    obtain ⟨k1, k2, k3⟩ := xstore_ad hc (hρ x) hh
    exact ⟨k1, .tup (by simp), k3⟩
  | nilCheck x =>
    obtain ⟨v0, hh, e⟩ := bare_inv h
    cases e
    have hx := hρ x
    unfold xnilCheck at hh
    split at hh
    · rename_i hq; rw [hq] at hx; simp at hh; subst hh; exact OkV.still hc hx
    · rename_i hq; rw [hq] at hx; simp at hh; subst hh; exact OkV.still hc hx
    · simp at hh
  | binOp op t x y yt => obtain ⟨v0, hh, e⟩ := bare_inv h; cases e; exact OkV.still hc (xbin_ad hh)
  | unOp op t x =>
    obtain ⟨v0, hh, e⟩ := bare_inv h
    cases e
    unfold xun at hh
    split at hh
    · exact OkV.still hc (AD.of_gr (pvg_inv hh).2)
    · simp at hh
  | convert src dst x => obtain ⟨v0, H0, hh, e⟩ := both_inv h; cases e; exact xconv_ad hc hh
  | makeInterface t x =>
    simp only [dOp] at h
    cases hu : P.underlying t with
    | none => simp [hu] at h
    | some d => cases d <;> simp [hu] at h <;> (obtain ⟨rfl, rfl⟩ := h; exact OkV.still hc (.iface (hρ x)))
  | makeFunc fn x c =>
    cases fn with
    | func g =>
      simp [dOp] at h
      obtain ⟨rfl, rfl⟩ := h
      refine OkV.still hc (.func (fun u hu => ?_) (fun u hu => ?_))
      · rw [Array.toList_map] at hu; obtain ⟨p, _, rfl⟩ := List.mem_map.1 hu; exact hρ p
      · rw [Array.toList_map] at hu; obtain ⟨p, _, rfl⟩ := List.mem_map.1 hu; exact hρ p
    | _ => simp [dOp] at h
  | makeSlice t l c => obtain ⟨v0, H0, hh, e⟩ := both_inv h; cases e; exact xmakeSlice_ad hc hh
  | slice t x lo hi mx => obtain ⟨v0, hh, e⟩ := bare_inv h; cases e; exact OkV.still hc (xslice_ad (hρ x) hh)
  | fieldAddr t x f => obtain ⟨v0, hh, e⟩ := bare_inv h; cases e; exact OkV.still hc (xfieldAddr_ad (hρ x) hh)
  | field t x f => obtain ⟨v0, hh, e⟩ := bare_inv h; cases e; exact OkV.still hc (xfield_ad (hρ x) hh)
  | indexAddr t x i => obtain ⟨v0, hh, e⟩ := bare_inv h; cases e; exact OkV.still hc (xindexAddr_ad (hρ x) hh)
  | index t x i => obtain ⟨v0, hh, e⟩ := bare_inv h; cases e; exact OkV.still hc (xindex_ad (hρ x) hh)
  | extract x i => obtain ⟨v0, hh, e⟩ := bare_inv h; cases e; exact OkV.still hc (xextract_ad (hρ x) hh)
  | call c =>
    simp only [dOp] at h
    split at h
    · refine xbuiltin_ad hc (fun u hu => ?_) h
      obtain ⟨p, _, rfl⟩ := List.mem_map.1 hu
      exact hρ p
    · unfold xcall at h
      split at h
      · split at h
        · split at h
          · simp at h
          · split at h
            · simp at h
            · obtain ⟨u, hu, e⟩ := bare_inv h
              cases e
              refine OkV.still hc ?_
              unfold xext at hu
              split at hu
              · split at hu
                · simp at hu; subst hu; exact .int _ _
                · simp at hu
              · split at hu
                · split at hu
                  · split at hu
                    · split at hu
                      · simp at hu; subst hu; exact .bool _
                      · simp at hu
                    · simp at hu
                  · simp at hu
                · simp at hu
              · simp at hu
        · simp at h
      · simp at h
    · simp at h
  | _ => simp [dOp] at h

theorem dOp_ad_enter {ρ : Operand → Value} (hρ : ∀ x, AD H.n (ρ x)) {o : Op} {f : FuncId} {args : List Value} (h : dOp P ρ o H = some (.enter f args)) : ADs H.n args := by
  cases o with
  | call c =>
    simp only [dOp] at h
    split at h
    · exfalso
      unfold xbuiltin at h
      split at h <;> first
        | (simp [both, bare] at h; done)
        | (split at h <;> simp [bare] at h; done)
        | simp at h
    · rename_i f' _
      have hf := hρ f'
      unfold xcall at h
      split at h
      · rename_i hq
        rw [hq] at hf
        split at h
        · split at h
          · simp at h
          · split at h
            · simp at h
              obtain ⟨rfl, rfl⟩ := h
              cases hf with
              | func h1 h2 =>
                have h3 : ADs H.n (c.args.toList.map ρ) := fun u hu => by obtain ⟨p, _, rfl⟩ := List.mem_map.1 hu; exact hρ p
                exact ADs.append h1 (h3.append h2)
            · simp [bare] at h
        · simp at h
      · simp at h
    · simp at h
  | pick c a b => simp only [dOp] at h; split at h <;> simp at h
  | makeFunc fn x c => cases fn <;> simp [dOp] at h
  | makeInterface t x => simp only [dOp] at h; split at h <;> simp at h
  | _ => simp [dOp, bare, both, quiet] at h

end Go.Proofs.Ytlagijfkkpbbnaa.Eng
