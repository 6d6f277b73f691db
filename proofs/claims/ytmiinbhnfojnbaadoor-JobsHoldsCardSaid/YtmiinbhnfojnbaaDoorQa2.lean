/-
  The engine, contracts and laws: 13 texts in one (merge.py): Eng9 Eng10 Eng11 Eng12 Eng13 Eng14 Eng15 Eng16 Eng17 Eng18 Eng19 Eng20 Eng21.
  Conditions: none. By an AI agent.
-/
import Derived.Test.YtmiinbhnfojnbaaDoorQa1
import Derived.SizedLaws
import Derived.WalkKit
import Derived.ProofKit
import Derived.OpenShut
import Derived.ShutString
import Derived.ChangeOld
import Derived.Carry
set_option linter.unusedSimpArgs false
set_option linter.unusedVariables false
set_option linter.unusedSectionVars false
namespace Go.Proofs.YtmiinbhnfojnbaaDoor.Eng
open Go
variable {P : Program} {H H' : AHeap}
theorem OkV.still (h : Cl H) {v : Value} (hv : AD H.n v) : OkV H H v := ⟨h, hv, VO.refl _⟩
theorem xbin_ad {n : Nat} {op : BinOp} {t : TypeId} {ox oy : Operand} {x y v : Value} (h : Yf P op t ox oy x y = some v) : AD n v := by
  unfold Yf at h
  split at h
  · cases op <;> simp only [strOp, reduceCtorEq] at h
    case add => split at h <;> simp at h; subst h; exact .str _
    all_goals (simp at h; subst h; exact .bool _)
  · split at h
    · exact AD.of_gr (Qb h).2
    · split at h
      · simp only [Option.map_eq_some_iff] at h; obtain ⟨b, _, rfl⟩ := h; exact .bool _
      · simp only [Option.map_eq_some_iff] at h; obtain ⟨b, _, rfl⟩ := h; exact .bool _
      · simp at h
theorem slS_ad {n : Nat} {e : TypeId} {sz : Nat} {x v : Value} {lo hi mx : Option Value} (hx : AD n x) (h : slS e sz x lo hi mx H = some v) : AD n v := by
  unfold slS at h
  split at h
  · cases hx with
    | sl hb =>
      cases mx with
      | some m =>
        cases hi with
        | some hh =>
          simp only [Option.bind_eq_some_iff, Option.map_eq_some_iff] at h
          obtain ⟨_, _, _, _, _, _, rfl⟩ := h
          exact .sl hb
        | none => simp at h
      | none =>
        have h' : ((Wl (‹Nat› / 2) ‹Nat› hi).bind fun _ => (none : Option Nat)) = none := by simp
        cases hi <;>
          (simp only [Option.bind_eq_some_iff] at h
           obtain ⟨_, _, _, _, h⟩ := h
           split at h
           · split at h
             · simp at h; subst h; exact .sl hb
             · split at h
               · simp at h; subst h; exact .sl hb
               · simp at h
           · simp at h)
  · cases mx with
    | some m =>
      cases hi with
      | some hh =>
        simp only [Option.bind_eq_some_iff, Option.map_eq_some_iff] at h
        obtain ⟨_, _, _, _, _, _, rfl⟩ := h
        exact .nils
      | none => simp at h
    | none =>
      cases hi <;>
        (simp only [Option.bind_eq_some_iff, Option.map_eq_some_iff] at h
         obtain ⟨_, _, _, _, rfl⟩ := h
         exact .nils)
  · simp at h
theorem xslice_ad {n : Nat} {t : TypeId} {x v : Value} {lo hi mx : Option Value} (hx : AD n x) (h : X3 P t x lo hi mx H = some v) : AD n v := by
  unfold X3 at h
  split at h
  · simp only [Option.bind_eq_some_iff] at h
    obtain ⟨sz, _, h⟩ := h
    exact slS_ad hx h
  · simp only [Option.bind_eq_some_iff] at h
    obtain ⟨sz, _, h⟩ := h
    split at h
    · simp at h
    · unfold slA at h
      split at h
      · simp only [Option.bind_eq_some_iff, Option.map_eq_some_iff] at h
        obtain ⟨_, _, _, _, rfl⟩ := h
        cases hx with | ptr hb => exact .sl hb
      · simp at h
  · split at h
    · simp at h
    · unfold slT at h
      split at h
      · simp only [Option.bind_eq_some_iff, Option.map_eq_some_iff] at h
        obtain ⟨_, _, _, _, rfl⟩ := h
        exact .str _
      · simp at h
  · simp at h
theorem xindexAddr_ad {n : Nat} {t : TypeId} {x i v : Value} (hx : AD n x) (h : U0 P t x i = some v) : AD n v := by
  unfold U0 at h
  split at h
  · simp only [Option.bind_eq_some_iff] at h
    obtain ⟨sz, _, h⟩ := h
    unfold ixS at h
    split at h
    · split at h
      · simp at h; subst h; cases hx with | sl hb => exact .ptr hb
      · simp at h
    · simp at h
  · simp only [Option.bind_eq_some_iff] at h
    obtain ⟨sz, _, h⟩ := h
    unfold ixA at h
    split at h
    · split at h
      · simp at h; subst h; cases hx with | ptr hb => exact .ptr hb
      · simp at h
    · simp at h
  · simp at h
theorem xindex_ad {n : Nat} {t : TypeId} {x i v : Value} (hx : AD n x) (h : Uj P t x i = some v) : AD n v := by
  unfold Uj at h
  split at h
  · simp only [Option.bind_eq_some_iff] at h
    obtain ⟨sz, _, h⟩ := h
    split at h
    · exact xpart_ad hx h
    · simp at h
  · split at h
    · split at h
      · simp only [Option.map_eq_some_iff] at h
        obtain ⟨b, _, rfl⟩ := h
        exact .int _ _
      · simp at h
    · simp at h
  · simp at h
theorem xfield_ad {n : Nat} {t : TypeId} {x v : Value} {f : Nat} (hx : AD n x) (h : xfield P t x f = some v) : AD n v := by
  unfold xfield at h
  split at h
  · split at h
    · exact xpart_ad hx h
    · simp at h
  · simp at h
theorem xfieldAddr_ad {n : Nat} {t : TypeId} {x v : Value} {f : Nat} (hx : AD n x) (h : U8 P t x f = some v) : AD n v := by
  unfold U8 at h
  split at h
  · split at h
    · split at h
      · simp at h
      · unfold fad at h
        split at h
        · simp at h; subst h; cases hx with | ptr hb => exact .ptr hb
        · simp at h
    · simp at h
  · simp at h
theorem xextract_ad {n : Nat} {x v : Value} {i : Nat} (hx : AD n x) (h : Yn x i = some v) : AD n v := by
  unfold Yn at h
  split at h
  · cases hx with | tup hx => exact AD.arr hx h
  · simp at h
theorem xbuild_ad {n : Nat} {t : TypeId} {parts : List (Nat × Value)} (hp : ∀ p, p ∈ parts → AD n p.2) {v : Value} (h : xbuild P t parts = some v) : AD n v := by
  unfold xbuild at h
  split at h
  · rename_i z fs hz hu
    obtain ⟨_, _, _, hg⟩ := Qo hz
    have hz' : AD n (.agg z) := AD.of_gr hg
    cases hz' with
    | agg hz' =>
      simp only [Option.bind_eq_some_iff, Ui, Option.map_eq_some_iff] at h
      obtain ⟨_, _, out, ho, rfl⟩ := h
      exact .agg (fillX_ad hp hz' ho)
  · rename_i z m e hz hu
    obtain ⟨_, _, _, hg⟩ := Qo hz
    have hz' : AD n (.agg z) := AD.of_gr hg
    cases hz' with
    | agg hz' =>
      simp only [Option.bind_eq_some_iff, bldA, Option.map_eq_some_iff] at h
      obtain ⟨_, _, out, ho, rfl⟩ := h
      exact .agg (fillX_ad hp hz' ho)
  · simp at h
theorem zrow_ad {n : Nat} {e : TypeId} {z : List Value} (h : zrow P e = some z) : ADs n z := by
  obtain ⟨i, zv, _, _, hg, rfl, _, _⟩ := ZI h
  have hz : AD n zv := AD.of_gr hg
  cases zv with
  | agg cs => cases hz with | agg hz => exact hz
  | _ => exact ADs.cons hz ADs.nil
theorem xbuildSlice_ad (hc : Cl H) {t : TypeId} {len : Nat} {parts : List (Nat × Value)} (hp : ∀ p, p ∈ parts → AD H.n p.2) {v : Value} (h : WT P t len parts H = some (v, H')) : OkV H H' v := by
  unfold WT at h
  split at h
  · simp only [Option.bind_eq_some_iff] at h
    obtain ⟨z, hz, h⟩ := h
    split at h
    · simp only [UC, Option.map_eq_some_iff] at h
      obtain ⟨out, ho, h⟩ := h
      cases h
      refine ⟨hc.row ?_, .sl (by simp), VO.push _ _⟩
      have : ADs H.n out.toList := fillX_ad hp (ADs.zeros (zrow_ad hz) len) ho
      exact this.mono (by omega)
    · simp at h
  · simp at h
theorem xmakeSlice_ad (hc : Cl H) {t : TypeId} {l c v : Value} (h : Vp P t l c H = some (v, H')) : OkV H H' v := by
  unfold Vp at h
  split at h
  · simp only [Option.bind_eq_some_iff] at h
    obtain ⟨z, hz, h⟩ := h
    unfold mkS at h
    split at h
    · split at h
      · simp at h
        obtain ⟨rfl, rfl⟩ := h
        exact ⟨hc.row (ADs.zeros (zrow_ad hz) _), .sl (by simp), VO.push _ _⟩
      · simp at h
    · simp at h
  · simp at h
theorem xconv_ad (hc : Cl H) {src dst : TypeId} {x v : Value} (h : YP P src dst x H = some (v, H')) : OkV H H' v := by
  unfold YP at h
  split at h
  · split at h
    · split at h
      · simp at h
        obtain ⟨rfl, rfl⟩ := h
        exact ⟨hc.row (ADs.bytes _), .sl (by simp), VO.push _ _⟩
      · simp at h
    · simp at h
  · split at h
    · split at h
      · simp at h
        obtain ⟨rfl, rfl⟩ := h
        exact OkV.still hc (.str _)
      · simp only [Option.bind_eq_some_iff, Option.map_eq_some_iff] at h
        obtain ⟨_, _, _, _, h⟩ := h
        cases h
        exact OkV.still hc (.str _)
    · simp at h
  · split at h
    · simp only [Option.map_eq_some_iff] at h
      obtain ⟨u, hu, h⟩ := h
      cases h
      exact OkV.still hc (AD.of_gr (Qb hu).2)
    · simp at h
theorem srcOf_ad (hc : Cl H) {e tx : TypeId} {z : List Value} (hz : zrow P e = some z) {x : Value} {n : Nat} {new : List Value} (h : srcOf P e z tx x H = some (n, new)) : ADs H.n new := by
  unfold srcOf at h
  split at h
  · unfold Vn at h
    split at h
    · simp at h; obtain ⟨rfl, rfl⟩ := h; exact ADs.nil
    · split at h
      · simp at h; obtain ⟨rfl, rfl⟩ := h; exact ADs.nil
      · simp only [Option.map_eq_some_iff] at h
        obtain ⟨l, hl, h⟩ := h
        cases h
        exact hc.cut hl
    · simp at h
  · split at h
    · unfold srcT at h
      split at h
      · simp at h; obtain ⟨rfl, rfl⟩ := h; exact ADs.bytes _
      · simp at h
    · simp at h
  · unfold srcZ at h
    split at h
    · split at h
      · simp at h; obtain ⟨rfl, rfl⟩ := h; exact ADs.zeros (zrow_ad hz) _
      · simp at h
    · simp at h
  · simp at h
theorem Cl.kill (hc : Cl H) (b : Nat) : Cl (H.set b .dead) := hc.set b (fun _ _ _ hk => by cases hk) (fun _ hk => by cases hk)
theorem app_ad (hc : Cl H) {e : TypeId} {sz bytes : Nat} {s v : Value} {src : Option (Nat × List Value)} (hs : AD H.n s) (hsrc : ∀ n new, src = some (n, new) → ADs H.n new) (h : app e sz bytes s src H = some (v, H')) : OkV H H' v := by
  unfold app at h
  split at h
  · simp only [Option.bind_eq_some_iff] at h
    obtain ⟨⟨n, new⟩, hsr, h⟩ := h
    have hnew := hsrc n new hsr
    simp only at h
    split at h
    · simp at h; obtain ⟨rfl, rfl⟩ := h; exact OkV.still hc hs
    · split at h
      · simp at h
      · split at h
        · split at h
          · simp only [Option.map_eq_some_iff] at h
            obtain ⟨H1, hst, h⟩ := h
            cases h
            obtain ⟨k1, k2, k3⟩ := hc.stL hnew hst
            cases hs with | sl hb => exact ⟨k1, .sl (by rw [k2]; exact hb), k3⟩
          · simp at h
        · split at h
          · simp at h
          · simp only [Option.bind_eq_some_iff, Option.map_eq_some_iff] at h
            obtain ⟨old, hold, H1, hk, h⟩ := h
            cases h
            have holdad : ADs H.n old := by
              unfold Qx at hold
              split at hold
              · simp at hold; subst hold; exact ADs.nil
              · split at hold
                · exact hc.cut hold
                · simp at hold
            have hH1 : Cl H1 ∧ H1.n = H.n ∧ VO H H1 := by
              split at hk
              · simp at hk; subst hk; exact ⟨hc, rfl, VO.refl _⟩
              · unfold kill at hk
                split at hk
                · split at hk
                  · split at hk
                    · simp at hk; subst hk; exact ⟨hc.kill _, rfl, VO.set _ _ _ (by simp [Xf])⟩
                    · simp at hk
                  · simp at hk
                · simp at hk
            obtain ⟨c1, c2, c3⟩ := hH1
            refine ⟨c1.row ?_, .sl (by simp), c3.trans (VO.push _ _)⟩
            rw [c2]
            exact (holdad.append hnew).mono (by omega)
  · simp at h
theorem entries_ad (hc : Cl H) {d : TypeDesc} {m : Value} {es : List (Value × Value)} (h : XX d H m = some es) : ∀ p ∈ es, AD H.n p.2 := by
  unfold XX at h
  split at h
  · simp at h; subst h; intro p hp; cases hp
  · rename_i b
    split at h
    · rename_i es' hH
      split at h
      · simp at h; subst h; exact fun p hp => hc.maps b es' hH p hp
      · simp at h
    · simp at h
  · simp at h
theorem xdelete_ad (hc : Cl H) {ts : List TypeId} {m k v : Value} (h : QE P ts m k H = some (v, H')) : OkV H H' v := by
  unfold QE at h
  split at h
  · simp at h
  · split at h
    · split at h
      · split at h
        · split at h
          · simp at h; obtain ⟨rfl, rfl⟩ := h; exact OkV.still hc (.tup (by simp))
          · rename_i b
            simp only [Option.map_eq_some_iff] at h
            obtain ⟨es, hes, h⟩ := h
            cases h
            have hall := entries_ad hc hes
            have hal : Xf (H.f b) = true := by
              unfold XX at hes
              simp only at hes
              split at hes
              · rename_i hH; rw [hH]; rfl
              · simp at hes
            refine ⟨hc.set b (fun _ _ _ hk => by cases hk) (fun es' hk p hp => ?_), .tup (by simp), VO.set _ _ _ fun _ => hal⟩
            cases hk
            exact hall p (List.mem_filter.1 hp).1
          · simp at h
        · simp at h
      · simp at h
    · simp at h
theorem xbuiltin_ad (hc : Cl H) {b : Builtin} {ts : List TypeId} {args : List Value} (ha : ADs H.n args) {v : Value} (h : YN P b ts args H = some (.val v H')) : OkV H H' v := by
  unfold YN at h
  split at h
  · obtain ⟨v0, H0, hh, e⟩ := XF h
    cases e
    clear h
    unfold Za at hh
    split at hh
    · split at hh
      · simp only [Option.bind_eq_some_iff] at hh
        obtain ⟨z, hz, hk⟩ := hh
        exact app_ad hc (ha _ (by simp)) (fun n new hsr => srcOf_ad hc hz hsr) hk
      · simp at hh
    · simp at hh
  · obtain ⟨v0, hh, e⟩ := YO h
    cases e
    clear h
    refine OkV.still hc ?_
    unfold xlenM at hh
    split at hh
    · simp at hh
    · split at hh
      · split at hh
        · simp at hh; subst hh; exact .int _ _
        · split at hh
          · simp at hh; subst hh; exact .int _ _
          · simp at hh
        · simp at hh
      · unfold xlen at hh
        split at hh
        · simp at hh
        · split at hh <;> first | (simp at hh; subst hh; exact .int _ _) | simp at hh
  · obtain ⟨v0, H0, hh, e⟩ := XF h
    cases e
    clear h
    unfold xcopy at hh
    split at hh
    · simp at hh
    · split at hh
      · simp only [Option.bind_eq_some_iff] at hh
        obtain ⟨sz, _, hh⟩ := hh
        unfold cpy at hh
        split at hh
        · split at hh
          · simp at hh; obtain ⟨rfl, rfl⟩ := hh; exact OkV.still hc (.int _ _)
          · split at hh
            · simp only [Option.bind_eq_some_iff, Option.map_eq_some_iff] at hh
              obtain ⟨l, hl, H1, hst, hh⟩ := hh
              cases hh
              obtain ⟨k1, k2, k3⟩ := hc.stL (hc.cut hl) hst
              exact ⟨k1, .int _ _, k3⟩
            · simp at hh
        · simp at hh
      · simp at hh
  · obtain ⟨v0, H0, hh, e⟩ := XF h
    cases e
    clear h
    unfold xclear at hh
    split at hh
    · simp at hh
    · split at hh
      · simp at hh; obtain ⟨rfl, rfl⟩ := hh; exact OkV.still hc (.tup (by simp))
      · split at hh
        · simp at hh; obtain ⟨rfl, rfl⟩ := hh; exact OkV.still hc (.tup (by simp))
        · simp only [Option.bind_eq_some_iff, Option.map_eq_some_iff] at hh
          obtain ⟨z, hz, H1, hst, hh⟩ := hh
          cases hh
          obtain ⟨k1, k2, k3⟩ := hc.stL (ADs.zeros (zrow_ad hz) _) hst
          exact ⟨k1, .tup (by simp), k3⟩
      · simp at hh; obtain ⟨rfl, rfl⟩ := hh; exact OkV.still hc (.tup (by simp))
      · rename_i b _
        split at hh
        · rename_i es hH
          simp at hh; obtain ⟨rfl, rfl⟩ := hh
          exact ⟨hc.set b (fun _ _ _ hk => by cases hk) (fun es' hk p hp => by cases hk; cases hp), .tup (by simp), VO.set _ _ _ fun _ => by rw [hH]; rfl⟩
        · simp at hh
      · simp at hh
  · obtain ⟨v0, H0, hh, e⟩ := XF h
    cases e
    exact xdelete_ad hc hh
  · simp at h; obtain ⟨rfl, rfl⟩ := h; exact OkV.still hc (.str _)
  · simp at h; obtain ⟨rfl, rfl⟩ := h; exact OkV.still hc (.str _)
  · split at h
    · obtain ⟨v0, hh, e⟩ := YO h
      cases e
      exact OkV.still hc (AD.of_gr (Qb hh).2)
    · simp at h
  · split at h
    · obtain ⟨v0, hh, e⟩ := YO h
      cases e
      exact OkV.still hc (AD.of_gr (Qb hh).2)
    · simp at h
  · obtain ⟨v0, hh, e⟩ := YO h
    cases e
    clear h
    refine OkV.still hc ?_
    unfold xcap at hh
    split at hh
    · simp at hh
    · split at hh
      · simp at hh; subst hh; exact .int _ _
      · split at hh
        · simp at hh; subst hh; exact .int _ _
        · simp at hh
      · simp at hh
  · simp at h
theorem xlookup_ad (hc : Cl H) {t : TypeId} {m k v : Value} {ok : Bool} (h : Xb P t m k ok H = some v) : AD H.n v := by
  unfold Xb at h
  split at h
  · split at h
    · rename_i d z hd hz
      split at h
      · simp only [Option.map_eq_some_iff] at h
        obtain ⟨es, hes, h⟩ := h
        have hz' : AD H.n z := by obtain ⟨i, _, _, hg⟩ := Qo hz; exact AD.of_gr hg
        have hall := entries_ad hc hes
        have fin : ∀ (u : Value) (b : Bool), AD H.n u → AD H.n (if ok then .tuple #[u, .bool b] else u) := fun u b hu => by
          cases ok
          · exact hu
          · refine AD.tup (x := #[u, .bool b]) ?_
            intro x hx
            simp at hx
            rcases hx with rfl | rfl
            · exact hu
            · exact .bool _
        split at h
        · rename_i u hu
          subst h
          refine fin u true ?_
          unfold mget at hu
          simp only [Option.map_eq_some_iff] at hu
          obtain ⟨p, hp, rfl⟩ := hu
          exact hall p (List.mem_of_find?_eq_some hp)
        · subst h
          exact fin z false hz'
      · simp at h
    · simp at h
  · simp at h
theorem xmapUpdate_ad (hc : Cl H) {t : TypeId} {m k v : Value} (hv : AD H.n v) (h : Y8 P t m k v H = some H') : OkV H H' undef := by
  unfold Y8 at h
  split at h
  · rename_i kt e b hu
    split at h
    · split at h
      · simp only [Option.map_eq_some_iff] at h
        obtain ⟨es, hes, rfl⟩ := h
        have hall := entries_ad hc hes
        have hal : Xf (H.f b) = true := by
          unfold XX at hes
          simp only at hes
          split at hes
          · rename_i hH; rw [hH]; rfl
          · simp at hes
        refine ⟨hc.set b (fun _ _ _ hk => by cases hk) (fun es' hk p hp => ?_), AD.of_gr (k := 1) (by simp [gr, undef]), VO.set _ _ _ fun _ => hal⟩
        cases hk
        unfold mput at hp
        split at hp
        · obtain ⟨q, hq, rfl⟩ := List.mem_map.1 hp
          split
          · exact hv
          · exact hall q hq
        · rcases List.mem_append.1 hp with hp | hp
          · exact hall p hp
          · rw [List.mem_singleton] at hp; subst hp; exact hv
      · simp at h
    · simp at h
  · simp at h
theorem xmakeMap_ad (hc : Cl H) {t : TypeId} {q : Option Value} {v : Value} (h : WU P t q H = some (v, H')) : OkV H H' v := by
  have key : OkV H (H.push (.map [])) (.map (some H.n)) := ⟨hc.push (fun _ _ _ hk => by cases hk) (fun es hk p hp => by cases hk; cases hp), .map (by simp), VO.push _ _⟩
  unfold WU at h
  split at h <;> first | (simp at h; obtain ⟨rfl, rfl⟩ := h; exact key) | simp at h
theorem parts_ad {n : Nat} {ρ : Operand → Value} (hρ : ∀ x, AD n (ρ x)) (l : List (Nat × Operand)) : ∀ p, p ∈ (l.map fun p => (p.1, ρ p.2)) → AD n p.2 := by
  intro p hp
  obtain ⟨q, _, rfl⟩ := List.mem_map.1 hp
  exact hρ _
theorem dOp_ad (hc : Cl H) {ρ : Operand → Value} (hρ : ∀ x, AD H.n (ρ x)) {o : Op} {v : Value} (h : dOp P ρ o H = some (.val v H')) : OkV H H' v := by
  cases o with
  | move x => simp [dOp] at h; obtain ⟨rfl, rfl⟩ := h; exact OkV.still hc (hρ x)
  | assign x => simp [dOp] at h; obtain ⟨rfl, rfl⟩ := h; exact OkV.still hc (hρ x)
  | pick c a b =>
    simp only [dOp] at h
    split at h
    · rename_i t _
      simp at h
      obtain ⟨rfl, rfl⟩ := h
      refine OkV.still hc ?_
      cases t
      · exact hρ b
      · exact hρ a
    · simp at h
  | alloc t =>
    obtain ⟨v0, H0, hh, e⟩ := XF h
    cases e
    simp only [xalloc, Option.bind_eq_some_iff] at hh
    obtain ⟨z, hz, hh⟩ := hh
    obtain ⟨_, _, _, hg⟩ := Qo hz
    exact newv_ad hc (AD.of_gr hg) hh
  | box t x => obtain ⟨v0, H0, hh, e⟩ := XF h; cases e; exact newv_ad hc (hρ x) hh
  | build t parts => obtain ⟨v0, hh, e⟩ := YO h; cases e; exact OkV.still hc (xbuild_ad (parts_ad hρ _) hh)
  | buildSlice t len parts => obtain ⟨v0, H0, hh, e⟩ := XF h; cases e; exact xbuildSlice_ad hc (parts_ad hρ _) hh
  | load t a => obtain ⟨v0, hh, e⟩ := YO h; cases e; exact OkV.still hc (xload_ad hc hh)
  | store t a x =>
    obtain ⟨H0, hh, e⟩ := QL h
    cases e
    obtain ⟨k1, k2, k3⟩ := xstore_ad hc (hρ x) hh
    exact ⟨k1, .tup (by simp), k3⟩
  | nilCheck x =>
    obtain ⟨v0, hh, e⟩ := YO h
    cases e
    have hx := hρ x
    unfold Yz at hh
    split at hh
    · rename_i hq; rw [hq] at hx; simp at hh; subst hh; exact OkV.still hc hx
    · rename_i hq; rw [hq] at hx; simp at hh; subst hh; exact OkV.still hc hx
    · simp at hh
  | binOp op t x y yt => obtain ⟨v0, hh, e⟩ := YO h; cases e; exact OkV.still hc (xbin_ad hh)
  | unOp op t x =>
    obtain ⟨v0, hh, e⟩ := YO h
    cases e
    unfold xun at hh
    split at hh
    · exact OkV.still hc (AD.of_gr (Qb hh).2)
    · simp at hh
  | convert src dst x => obtain ⟨v0, H0, hh, e⟩ := XF h; cases e; exact xconv_ad hc hh
  | makeInterface t x =>
    simp only [dOp] at h
    cases hu : P.underlying t with
    | none => simp [hu] at h
    | some d => cases d <;> simp [hu] at h <;> (obtain ⟨rfl, rfl⟩ := h; exact OkV.still hc (.iface (hρ x)))
  | makeFunc fn x c =>
    cases fn with
    | func g =>
      simp [dOp] at h
      obtain ⟨rfl, rfl⟩ := h
      refine OkV.still hc (.func (fun u hu => ?_) (fun u hu => ?_))
      · rw [Array.toList_map] at hu; obtain ⟨p, _, rfl⟩ := List.mem_map.1 hu; exact hρ p
      · rw [Array.toList_map] at hu; obtain ⟨p, _, rfl⟩ := List.mem_map.1 hu; exact hρ p
    | _ => simp [dOp] at h
  | makeSlice t l c => obtain ⟨v0, H0, hh, e⟩ := XF h; cases e; exact xmakeSlice_ad hc hh
  | slice t x lo hi mx => obtain ⟨v0, hh, e⟩ := YO h; cases e; exact OkV.still hc (xslice_ad (hρ x) hh)
  | fieldAddr t x f => obtain ⟨v0, hh, e⟩ := YO h; cases e; exact OkV.still hc (xfieldAddr_ad (hρ x) hh)
  | field t x f => obtain ⟨v0, hh, e⟩ := YO h; cases e; exact OkV.still hc (xfield_ad (hρ x) hh)
  | indexAddr t x i => obtain ⟨v0, hh, e⟩ := YO h; cases e; exact OkV.still hc (xindexAddr_ad (hρ x) hh)
  | index t x i => obtain ⟨v0, hh, e⟩ := YO h; cases e; exact OkV.still hc (xindex_ad (hρ x) hh)
  | extract x i => obtain ⟨v0, hh, e⟩ := YO h; cases e; exact OkV.still hc (xextract_ad (hρ x) hh)
  | makeMap t q => obtain ⟨v0, H0, hh, e⟩ := XF h; cases e; exact xmakeMap_ad hc hh
  | lookup t x i ok => obtain ⟨v0, hh, e⟩ := YO h; cases e; exact OkV.still hc (xlookup_ad hc hh)
  | mapUpdate t m k x => obtain ⟨H0, hh, e⟩ := QL h; cases e; exact xmapUpdate_ad hc (hρ x) hh
  | insert t m k x => obtain ⟨H0, hh, e⟩ := QL h; cases e; exact xmapUpdate_ad hc (hρ x) hh
  | call c =>
    simp only [dOp] at h
    split at h
    · refine xbuiltin_ad hc (fun u hu => ?_) h
      obtain ⟨p, _, rfl⟩ := List.mem_map.1 hu
      exact hρ p
    · unfold xcall at h
      split at h
      · split at h
        · split at h
          · simp at h
          · split at h
            · simp at h
            · obtain ⟨u, hu, e⟩ := YO h
              cases e
              refine OkV.still hc ?_
              unfold xext at hu
              split at hu
              · split at hu
                · simp at hu; subst hu; exact .int _ _
                · simp at hu
              · split at hu
                · split at hu
                  · split at hu
                    · split at hu
                      · simp at hu; subst hu; exact .bool _
                      · simp at hu
                    · simp at hu
                  · simp at hu
                · simp at hu
              · simp at hu
        · simp at h
      · simp at h
    · simp at h
  | _ => simp [dOp] at h
theorem dOp_ad_enter {ρ : Operand → Value} (hρ : ∀ x, AD H.n (ρ x)) {o : Op} {f : FuncId} {args : List Value} (h : dOp P ρ o H = some (.enter f args)) : ADs H.n args := by
  cases o with
  | call c =>
    simp only [dOp] at h
    split at h
    · exfalso
      unfold YN at h
      split at h <;> first
        | (simp [both, bare] at h; done)
        | (split at h <;> simp [bare] at h; done)
        | simp at h
    · rename_i f' _
      have hf := hρ f'
      unfold xcall at h
      split at h
      · rename_i hq
        rw [hq] at hf
        split at h
        · split at h
          · simp at h
          · split at h
            · simp at h
              obtain ⟨rfl, rfl⟩ := h
              cases hf with
              | func h1 h2 =>
                have h3 : ADs H.n (c.args.toList.map ρ) := fun u hu => by obtain ⟨p, _, rfl⟩ := List.mem_map.1 hu; exact hρ p
                exact ADs.append h1 (h3.append h2)
            · simp [bare] at h
        · simp at h
      · simp at h
    · simp at h
  | pick c a b => simp only [dOp] at h; split at h <;> simp at h
  | makeFunc fn x c => cases fn <;> simp [dOp] at h
  | makeInterface t x => simp only [dOp] at h; split at h <;> simp at h
  | _ => simp [dOp, bare, both, quiet] at h
end Go.Proofs.YtmiinbhnfojnbaaDoor.Eng

namespace Go.Proofs.YtmiinbhnfojnbaaDoor.Eng
open Go
variable {P : Program} {H H' : AHeap}
theorem Vq (d : Nat) (v : Value) (T : Env) (t : Nat) : get ((d, v) :: T) t = if t = d then v else get T t := by
  unfold get
  rw [List.lookup_cons]
  by_cases h : t = d
  · simp [h]
  · have : (t == d) = false := by simpa using h
    simp [this, h]
theorem get_clr (T : Env) : ∀ (keep : List Nat) (t : Nat), get (clr keep T) t = if t ∈ keep then get T t else top
  | [], t => by simp [clr, get]
  | k :: ks, t => by
    have ih := get_clr T ks t
    simp only [clr, List.map_cons] at ih ⊢
    rw [Vq, ih]
    by_cases ht : t = k
    · simp [ht]
    · simp [ht]
theorem get_argEnv : ∀ (l : List Value) (i t : Nat), get (Ur i l) t = if i ≤ t ∧ t < i + l.length then l.getD (t - i) top else top
  | [], i, t => by simp [Ur, get]
  | v :: l, i, t => by
    rw [Ur, Vq, get_argEnv l (i + 1) t]
    by_cases h : t = i
    · subst h; simp
    · rw [if_neg h]
      by_cases h1 : i + 1 ≤ t ∧ t < i + 1 + l.length
      · rw [if_pos h1, if_pos (by simp; omega)]
        obtain ⟨d, hd⟩ : ∃ d, t - i = d + 1 := ⟨t - i - 1, by omega⟩
        rw [hd, show t - (i + 1) = d by omega]
        simp
      · rw [if_neg h1, if_neg (by simp; omega)]
def AT (n : Nat) (T : Env) : Prop := ∀ t, AD n (get T t)
theorem AT.mono {n m : Nat} (h : n ≤ m) {T : Env} (a : AT n T) : AT m T := fun t => (a t).mono h
theorem AT.clr {n : Nat} {T : Env} (a : AT n T) (keep : List Nat) : AT n (clr keep T) := fun t => by
  rw [get_clr]; split
  · exact a t
  · exact .unk
theorem AT.put {n : Nat} {T : Env} (a : AT n T) (d : Option Nat) {v : Value} (hv : AD n v) : AT n (put T d v) := fun t => by
  cases d with
  | none => exact a t
  | some d =>
    simp only [Eng.put, Vq]
    split
    · exact hv
    · exact a t
theorem AT.ev {n : Nat} {T : Env} (a : AT n T) (x : Operand) : AD n (ev T x) := by
  cases x with
  | tmp t => exact a t
  | const v =>
    simp only [Eng.ev]
    split
    · exact AD.of_gr (by assumption)
    · exact .unk
  | global g => exact .unk
  | func f => exact .func (fun v h => by simp at h) (fun v h => by simp at h)
theorem AT.args {n : Nat} {l : List Value} (h : ADs n l) : AT n (Ur 0 l) := fun t => by
  rw [get_argEnv]
  split
  · rename_i ht
    rw [List.getD_eq_getElem?_getD, List.getElem?_eq_getElem (by omega : t - 0 < l.length)]
    exact h _ (by simp)
  · exact .unk
def XC (call : Yc) : Prop := ∀ f args H v H', call f args H = some (v, H') → Cl H → ADs H.n args → OkV H H' v
structure OkT (H : AHeap) (T' : Env) (H' : AHeap) : Prop where
  cl : Cl H'
  at_ : AT H'.n T'
  vo : VO H H'
theorem undef_ad {n : Nat} : AD n undef := AD.of_gr (k := 1) (by simp [gr, undef])
theorem step_ad {N : Nat} {call : Yc} (hc : XC call) {ops : Array Oper} {o : Oper} {T : Env} {v : Value} (hl : Cl H) (ha : AT H.n T) (h : UG P N call ops o T H = some (v, H')) : OkV H H' v := by
  unfold UG at h
  split at h
  · split at h
    · split at h
      · rename_i v0 H0 hop
        simp at h
        obtain ⟨rfl, rfl⟩ := h
        exact dOp_ad hl ha.ev hop
      · rename_i f args hop
        exact hc f args H v H' h hl (dOp_ad_enter ha.ev hop)
      · simp at h
    · simp at h
      obtain ⟨rfl, rfl⟩ := h
      exact OkV.still hl undef_ad
    · simp at h
  · simp at h
theorem OkV.next {T : Env} {v : Value} (o : OkV H H' v) (ha : AT H.n T) (d : Option Nat) : OkT H (put T d v) H' :=
  ⟨o.1, (ha.mono o.2.2.n).put d o.2.1, o.2.2⟩
theorem OkT.trans {T' T'' : Env} {H'' : AHeap} (a : OkT H T' H') (b : OkT H' T'' H'') : OkT H T'' H'' := ⟨b.cl, b.at_, a.vo.trans b.vo⟩
theorem OkT.clr {T' : Env} (a : OkT H T' H') (keep : List Nat) : OkT H (clr keep T') H' := ⟨a.cl, a.at_.clr keep, a.vo⟩
theorem OkT.refl {T : Env} (hl : Cl H) (ha : AT H.n T) : OkT H T H := ⟨hl, ha, VO.refl _⟩
theorem ops_ad {N : Nat} {call : Yc} (hc : XC call) {ops : Array Oper} {T' : Env} : ∀ (l : List Oper) {T : Env} {H : AHeap}, Cl H → AT H.n T → ZS P N call ops l T H = some (T', H') → OkT H T' H'
  | [], T, H, hl, ha, h => by
    simp [ZS] at h
    obtain ⟨rfl, rfl⟩ := h
    exact OkT.refl hl ha
  | o :: l, T, H, hl, ha, h => by
    simp only [ZS, Option.bind_eq_some_iff] at h
    obtain ⟨⟨v, H1⟩, h1, h2⟩ := h
    have k := (step_ad hc hl ha h1).next ha o.dst
    exact k.trans (ops_ad hc l k.cl k.at_ h2)
structure Tr (P : Program) (N : Nat) (call : Yc) (ops : Array Oper) (F : Nat → Env × AHeap) (vs : Nat → Value) : Prop where
  step : ∀ (k : Nat) (o : Oper), ops[k]? = some o → UG P N call ops o (clr (looks ops o) (F k).1) (F k).2 = some (vs k, (F (k + 1)).2)
  env : ∀ (k : Nat) (o : Oper), ops[k]? = some o → (F (k + 1)).1 = put (F k).1 o.dst (vs k)
theorem trace_list {N : Nat} {call : Yc} {ops : Array Oper} : ∀ (l : List Oper) {T : Env} {H : AHeap} {tr : List (Env × AHeap)}, UI P N call ops l T H = some tr →
    ∃ (F : Nat → Env × AHeap) (vs : Nat → Value), F 0 = (T, H) ∧ (∀ k, k ≤ l.length → tr[k]? = some (F k)) ∧ tr.length = l.length + 1 ∧
      (∀ k o, l[k]? = some o → UG P N call ops o (clr (looks ops o) (F k).1) (F k).2 = some (vs k, (F (k + 1)).2) ∧ (F (k + 1)).1 = put (F k).1 o.dst (vs k))
  | [], T, H, tr, h => by
    simp [UI] at h
    subst h
    exact ⟨fun _ => (T, H), fun _ => undef, rfl, fun k hk => by simp at hk; subst hk; rfl, rfl, fun k o h => by simp at h⟩
  | o :: l, T, H, tr, h => by
    simp only [UI, Option.bind_eq_some_iff, Option.map_eq_some_iff] at h
    obtain ⟨⟨v, H1⟩, h1, tr1, h2, rfl⟩ := h
    obtain ⟨F, vs, f0, f1, f2, f3⟩ := trace_list l h2
    refine ⟨fun k => if k = 0 then (T, H) else F (k - 1), fun k => if k = 0 then v else vs (k - 1), rfl, ?_, by simp [f2], ?_⟩
    · intro k hk
      cases k with
      | zero => rfl
      | succ k => simpa using f1 k (by simpa using hk)
    · intro k o' ho'
      cases k with
      | zero => simp at ho'; subst ho'; simp [f0, h1]
      | succ k => simpa using f3 k o' (by simpa using ho')
theorem draw_spec {N : Nat} {call : Yc} {ops : Array Oper} {T T' : Env} (h : QX P N call ops T H = some (T', H')) :
    drawOk ops = true ∧ ∃ tr F vs, F 0 = (T, H) ∧ (∀ k, k ≤ ops.size → tr[k]? = some (F k)) ∧ (clash ops).all (okPair P ops tr) = true ∧ F ops.size = (T', H') ∧ Tr P N call ops F vs := by
  unfold QX at h
  split at h
  · rename_i hd
    simp only [Option.bind_eq_some_iff] at h
    obtain ⟨tr, h1, h2⟩ := h
    split at h2
    · rename_i hp
      obtain ⟨F, vs, f0, f1, f2, f3⟩ := trace_list _ h1
      refine ⟨hd, tr, F, vs, f0, fun k hk => f1 k (by simpa using hk), hp, ?_, fun k o ho => (f3 k o (by simpa using ho)).1, fun k o ho => (f3 k o (by simpa using ho)).2⟩
      have := f1 ops.size (by simp)
      rw [List.getLast?_eq_getElem?, f2] at h2
      simp at h2
      rw [h2] at this
      simpa using this.symm
    · simp at h2
  · simp at h
theorem Tr.ad {N : Nat} {call : Yc} (hc : XC call) {ops : Array Oper} {F : Nat → Env × AHeap} {vs : Nat → Value} (t : Tr P N call ops F vs) (hl : Cl (F 0).2) (ha : AT (F 0).2.n (F 0).1) :
    ∀ k, k ≤ ops.size → OkT (F 0).2 (F k).1 (F k).2
  | 0, _ => OkT.refl hl ha
  | k + 1, hk => by
    have ih := t.ad hc hl ha k (by omega)
    have ho : ops[k]? = some ops[k] := by simp [show k < ops.size by omega]
    have s := step_ad hc ih.cl (ih.at_.clr _) (t.step k _ ho)
    have := s.next ih.at_ ops[k].dst
    rw [← t.env k _ ho] at this
    exact ih.trans this
theorem draw_ad {N : Nat} {call : Yc} (hc : XC call) {ops : Array Oper} {T T' : Env} (hl : Cl H) (ha : AT H.n T) (h : QX P N call ops T H = some (T', H')) : OkT H T' H' := by
  obtain ⟨_, tr, F, vs, f0, _, _, f1, t⟩ := draw_spec h
  have := t.ad hc (by rw [f0]; exact hl) (by rw [f0]; exact ha) ops.size (Nat.le_refl _)
  rw [f0, f1] at this
  exact this
def Zk (piece : Env → AHeap → VC) : Prop := ∀ T H x T' H', piece T H = some (x, T', H') → Cl H → AT H.n T → OkT H T' H'
theorem loop_ad {body : Env → AHeap → VC} (hb : Zk body) (keep : List Nat) : ∀ m, Zk (WJ body keep m)
  | 0 => by intro T H x T' H' h; simp [WJ] at h
  | m + 1 => by
    intro T H x T' H' h hl ha
    simp only [WJ, Option.bind_eq_some_iff] at h
    obtain ⟨⟨x1, T1, H1⟩, h1, h2⟩ := h
    have k := hb _ _ _ _ _ h1 hl (ha.clr keep)
    cases x1 with
    | normal => exact k.trans (loop_ad hb keep m _ _ _ _ _ h2 k.cl k.at_)
    | exit id => simp at h2; obtain ⟨rfl, rfl, rfl⟩ := h2; exact k
    | ret => simp at h2; obtain ⟨rfl, rfl, rfl⟩ := h2; exact k
theorem Zh {N n : Nat} {call : Yc} (hc : XC call) : ∀ (c : DCode), Zk (Y5 P N call n c)
  | .skip => by
    intro T H x T' H' h hl ha
    simp [Y5] at h
    obtain ⟨rfl, rfl, rfl⟩ := h
    exact OkT.refl hl ha
  | .region id ops draw => by
    intro T H x T' H' h hl ha
    simp only [Y5, Option.map_eq_some_iff] at h
    obtain ⟨⟨T1, H1⟩, h1, h2⟩ := h
    cases h2
    cases draw with
    | false => exact ops_ad hc _ hl ha (by simpa using h1)
    | true => exact draw_ad hc hl ha (by simpa using h1)
  | .seq p q => by
    intro T H x T' H' h hl ha
    simp only [Y5, Option.bind_eq_some_iff] at h
    obtain ⟨⟨x1, T1, H1⟩, h1, h2⟩ := h
    have k := Zh hc p _ _ _ _ _ h1 hl ha
    cases x1 with
    | normal => exact k.trans (Zh hc q _ _ _ _ _ h2 k.cl k.at_)
    | exit id => simp at h2; obtain ⟨rfl, rfl, rfl⟩ := h2; exact k
    | ret => simp at h2; obtain ⟨rfl, rfl, rfl⟩ := h2; exact k
  | .cond keep c p q => by
    intro T H x T' H' h hl ha
    simp only [Y5] at h
    split at h
    · rename_i b hb
      simp only [Option.map_eq_some_iff] at h
      obtain ⟨⟨x1, T1, H1⟩, h1, h2⟩ := h
      have k : OkT H T1 H1 := by
        cases b with
        | true => exact Zh hc p _ _ _ _ _ (by simpa using h1) hl ha
        | false => exact Zh hc q _ _ _ _ _ (by simpa using h1) hl ha
      cases x1 with
      | normal => cases h2; exact k.clr keep
      | exit id => cases h2; exact k
      | ret => cases h2; exact k
    · simp at h
  | .block keep id p => by
    intro T H x T' H' h hl ha
    simp only [Y5, Option.map_eq_some_iff] at h
    obtain ⟨⟨x1, T1, H1⟩, h1, h2⟩ := h
    have k := Zh hc p _ _ _ _ _ h1 hl ha
    cases x1 with
    | normal => cases h2; exact k.clr keep
    | exit j =>
      simp only at h2
      split at h2
      · cases h2; exact k.clr keep
      · cases h2; exact k
    | ret => cases h2; exact k
  | .loop keep p => by
    intro T H x T' H' h hl ha
    simp only [Y5] at h
    exact loop_ad (Zh hc p) keep n _ _ _ _ _ h hl ha
  | .exit id => by
    intro T H x T' H' h hl ha
    simp [Y5] at h
    obtain ⟨rfl, rfl, rfl⟩ := h
    exact OkT.refl hl ha
  | .ret keep => by
    intro T H x T' H' h hl ha
    simp [Y5] at h
    obtain ⟨rfl, rfl, rfl⟩ := h
    exact (OkT.refl hl ha).clr keep
  | .bad c => by
    intro T H x T' H' h hl ha
    simp [Y5] at h
theorem Gd {T : Env} (hl : Cl H) (ha : AT H.n T) : ∀ {rs : List ResultVar} {l : List Value}, Wt P H T rs = some l → ADs H.n l
  | [], l, h => by simp [Wt] at h; subst h; exact ADs.nil
  | r :: rs, l, h => by
    simp only [Wt, Option.bind_eq_some_iff, Option.map_eq_some_iff] at h
    obtain ⟨v, hv, l1, hl1, rfl⟩ := h
    refine ADs.cons ?_ (Gd hl ha hl1)
    cases r with
    | tmp t => simp [resVal] at hv; subst hv; exact ha t
    | cell b t => exact xload_ad hl hv
theorem resultOf_ad {n : Nat} {l : List Value} (h : ADs n l) : AD n (XY l) := by
  unfold XY
  split
  · exact h _ (by simp)
  · exact .tup (fun v hv => h v (by simpa using hv))
theorem body_ad {hints : WE} {call : Yc} (hc : XC call) (n : Nat) : XC (Qk P hints call n) := by
  intro f args H v H' h hl ha
  unfold Qk at h
  split at h
  · split at h
    · simp only [Option.bind_eq_some_iff] at h
      obtain ⟨⟨x, T1, H1⟩, h1, h2⟩ := h
      have k := Zh hc _ _ _ _ _ _ h1 hl (AT.args ha)
      cases x with
      | exit id => simp at h2
      | normal =>
        simp only [Option.map_eq_some_iff] at h2
        obtain ⟨l, hl', h2⟩ := h2
        cases h2
        exact ⟨k.cl, resultOf_ad (Gd k.cl k.at_ hl'), k.vo⟩
      | ret =>
        simp only [Option.map_eq_some_iff] at h2
        obtain ⟨l, hl', h2⟩ := h2
        cases h2
        exact ⟨k.cl, resultOf_ad (Gd k.cl k.at_ hl'), k.vo⟩
    · simp at h
  · simp at h
theorem tidy_ad {r : Value × AHeap} {v : Value} (hl : Cl H) (o : OkV H r.2 r.1) (h : tidy H r = (v, H')) : OkV H H' v := by
  unfold tidy at h
  split at h
  · rename_i hg
    cases h
    exact OkV.still hl (AD.of_gr (k := 9) (by simp at hg; exact hg.1))
  · subst h; exact o
theorem call_ad {prims : ZO} {hints : WE} (hp : ∀ f p, prims f = some p → XC fun _ args H => p args H) : ∀ n, XC (UW P prims hints n)
  | 0 => by intro f args H v H' h; simp [UW] at h
  | n + 1 => by
    intro f args H v H' h hl ha
    simp only [UW] at h
    split at h
    · rename_i p hpf
      exact hp f p hpf f args H v H' h hl ha
    · simp only [Option.map_eq_some_iff] at h
      obtain ⟨r, h1, h2⟩ := h
      exact tidy_ad hl (body_ad (call_ad hp n) n f args H _ _ h1 hl ha) h2
end Go.Proofs.YtmiinbhnfojnbaaDoor.Eng

namespace Go.Proofs.YtmiinbhnfojnbaaDoor.Eng
open Go
variable {P : Program} {H H' G : AHeap}
def UK (f : Nat → Value) : Prop := (f = fun n => .pointer (some ⟨n, 0, none⟩)) ∨ (∃ l c, f = fun n => .slice (some ⟨n, 0, none⟩) l c) ∨ f = fun n => .map (some n)
def ZP (H G : AHeap) (v : Value) (H' : AHeap) (r : Option (Value × AHeap)) : Prop :=
  (H' = H ∧ r = some (v, G)) ∨ ∃ k f, UK f ∧ H' = H.push k ∧ v = f H.n ∧ r = some (f G.n, G.push k)
def W2 (H G : AHeap) (v : Value) (H' : AHeap) (r : Option DNext) : Prop :=
  (H' = H ∧ r = some (.val v G)) ∨ ∃ k f, UK f ∧ H' = H.push k ∧ v = f H.n ∧ r = some (.val (f G.n) (G.push k))
theorem ZP.both {v : Value} {r : Option (Value × AHeap)} (h : ZP H G v H' r) : W2 H G v H' (Eng.both r) := by
  rcases h with ⟨h1, h2⟩ | ⟨k, f, h1, h2, h3, h4⟩
  · exact .inl ⟨h1, by rw [h2]; rfl⟩
  · exact .inr ⟨k, f, h1, h2, h3, by rw [h4]; rfl⟩
theorem ZZ {r : Option (Value × AHeap)} {v : Value} (h : both r = some (.val v H')) : r = some (v, H') := by
  unfold both at h
  cases r with
  | none => simp at h
  | some p => simp at h; cases p; simp_all
theorem bare_val {r : Option Value} {v : Value} (h : bare r H = some (.val v H')) : r = some v ∧ H' = H := by
  unfold bare at h
  cases r with
  | none => simp at h
  | some p => simp at h; exact ⟨by rw [h.1], h.2.symm⟩
theorem W2.bare {v : Value} {r s : Option Value} (h : bare r H = some (.val v H')) (he : r = some v → s = some v) : W2 H G v H' (bare s G) := by
  obtain ⟨h1, h2⟩ := bare_val h
  exact .inl ⟨h2, by rw [he h1]; rfl⟩
theorem newv_alike {t : TypeId} {x v : Value} (h : XT t x H = some (v, H')) : ZP H G v H' (XT t x G) := by
  unfold XT at h ⊢
  cases hf : flat x with
  | none => simp [hf] at h
  | some l =>
    simp [hf] at h
    exact .inr ⟨_, _, .inl rfl, h.2.symm, h.1.symm, rfl⟩
theorem xload_alike {t : TypeId} {a v : Value} (hg : ∀ k, Yk a = some k → G.f k = H.f k) (h : UH P t a H = some v) : UH P t a G = some v := by
  rw [← h]
  unfold UH
  split
  · unfold ldN
    split
    · rename_i b o
      simp [cut, hg b rfl]
    · rfl
  · unfold ld1
    split
    · rename_i b o
      simp [hg b rfl]
    · rfl
  · rfl
theorem xslice_alike {t : TypeId} {x v : Value} {lo hi mx : Option Value} (hg : ∀ k, Yk x = some k → G.f k = H.f k) (h : X3 P t x lo hi mx H = some v) : X3 P t x lo hi mx G = some v := by
  rw [← h]
  unfold X3
  split
  · congr 1
    funext sz
    unfold slS
    split
    · rename_i b o len code
      rw [hg b rfl]
    · rfl
    · rfl
  · rfl
  · rfl
  · rfl
theorem xconv_alike {s d : TypeId} {x v : Value} (hg : ∀ k, Yk x = some k → G.f k = H.f k) (h : YP P s d x H = some (v, H')) : ZP H G v H' (YP P s d x G) := by
  unfold YP at h ⊢
  split at h
  · split at h
    · split at h
      · simp at h
        exact .inr ⟨_, _, .inr (.inl ⟨_, _, rfl⟩), h.2.symm, h.1.symm, by simp_all⟩
      · simp at h
    · simp at h
  · rename_i b o n _ _ _
    split at h
    · split at h
      · simp at h; obtain ⟨rfl, rfl⟩ := h
        exact .inl ⟨rfl, by simp_all⟩
      · rename_i hn
        simp only [Option.bind_eq_some_iff, Option.map_eq_some_iff] at h
        obtain ⟨l, h1, s, h2, h3⟩ := h
        cases h3
        refine .inl ⟨rfl, ?_⟩
        have hc : cut G b o n = some l := by rw [← h1]; simp [cut, hg b rfl]
        simp_all
    · simp at h
  · rename_i h1 h2
    split at h
    · simp only [Option.map_eq_some_iff] at h
      obtain ⟨u, h3, h4⟩ := h
      cases h4
      exact .inl ⟨rfl, by simp_all⟩
    · simp at h
theorem xbuildSlice_alike {t : TypeId} {len : Nat} {parts : List (Nat × Value)} {v : Value} (h : WT P t len parts H = some (v, H')) : ZP H G v H' (WT P t len parts G) := by
  unfold WT at h ⊢
  split at h
  · rename_i e he
    simp only [Option.bind_eq_some_iff] at h
    obtain ⟨z, hz, h⟩ := h
    split at h
    · rename_i hl
      unfold UC at h
      simp only [Option.map_eq_some_iff] at h
      obtain ⟨cs, h1, h2⟩ := h
      cases h2
      exact .inr ⟨_, _, .inr (.inl ⟨_, _, rfl⟩), rfl, rfl, by simp [hz, hl, UC, h1]⟩
    · simp at h
  · simp at h
theorem xmakeSlice_alike {t : TypeId} {l c v : Value} (h : Vp P t l c H = some (v, H')) : ZP H G v H' (Vp P t l c G) := by
  unfold Vp at h ⊢
  split at h
  · rename_i e he
    simp only [Option.bind_eq_some_iff] at h
    obtain ⟨z, hz, h⟩ := h
    unfold mkS at h
    split at h
    · split at h
      · rename_i hl
        simp at h
        exact .inr ⟨_, _, .inr (.inl ⟨_, _, rfl⟩), h.2.symm, h.1.symm, by simp [hz, mkS, hl]⟩
      · simp at h
    · simp at h
  · simp at h
theorem xbuiltin_alike {b : Builtin} {ts : List TypeId} {args : List Value} {v : Value} (hb : b = .min ∨ b = .max) (h : YN P b ts args H = some (.val v H')) : W2 H G v H' (YN P b ts args G) := by
  rcases hb with rfl | rfl <;> unfold YN at h ⊢ <;> split at h <;> simp_all <;> first
    | exact W2.bare h id
    | exact W2.bare h.2 id
    | exact .inl ⟨by simp_all, rfl⟩
theorem xbuiltin_len_alike {ts : List TypeId} {args : List Value} {v : Value} (hg : ∀ x t rest, args = [x] → ts = t :: rest → ∀ k e, P.underlying t = some (.map k e) → ∀ b, Yk x = some b → G.f b = H.f b) (h : YN P .len ts args H = some (.val v H')) : W2 H G v H' (YN P .len ts args G) := by
  match args, h, hg with
  | [x], h, hg =>
    refine W2.bare h fun hh => ?_
    unfold xlenM at hh ⊢
    cases ts with
    | nil => simp at hh
    | cons t rest =>
      simp only at hh ⊢
      have hx : ∀ k e, P.underlying t = some (.map k e) → ∀ b, Yk x = some b → G.f b = H.f b := hg x t rest rfl rfl
      cases hu : P.underlying t with
      | none => rw [hu] at hh; exact hh
      | some d =>
        rw [hu] at hh
        cases d with
        | map k e =>
          simp only at hh ⊢
          split at hh
          · exact hh
          · rename_i b
            rw [hx k e hu b rfl]
            exact hh
          · simp at hh
        | _ => exact hh
  | [], h, _ => simp [YN] at h
  | _ :: _ :: _, h, _ => simp [YN] at h
theorem xlookup_alike {t : TypeId} {m k v : Value} {ok : Bool} (hg : ∀ b, Yk m = some b → G.f b = H.f b) (h : Xb P t m k ok H = some v) : Xb P t m k ok G = some v := by
  have he : ∀ d, XX d G m = XX d H m := fun d => by
    unfold XX
    split
    · rfl
    · rename_i b
      rw [hg b rfl]
    · rfl
  rw [← h]
  unfold Xb
  simp only [he]
theorem dOp_alike {ρ : Operand → Value} {o : Op} {v : Value} (he : XU o = false) (hg : ∀ k, rdBlk P ρ o = some k → G.f k = H.f k) (h : dOp P ρ o H = some (.val v H')) : W2 H G v H' (dOp P ρ o G) := by
  cases o with
  | move x => simp [dOp] at h; exact .inl ⟨h.2.symm, by simp [dOp, h.1]⟩
  | assign x => simp [dOp] at h; exact .inl ⟨h.2.symm, by simp [dOp, h.1]⟩
  | pick c a b =>
    simp only [dOp] at h ⊢
    split at h
    · simp at h; exact .inl ⟨h.2.symm, by simp_all⟩
    · simp at h
  | alloc t =>
    simp only [dOp] at h ⊢
    refine ZP.both ?_
    have h := ZZ h
    unfold xalloc at h ⊢
    simp only [Option.bind_eq_some_iff] at h
    obtain ⟨z, hz, h⟩ := h
    rw [hz]
    exact newv_alike h
  | box t x => exact ZP.both (newv_alike (ZZ h))
  | build t parts => exact W2.bare h id
  | buildSlice t len parts => exact ZP.both (xbuildSlice_alike (ZZ h))
  | load t a => exact W2.bare h (xload_alike fun k hk => hg k (by simpa [rdBlk] using hk))
  | nilCheck x => exact W2.bare h id
  | binOp op t x y g => exact W2.bare h id
  | unOp op t x => exact W2.bare h id
  | convert src dst x => exact ZP.both (xconv_alike (fun k hk => hg k (by simpa [rdBlk] using hk)) (ZZ h))
  | makeInterface t x =>
    simp only [dOp] at h ⊢
    split at h
    · simp at h
    · simp at h
    · simp at h
      exact .inl ⟨h.2.symm, by simp [h.1]⟩
  | makeFunc f x c =>
    cases f <;> simp [dOp] at h
    exact .inl ⟨h.2.symm, by simp [dOp, h.1]⟩
  | makeMap t q =>
    simp only [dOp] at h ⊢
    refine ZP.both ?_
    have h := ZZ h
    unfold WU at h ⊢
    split at h
    · cases h; exact .inr ⟨_, _, .inr (.inr rfl), rfl, rfl, rfl⟩
    · cases h; exact .inr ⟨_, _, .inr (.inr rfl), rfl, rfl, rfl⟩
    · cases h
  | makeSlice t l c => exact ZP.both (xmakeSlice_alike (ZZ h))
  | slice t x lo hi mx => exact W2.bare h (xslice_alike fun k hk => hg k (by simpa [rdBlk] using hk))
  | fieldAddr t x f => exact W2.bare h id
  | field t x f => exact W2.bare h id
  | indexAddr t x i => exact W2.bare h id
  | index t x i => exact W2.bare h id
  | extract x i => exact W2.bare h id
  | lookup t m k ok => exact W2.bare h (xlookup_alike fun b hb => hg b (by simpa [rdBlk] using hb))
  | call c =>
    simp only [dOp, XU] at h he ⊢
    cases hc : c.callee with
    | builtin b =>
      simp only [hc] at h he ⊢
      by_cases hb : b = .len
      · subst hb
        refine xbuiltin_len_alike (fun x t rest hx ht k e hu bb hbb => hg bb ?_) h
        obtain ⟨y, hy, rfl⟩ : ∃ y, c.args.toList = [y] ∧ ρ y = x := by
          match hq : c.args.toList, hx with
          | [y], hx => exact ⟨y, rfl, by simpa using hx⟩
        simp only [rdBlk, hc, hy, ht, hu]
        exact hbb
      · exact xbuiltin_alike (by cases b <;> simp at he hb <;> simp) h
    | value f => simp [hc] at he
    | invoke a b => simp [hc] at he
  | _ => simp [XU] at he
theorem dOp_pure {ρ : Operand → Value} {o : Op} {f : FuncId} {args : List Value} (he : XU o = false) (h : dOp P ρ o H = some (.enter f args)) : False := by
  have hb : ∀ r : Option Value, bare r H ≠ some (.enter f args) := fun r => by cases r <;> simp [bare]
  have hc : ∀ r : Option (Value × AHeap), both r ≠ some (.enter f args) := fun r => by cases r <;> simp [both]
  unfold dOp at h
  split at h
  all_goals first
    | (simp at h; done)
    | exact hb _ h
    | exact hc _ h
    | (split at h <;> simp at h; done)
    | (unfold XU at he; simp at he; done)
    | skip
  · rename_i c
    cases hq : c.callee with
    | builtin b =>
      simp only [XU, hq] at h he
      unfold YN at h
      split at h
      all_goals first
        | exact hb _ h
        | exact hc _ h
        | (simp at h; done)
        | (split at h <;> first | exact hb _ h | simp at h)
    | value f => simp [XU, hq] at he
    | invoke a b => simp [XU, hq] at he
theorem step_alike {N : Nat} {call : Yc} {ops : Array Oper} {o : Oper} {T : Env} {v : Value} (he : XU o.op = false)
    (hg : goes ops o T ≠ some false → ∀ k, rdBlk P (ev T) o.op = some k → G.f k = H.f k) (h : UG P N call ops o T H = some (v, H')) : ZP H G v H' (UG P N call ops o T G) := by
  unfold UG at h ⊢
  split at h
  · rename_i hd
    rw [if_pos hd]
    split at h
    · rename_i hgo
      split at h
      · rename_i v0 H0 hop
        simp at h
        obtain ⟨rfl, rfl⟩ := h
        rcases dOp_alike (G := G) he (hg (by simp [hgo])) hop with ⟨h1, h2⟩ | ⟨k, f, h1, h2, h3, h4⟩
        · exact .inl ⟨h1, by rw [h2]⟩
        · exact .inr ⟨k, f, h1, h2, h3, by rw [h4]⟩
      · rename_i f args hop
        exact (dOp_pure he hop).elim
      · simp at h
    · rename_i hgo
      simp at h
      exact .inl ⟨h.2.symm, by simp [h.1]⟩
    · simp at h
  · simp at h
end Go.Proofs.YtmiinbhnfojnbaaDoor.Eng

namespace Go.Proofs.YtmiinbhnfojnbaaDoor.Eng
open Go
variable {P : Program} {B : Nat} {ι : Emb} {H : AHeap} {w : World}
def RT (ι : Emb) (N : Nat) (T : Env) (tmps : Array Value) : Prop := N ≤ tmps.size ∧ ∀ t, RV ι (get T t) (tmps.getD t undef)
theorem RT.mono {ι' : Emb} (hι : ∀ b L, ι b = some L → ι' b = some L) {N : Nat} {T : Env} {tmps : Array Value} (h : RT ι N T tmps) : RT ι' N T tmps :=
  ⟨h.1, fun t => (h.2 t).mono hι⟩
theorem RT.ev {N : Nat} {T : Env} {a : Act} (h : RT ι N T a.tmps) (x : Operand) : RV ι (ev T x) (a.eval x) := by
  cases x with
  | tmp t => exact h.2 t
  | const v =>
    simp only [Eng.ev, Act.eval]
    split
    · exact Wc (by assumption)
    · exact .unk _
  | global g => exact .unk _
  | func f => exact Wc (n := 1) (by simp [Eng.ev, gr])
theorem RT.put {N : Nat} {T : Env} {a : Act} (h : RT ι N T a.tmps) {dst : Option Nat} (hd : UY N dst = true) {v v' : Value} (hv : RV ι v v') : RT ι N (put T dst v) (a.put dst v').tmps := by
  cases dst with
  | none => exact h
  | some d =>
    have hlt : d < a.tmps.size := by
      have : d < N := by simpa [UY] using hd
      exact Nat.lt_of_lt_of_le this h.1
    refine ⟨by simpa [Act.put] using h.1, fun t => ?_⟩
    simp only [Eng.put, Vq]
    by_cases ht : t = d
    · subst ht
      simpa [Act.put, hlt] using hv
    · rw [if_neg ht]
      have := h.2 t
      simpa [Act.put, Array.getElem?_setIfInBounds_ne (Ne.symm ht)] using this
theorem RT.clr {N : Nat} {T : Env} {tmps : Array Value} (h : RT ι N T tmps) (keep : List Nat) : RT ι N (clr keep T) tmps := by
  refine ⟨h.1, fun t => ?_⟩
  rw [get_clr]
  split
  · exact h.2 t
  · exact .unk _
def Wo (P : Program) (call : Yc) : Prop :=
  ∀ f args H v H', call f args H = some (v, H') → Cl H → ADs H.n args → ∀ (B : Nat) (ι : Emb) (w : World) (args' : List Value), Rel P B ι H w → RVs ι args args' →
    Calls P f args'.toArray w fun e w' => ∃ v' ι', e = .returned v' ∧ RV ι' v v' ∧ Rel P B ι' H' w' ∧ Stp ι H w ι' H' w'
theorem goes_sound {N : Nat} {ops : Array Oper} {o : Oper} {T : Env} {a : Act} (h : RT ι N T a.tmps) {b : Bool} (hg : goes ops o T = some b) : Region.wanted o (yielded ops a.tmps) = b := by
  unfold goes at hg
  unfold Region.wanted
  cases ho : o.guard with
  | none => simp [ho] at hg; simp [hg]
  | some g =>
    obtain ⟨j, want⟩ := g
    simp only [ho] at hg
    cases hd : (ops[j]?).bind (·.dst) with
    | none => simp [hd] at hg
    | some d =>
      simp only [hd] at hg
      have hr := h.2 d
      unfold yielded
      simp only [hd]
      split at hg
      · rename_i b' hb
        rw [hb] at hr
        simp at hg
        generalize hq : a.tmps.getD d undef = q at hr
        cases hr
        have : a.tmps[d]? = some (.bool b') := by
          cases hx : a.tmps[d]? with
          | none => simp [hx, undef] at hq
          | some u => simp [hx] at hq; rw [hq]
        simp [this, ← hg]
      · rename_i vs hb
        rw [hb] at hr
        split at hg
        · rename_i h0
          simp at hg
          subst hg
          generalize hq : a.tmps.getD d undef = q at hr
          cases hr with
          | tup h1 h2 =>
            rename_i x'
            cases hx : a.tmps[d]? with
            | none => simp [hx]
            | some u => simp [hx] at hq; subst hq; simp [hx]
        · simp at hg
      · simp at hg
theorem QM {N : Nat} {call : Yc} (hc : Wo P call) {ops : Array Oper} {o : Oper} {T : Env} {H' : AHeap} {v : Value} {a : Act} {Q : Exit → Act → World → Prop} {i : Nat} (hi : ops[i]? = some o)
    (r : Rel P B ι H w) (ht : RT ι N T a.tmps) (had : XU o.op = true → Cl H ∧ AT H.n T) (h : UG P N call ops o T H = some (v, H')) {K : Act → World → Prop}
    (hK : ∀ ι' v' w', RV ι' v v' → Rel P B ι' H' w' → Stp ι H w ι' H' w' → UY N o.dst = true → K (a.put o.dst v') w') : wpOp P ops Q i K a w := by
  unfold UG at h
  split at h
  · rename_i hdst
    unfold wpOp
    simp only [hi]
    split at h
    · rename_i hg
      rw [goes_sound ht hg]
      simp only [if_true]
      refine .inl ?_
      split at h
      · rename_i v0 H0 hop
        simp at h
        obtain ⟨rfl, rfl⟩ := h
        obtain ⟨ι', nx, v', w', h1, h2, h3, h4, h5⟩ := dOp_val r ht.ev hop
        unfold Oper.wp
        rw [h1]
        cases nx <;> simp [nextVal] at h2
        · subst h2; exact hK ι' _ w' h3 h4 h5 hdst
        · subst h2; exact hK ι' _ w' h3 h4 h5 hdst
      · rename_i f args hop
        obtain ⟨args', h1, h2⟩ := dOp_enter (w := w) (P := P) ht.ev hop
        have he : XU o.op = true := by
          cases hq : XU o.op with
          | true => rfl
          | false => exact (dOp_pure hq hop).elim
        obtain ⟨hcl, hat⟩ := had he
        unfold Oper.wp
        rw [h2]
        refine (hc f args H v H' h hcl (dOp_ad_enter hat.ev hop) B ι w args' r h1).mono ?_
        rintro e w' ⟨v', ι', rfl, h3, h4, h5⟩
        exact hK ι' v' w' h3 h4 h5 hdst
      · simp at h
    · rename_i hg
      simp at h
      obtain ⟨rfl, rfl⟩ := h
      rw [goes_sound ht hg]
      simp only [Bool.false_eq_true, if_false]
      exact hK ι undef w undef_rel r (Stp.refl _ _ _ r.dom) hdst
    · simp at h
  · simp at h
theorem RB.low {n : Nat} {L : Loc} {k : Blk} (h : RB P B ι w L k) (hc : ∀ xs e rw, k = .cells xs e rw → ADs n xs) (hm : ∀ es, k = .map es → ∀ p, p ∈ es → AD n p.2) : RB P B (low n ι) w L k := by
  cases k with
  | dead => trivial
  | cells xs e rw =>
    obtain ⟨cs, e', fr, h1, h2, h3, h4, h5⟩ := h
    exact ⟨cs, e', fr, h1, h2, h3, fun i v hv => let ⟨v', a, b⟩ := h4 i v hv; ⟨v', a, b.low ((hc xs e rw rfl).get hv)⟩, h5⟩
  | map es =>
    obtain ⟨h0, ents, clock, h1, h2⟩ := h
    exact ⟨h0, ents, clock, h1, { h2 with fwd := fun p hp => let ⟨e, he, hk, hr⟩ := h2.fwd p hp; ⟨e, he, hk, hr.low (hm es rfl p hp)⟩ }⟩
  | siter s pos => exact h
theorem RB.lowCl {L : Loc} {b : Nat} (h : RB P B ι w L (H.f b)) (hc : Cl H) : RB P B (Eng.low H.n ι) w L (H.f b) :=
  h.low (fun xs e rw hk => hc.cells b xs e rw hk) (fun es hk => hc.maps b es hk)
theorem low_eq {ι' : Emb} {n : Nat} (hdom : ∀ b L, ι b = some L → b < n) (hext : ∀ b, b < n → ι' b = ι b) : low n ι' = ι := by
  funext b
  unfold low
  split
  · rename_i h; exact hext b h
  · rename_i h
    cases hq : ι b with
    | none => rfl
    | some L => exact absurd (hdom b L hq) h
theorem tidy_sound {ι' : Emb} {H' : AHeap} {w' : World} {v v' : Value} (hc : Cl H) (r : Rel P B ι H w) (hs : still H H' = true) (hg : gr 9 v = true) (hv : RV ι' v v') (r' : Rel P B ι' H' w') (s : Stp ι H w ι' H' w') :
    RV ι v v' ∧ Rel P B ι H w' ∧ Stp ι H w ι H w' := by
  have hf : ∀ b, b < H.n → H'.f b = H.f b := by
    intro b hb
    rcases s.vo.old b hb with h | h
    · exact h.2
    · unfold still at hs
      have := List.all_eq_true.1 hs b (by simpa using hb)
      have h1 : H'.ver b = H.ver b := by simpa using this
      have := hc.ver b
      omega
  have hlow : low H.n ι' = ι := low_eq r.dom s.ext
  have hup : ∀ b L, ι b = some L → ι' b = some L := s.up r.dom
  refine ⟨?_, ?_, ?_⟩
  · rw [gr_eq hg hv]; exact Wc hg
  · refine ⟨fun b L hb => ?_, fun b L hb => ⟨(r.lt b L hb).1, Nat.lt_of_lt_of_le (r.lt b L hb).2 s.wn⟩, r.inj, Nat.le_trans r.base s.wn, r.ver, r'.glob⟩
    have h1 := r'.blk b L (hup b L hb)
    rw [hf b (r.dom b L hb)] at h1
    have h2 := h1.lowCl hc
    rwa [hlow] at h2
  · exact ⟨fun _ _ => rfl, Nat.le_refl _, s.wn, s.os, s.tape, s.output, s.fr, fun b L hb h => absurd (r.dom b L h) (by omega), fun _ _ _ _ h => h, VO.refl _⟩
end Go.Proofs.YtmiinbhnfojnbaaDoor.Eng

namespace Go.Proofs.YtmiinbhnfojnbaaDoor.Eng
open Go
variable {P : Program} {B : Nat}
def maskOf (acc : List Nat) (o : Oper) : Nat := o.after.toList.foldl (fun s e => if Region.binds .any e then s ||| 2 ^ e.on ||| acc.getD e.on 0 else s) 0
theorem mask_bit {g : Nat → Nat} {i : Nat} : ∀ (l : List Edge) (s : Nat), (l.foldl (fun s e => if Region.binds .any e then s ||| 2 ^ e.on ||| g e.on else s) s).testBit i = true →
    s.testBit i = true ∨ ∃ e ∈ l, Region.binds .any e = true ∧ (i = e.on ∨ (g e.on).testBit i = true)
  | [], s, h => .inl h
  | e :: l, s, h => by
    simp only [List.foldl_cons] at h
    rcases mask_bit l _ h with h | ⟨e', h1, h2, h3⟩
    · split at h
      · rename_i hb
        simp only [Nat.testBit_or, Bool.or_eq_true, Nat.testBit_two_pow, decide_eq_true_eq] at h
        rcases h with (h | h) | h
        · exact .inl h
        · exact .inr ⟨e, by simp, hb, .inl h.symm⟩
        · exact .inr ⟨e, by simp, hb, .inr h⟩
      · exact .inl h
    · exact .inr ⟨e', by simp [h1], h2, h3⟩
theorem masks_step (o : Oper) (r : List Oper) (acc : List Nat) : WO (o :: r) acc = WO r (acc ++ [maskOf acc o]) := rfl
theorem masks_old : ∀ (l : List Oper) (acc : List Nat) (j : Nat), j < acc.length → (WO l acc).getD j 0 = acc.getD j 0
  | [], _, _, _ => rfl
  | o :: r, acc, j, h => by
    rw [masks_step, masks_old r _ j (by simp; omega)]
    simp [List.getElem?_append_left h]
theorem masks_bit : ∀ (l : List Oper) (acc : List Nat) (i j : Nat), bit (WO l acc) i j = true → acc.length ≤ j →
    ∃ o, l[j - acc.length]? = some o ∧ ∃ e ∈ o.after, Region.binds .any e = true ∧ (i = e.on ∨ bit (WO l acc) i e.on = true)
  | [], acc, i, j, h, hj => by
    simp [bit, WO, List.getElem?_eq_none hj] at h
  | o :: r, acc, i, j, h, hj => by
    rw [masks_step] at h ⊢
    by_cases hja : j = acc.length
    · subst hja
      refine ⟨o, by simp, ?_⟩
      unfold bit at h
      rw [masks_old r _ _ (by simp)] at h
      simp only [List.getD_eq_getElem?_getD, List.getElem?_concat_length, Option.getD_some] at h
      rcases mask_bit (g := fun x => acc.getD x 0) o.after.toList 0 h with h | ⟨e, h1, h2, h3⟩
      · simp at h
      · refine ⟨e, by simpa using h1, h2, h3.imp id fun h4 => ?_⟩
        unfold bit
        by_cases hl : e.on < acc.length
        · rw [masks_old r _ _ (by simp; omega)]
          simpa [List.getElem?_append_left hl] using h4
        · simp [List.getElem?_eq_none (Nat.le_of_not_lt hl)] at h4
    · obtain ⟨o', h1, h2⟩ := masks_bit r _ i j h (by simp; omega)
      refine ⟨o', ?_, h2⟩
      rw [← h1, show j - acc.length = (j - (acc ++ [maskOf acc o]).length) + 1 by simp; omega]
      simp
structure Ord (ops : Array Oper) (m : List Nat) : Prop where
  back : ∀ k o, ops[k]? = some o → ∀ e ∈ o.after, Region.binds .any e = true → e.on < k
  tmp : ∀ x y ox oy, ops[x]? = some ox → ops[y]? = some oy → x ≠ y → Vg m x y = true → ∀ t, oy.dst = some t → t ∉ looks ops ox ∧ ox.dst ≠ some t
  eff : ∀ x y ox oy, ops[x]? = some ox → ops[y]? = some oy → x ≠ y → Vg m x y = true → XU ox.op = true → XU oy.op = true → False
theorem Gq {ops : Array Oper} {k : Nat} {o : Oper} (h : ops[k]? = some o) : (o, k) ∈ ops.toList.zipIdx := by
  rw [List.mem_zipIdx_iff_getElem?]
  simpa using h
theorem drawOk_ord {ops : Array Oper} (h : drawOk ops = true) : Ord ops (WO ops.toList []) := by
  unfold drawOk at h
  simp only [Bool.and_eq_true] at h
  obtain ⟨⟨h1, h2⟩, h3⟩ := h
  refine ⟨fun k o ho e he hb => ?_, fun x y ox oy hx hy hne ha t ht => ?_, fun x y ox oy hx hy hne ha e1 e2 => ?_⟩
  · have := List.all_eq_true.1 (List.all_eq_true.1 h1 _ (Gq ho)) e (by simpa using he)
    simpa [hb] using this
  · have := List.all_eq_true.1 (List.all_eq_true.1 h2 _ (Gq hx)) _ (Gq hy)
    simpa [ht, ha, hne] using this
  · have := List.all_eq_true.1 (List.all_eq_true.1 h3 _ (Gq hx)) _ (Gq hy)
    simp [ha, hne, e1, e2] at this
theorem Ord.pred {ops : Array Oper} (o : Ord ops (WO ops.toList [])) {S : Nat → Bool} (hd : ∀ k o, ops[k]? = some o → S k = true → ∀ e ∈ o.after, Region.binds .any e = true → S e.on = true) :
    ∀ (k : Nat) {i : Nat}, (∀ o, ops[k]? = some o → ∀ e ∈ o.after, Region.binds .any e = true → S e.on = true) → bit (WO ops.toList []) i k = true → S i = true ∧ i < k := by
  intro k
  induction k using Nat.strongRecOn with
  | _ k ih =>
    intro i hk hb
    obtain ⟨x, hx, e, he, hbe, h⟩ := masks_bit _ _ _ _ hb (by simp)
    simp at hx
    have hlt := o.back k x hx e he hbe
    have hS := hk x hx e he hbe
    rcases h with rfl | h
    · exact ⟨hS, hlt⟩
    · have := ih e.on hlt (fun o' ho' => hd e.on o' ho' hS) h
      exact ⟨this.1, by omega⟩
theorem Ord.lt {ops : Array Oper} (o : Ord ops (WO ops.toList [])) {i k : Nat} (hb : bit (WO ops.toList []) i k = true) : i < k :=
  (o.pred (S := fun _ => true) (fun _ _ _ _ _ _ _ => rfl) k (fun _ _ _ _ _ => rfl) hb).2
theorem QK {m : List Nat} {x y : Nat} (h : ¬ Vg m x y = true) : bit m x y = true ∨ bit m y x = true := by
  unfold Vg at h
  cases h1 : bit m x y <;> cases h2 : bit m y x <;> simp_all
def con (F : Nat → Env × AHeap) : Nat → Nat → Nat → Blk
  | 0, e, b => (F e).2.f b
  | d + 1, e, b => if b < (F e).2.n then (F e).2.f b else con F d (e + 1) b
section
variable {N : Nat} {call : Yc} {ops : Array Oper} {F : Nat → Env × AHeap} {vs : Nat → Value}
theorem Qv {d e b : Nat} (h : b < (F e).2.n) : con F d e b = (F e).2.f b := by
  cases d with
  | zero => rfl
  | succ d => simp [con, h]
theorem con_skip {z e b : Nat} (he : e < z) (h : (F e).2.n ≤ b) : con F (z - e) e b = con F (z - (e + 1)) (e + 1) b := by
  obtain ⟨d, hd⟩ : ∃ d, z - e = d + 1 := ⟨z - e - 1, by omega⟩
  rw [hd, show z - (e + 1) = d by omega]
  simp [con, Nat.not_lt.2 h]
theorem con_from {z : Nat} : ∀ (d e b : Nat), e + d = z → ∃ m, e ≤ m ∧ m ≤ z ∧ con F d e b = (F m).2.f b
  | 0, e, b, h => ⟨e, by omega, by omega, rfl⟩
  | d + 1, e, b, h => by
    unfold con
    split
    · exact ⟨e, by omega, by omega, rfl⟩
    · obtain ⟨m, h1, h2, h3⟩ := con_from (z := z) d (e + 1) b (by omega)
      exact ⟨m, by omega, h2, h3⟩
structure Walk (P : Program) (N : Nat) (call : Yc) (ops : Array Oper) (F : Nat → Env × AHeap) (vs : Nat → Value) : Prop where
  tr : Tr P N call ops F vs
  ok : ∀ k, k ≤ ops.size → OkT (F 0).2 (F k).1 (F k).2
  vo : ∀ k, k < ops.size → VO (F k).2 (F (k + 1)).2
  ord : Ord ops (WO ops.toList [])
  pair : ∀ i j oi oj, ops[i]? = some oi → ops[j]? = some oj → XU oi.op = true → XU oj.op = false → Vg (WO ops.toList []) i j = true →
    (goes ops oj (clr (looks ops oj) (F j).1) ≠ some false → ∀ k, rdBlk P (ev (clr (looks ops oj) (F j).1)) oj.op = some k → (F i).2.n ≤ k ∨ (F (i + 1)).2.ver k = (F i).2.ver k) ∧
    ((F i).2.n ≤ (F j).2.n ∨ (F (j + 1)).2.n ≤ (F j).2.n ∨ (F (i + 1)).2.ver (F j).2.n = (F i).2.ver (F j).2.n)
theorem Walk.n_mono (W : Walk P N call ops F vs) {j : Nat} : ∀ {k : Nat}, j ≤ k → k ≤ ops.size → (F j).2.n ≤ (F k).2.n := by
  intro k hjk hk
  induction k with
  | zero => have : j = 0 := by omega
            subst this; exact Nat.le_refl _
  | succ k ih =>
    by_cases h : j = k + 1
    · subst h; exact Nat.le_refl _
    · exact Nat.le_trans (ih (by omega) (by omega)) (W.vo k (by omega)).n
theorem Walk.quiet (W : Walk P N call ops F vs) {k : Nat} {o : Oper} (ho : ops[k]? = some o) (he : XU o.op = false) :
    ((F (k + 1)).2 = (F k).2) ∨ ∃ b, (F (k + 1)).2 = (F k).2.push b := by
  rcases step_alike (G := (F k).2) he (fun _ _ _ => rfl) (W.tr.step k o ho) with ⟨h, _⟩ | ⟨b, f, _, h, _⟩
  · exact .inl h
  · exact .inr ⟨b, h⟩
theorem Walk.quiet_f (W : Walk P N call ops F vs) {k : Nat} {o : Oper} (ho : ops[k]? = some o) (he : XU o.op = false) {b : Nat} (hb : b < (F k).2.n) : (F (k + 1)).2.f b = (F k).2.f b := by
  rcases W.quiet ho he with h | ⟨x, h⟩
  · rw [h]
  · rw [h, AHeap.push_old _ _ (by omega)]
theorem Walk.con_quiet (W : Walk P N call ops F vs) {e : Nat} {o : Oper} (ho : ops[e]? = some o) (he : XU o.op = false) (b : Nat) : con F (ops.size - e) e b = con F (ops.size - (e + 1)) (e + 1) b := by
  have hlt : e < ops.size := (Array.getElem?_eq_some_iff.1 ho).1
  by_cases hb : b < (F e).2.n
  · rw [Qv hb, Qv (Nat.lt_of_lt_of_le hb (W.vo e hlt).n), W.quiet_f ho he hb]
  · exact con_skip hlt (Nat.le_of_not_lt hb)
theorem Walk.con_move (W : Walk P N call ops F vs) {e : Nat} (b : Nat) : ∀ (e' : Nat), e ≤ e' → e' ≤ ops.size → (∀ k o, e ≤ k → k < e' → ops[k]? = some o → XU o.op = false) →
    con F (ops.size - e) e b = con F (ops.size - e') e' b := by
  intro e'
  induction e' with
  | zero => intro h _ _; have : e = 0 := by omega
            subst this; rfl
  | succ k ih =>
    intro h1 h2 h3
    by_cases h : e = k + 1
    · subst h; rfl
    · rw [ih (by omega) (by omega) fun i o a b c => h3 i o a (by omega) c]
      exact W.con_quiet (o := ops[k]) (by simp [show k < ops.size by omega]) (h3 k _ (by omega) (by omega) (by simp [show k < ops.size by omega])) b
theorem Walk.chain (W : Walk P N call ops F vs) {j b : Nat} (hb : b < (F j).2.n) : ∀ (e : Nat), j ≤ e → e ≤ ops.size → (∀ i, j ≤ i → i < e → (F (i + 1)).2.f b = (F i).2.f b) → (F e).2.f b = (F j).2.f b := by
  intro e
  induction e with
  | zero => intro h _ _; have : j = 0 := by omega
            subst this; rfl
  | succ k ih =>
    intro h1 h2 h3
    by_cases h : j = k + 1
    · subst h; rfl
    · rw [h3 k (by omega) (by omega), ih (by omega) (by omega) fun i a b => h3 i a (by omega)]
theorem Walk.ahead (W : Walk P N call ops F vs) {j b : Nat} (hj : j ≤ ops.size) (hb : b < (F j).2.n) : ∀ (d e : Nat), e + d = j → (∀ i, e ≤ i → i < j → b < (F i).2.n → (F (i + 1)).2.f b = (F i).2.f b) →
    con F (ops.size - e) e b = (F j).2.f b
  | 0, e, h, _ => by
    have : e = j := by omega
    subst this
    exact Qv hb
  | d + 1, e, h, hok => by
    have ih := W.ahead hj hb d (e + 1) (by omega) fun i h1 h2 => hok i (by omega) h2
    by_cases hbe : b < (F e).2.n
    · rw [Qv hbe, ← hok e (by omega) (by omega) hbe, ← Qv (F := F) (d := ops.size - (e + 1)) (e := e + 1) (Nat.lt_of_lt_of_le hbe (W.vo e (by omega)).n)]
      exact ih
    · rw [con_skip (by omega) (Nat.le_of_not_lt hbe)]; exact ih
def Gat (F : Nat → Env × AHeap) (z clk e : Nat) : AHeap := ⟨(F z).2.n, clk + 1, con F (z - e) e, fun _ => clk, List.range (F 0).2.n :: (F 0).2.log⟩
theorem Walk.clG (W : Walk P N call ops F vs) {clk e : Nat} (he : e ≤ ops.size) : Cl (Gat F ops.size clk e) := by
  refine ⟨fun b xs el rw h => ?_, fun b es h => ?_, fun b => Nat.lt_succ_self _⟩
  · obtain ⟨m, h1, h2, h3⟩ := con_from (F := F) (z := ops.size) (ops.size - e) e b (by omega)
    exact ((W.ok m h2).cl.cells b xs el rw (by rw [← h3]; exact h)).mono (W.n_mono h2 (Nat.le_refl _))
  · obtain ⟨m, h1, h2, h3⟩ := con_from (F := F) (z := ops.size) (ops.size - e) e b (by omega)
    intro p hp
    exact ((W.ok m h2).cl.maps b es (by rw [← h3]; exact h) p hp).mono (W.n_mono h2 (Nat.le_refl _))
structure Inv (P : Program) (B N : Nat) (ops : Array Oper) (F : Nat → Env × AHeap) (vs : Nat → Value) (ι0 : Emb) (w0 : World) (S : Nat → Bool) (e : Nat) (ι : Emb) (a : Act) (w : World) : Prop where
  dn : ∀ k o, ops[k]? = some o → S k = true → ∀ e ∈ o.after, Region.binds .any e = true → S e.on = true
  lt : ∀ k, S k = true → k < ops.size
  le : e ≤ ops.size
  ev : ∀ k o, ops[k]? = some o → XU o.op = true → (S k = true ↔ k < e)
  dom : ∀ b L, ι b = some L → b < (F 0).2.n ∨ ∃ k, S k = true ∧ (F k).2.n ≤ b ∧ b < (F (k + 1)).2.n
  rel : Rel P B ι (Gat F ops.size (F 0).2.clk e) w
  stp : Stp ι0 (F 0).2 w0 ι (Gat F ops.size (F 0).2.clk e) w
  tN : N ≤ a.tmps.size
  tw : ∀ k o t, ops[k]? = some o → S k = true → o.dst = some t → (∀ k' o', ops[k']? = some o' → S k' = true → k < k' → o'.dst ≠ some t) → RV ι (vs k) (a.tmps.getD t undef)
  t0 : ∀ t, (∀ k o, ops[k]? = some o → S k = true → o.dst ≠ some t) → RV ι (get (F 0).1 t) (a.tmps.getD t undef)
  df : a.defers = []
theorem Tr.last (W : Tr P N call ops F vs) (t : Nat) : ∀ j, j ≤ ops.size →
    (∃ k o, k < j ∧ ops[k]? = some o ∧ o.dst = some t ∧ (∀ k' o', k < k' → k' < j → ops[k']? = some o' → o'.dst ≠ some t) ∧ get (F j).1 t = vs k) ∨
    ((∀ k o, k < j → ops[k]? = some o → o.dst ≠ some t) ∧ get (F j).1 t = get (F 0).1 t)
  | 0, _ => .inr ⟨fun k o h => by omega, rfl⟩
  | j + 1, hj => by
    have ho : ops[j]? = some ops[j] := by simp [show j < ops.size by omega]
    have he := W.env j _ ho
    by_cases hd : ops[j].dst = some t
    · refine .inl ⟨j, _, by omega, ho, hd, fun k' o' h1 h2 => by omega, ?_⟩
      rw [he, hd]
      simp [put, Vq]
    · have hg : get (F (j + 1)).1 t = get (F j).1 t := by
        rw [he]
        cases hq : ops[j].dst with
        | none => rfl
        | some d =>
          simp only [put, Vq]
          rw [if_neg]
          rintro rfl
          exact hd hq
      rcases W.last t j (by omega) with ⟨k, o, h1, h2, h3, h4, h5⟩ | ⟨h1, h2⟩
      · refine .inl ⟨k, o, by omega, h2, h3, fun k' o' a b c => ?_, hg.trans h5⟩
        by_cases hk : k' = j
        · subst hk; rw [ho] at c; cases c; exact hd
        · exact h4 k' o' a (by omega) c
      · refine .inr ⟨fun k o a c => ?_, hg.trans h2⟩
        by_cases hk : k = j
        · subst hk; rw [ho] at c; cases c; exact hd
        · exact h1 k o (by omega) c
theorem tmps_put {a : Act} {dst : Option Nat} (hd : UY N dst = true) (hN : N ≤ a.tmps.size) (v : Value) (t : Nat) : (a.put dst v).tmps.getD t undef = if dst = some t then v else a.tmps.getD t undef := by
  cases dst with
  | none => simp [Act.put]
  | some d =>
    have hlt : d < a.tmps.size := by
      have : d < N := by simpa [UY] using hd
      omega
    by_cases h : d = t
    · subst h; simp [Act.put, hlt]
    · rw [if_neg (by simpa using h)]
      simp [Act.put, Array.getElem?_setIfInBounds_ne h]
variable {ι0 ι : Emb} {w0 w : World} {S : Nat → Bool} {e : Nat} {a : Act}
theorem Inv.looks (W : Walk P N call ops F vs) (I : Inv P B N ops F vs ι0 w0 S e ι a w) {j : Nat} {oj : Oper} (hj : ops[j]? = some oj) (hS : S j = false)
    (hr : ∀ e ∈ oj.after, Region.binds .any e = true → S e.on = true) {t : Nat} (ht : t ∈ Eng.looks ops oj) : RV ι (get (F j).1 t) (a.tmps.getD t undef) := by
  have hlt : j < ops.size := (Array.getElem?_eq_some_iff.1 hj).1
  have hpred : ∀ k, bit (WO ops.toList []) k j = true → S k = true := fun k hk =>
    (W.ord.pred I.dn j (fun o ho => by rw [hj] at ho; cases ho; exact hr) hk).1
  have hnot : ∀ k o, ops[k]? = some o → k ≠ j → o.dst = some t → (bit (WO ops.toList []) k j = true ∨ bit (WO ops.toList []) j k = true) := by
    intro k o ho hne hd
    have := W.ord.tmp j k oj o hj ho (Ne.symm hne)
    rcases Classical.em (Vg (WO ops.toList []) j k = true) with h | h
    · exact absurd ht (this h t hd).1
    · exact (QK h).symm
  have hafter : ∀ k o, ops[k]? = some o → j < k → S k = true → o.dst ≠ some t := by
    intro k o ho hlt hk hd
    rcases hnot k o ho (by omega) hd with h | h
    · have := W.ord.lt h; omega
    · have := (W.ord.pred I.dn k (fun o' ho' => by rw [ho] at ho'; cases ho'; exact I.dn k o ho hk) h).1
      rw [hS] at this; cases this
  rcases W.tr.last t j (by omega) with ⟨k, o, h1, h2, h3, h4, h5⟩ | ⟨h1, h2⟩
  · rw [h5]
    have hk : S k = true := by
      rcases hnot k o h2 (by omega) h3 with h | h
      · exact hpred k h
      · have := W.ord.lt h; omega
    refine I.tw k o t h2 hk h3 fun k' o' ho' hk' hlt' => ?_
    rcases Nat.lt_trichotomy k' j with h | h | h
    · exact h4 k' o' hlt' h ho'
    · subst h; rw [hS] at hk'; cases hk'
    · exact hafter k' o' ho' h hk'
  · rw [h2]
    refine I.t0 t fun k o ho hk => ?_
    rcases Nat.lt_trichotomy k j with h | h | h
    · exact h1 k o h ho
    · subst h; rw [hS] at hk; cases hk
    · exact hafter k o ho h hk
def add (S : Nat → Bool) (j : Nat) : Nat → Bool := fun k => k == j || S k
theorem Inv.tmps (W : Walk P N call ops F vs) (I : Inv P B N ops F vs ι0 w0 S e ι a w) {j : Nat} {oj : Oper} (hj : ops[j]? = some oj) (hS : S j = false)
    (hr : ∀ e ∈ oj.after, Region.binds .any e = true → S e.on = true) {ι' : Emb} (hι : ∀ b L, ι b = some L → ι' b = some L) {v' : Value} (hv : RV ι' (vs j) v') (hd : UY N oj.dst = true) :
    (∀ k o t, ops[k]? = some o → add S j k = true → o.dst = some t → (∀ k' o', ops[k']? = some o' → add S j k' = true → k < k' → o'.dst ≠ some t) → RV ι' (vs k) ((a.put oj.dst v').tmps.getD t undef)) ∧
    (∀ t, (∀ k o, ops[k]? = some o → add S j k = true → o.dst ≠ some t) → RV ι' (get (F 0).1 t) ((a.put oj.dst v').tmps.getD t undef)) := by
  have hin : ∀ k, S k = true → add S j k = true := fun k h => by simp [add, h]
  refine ⟨fun k o t ho hk hkd hlast => ?_, fun t h => ?_⟩
  · rw [tmps_put hd I.tN]
    by_cases hkj : k = j
    · subst hkj
      rw [hj] at ho; cases ho
      rw [if_pos hkd]; exact hv
    · have hk' : S k = true := by simpa [add, hkj] using hk
      have hne : oj.dst ≠ some t := by
        intro hjd
        have hjk : j < k := by
          rcases Nat.lt_trichotomy k j with h | h | h
          · exact absurd hjd (hlast j oj hj (by simp [add]) h)
          · exact absurd h hkj
          · exact h
        have := W.ord.tmp j k oj o hj ho (Ne.symm hkj)
        rcases Classical.em (Vg (WO ops.toList []) j k = true) with h | h
        · exact (this h t hkd).2 hjd
        · rcases QK h with h | h
          · have := (W.ord.pred I.dn k (fun o' ho' => by rw [ho] at ho'; cases ho'; exact I.dn k o ho hk') h).1
            rw [hS] at this; cases this
          · have := W.ord.lt h; omega
      rw [if_neg hne]
      exact (I.tw k o t ho hk' hkd fun k' o' ho' hk'' => hlast k' o' ho' (hin k' hk'')).mono hι
  · rw [tmps_put hd I.tN, if_neg (h j oj hj (by simp [add]))]
    exact (I.t0 t fun k o ho hk => h k o ho (hin k hk)).mono hι
theorem Inv.next_dn (I : Inv P B N ops F vs ι0 w0 S e ι a w) {j : Nat} {oj : Oper} (hj : ops[j]? = some oj) (hr : ∀ e ∈ oj.after, Region.binds .any e = true → S e.on = true) :
    ∀ k o, ops[k]? = some o → add S j k = true → ∀ e ∈ o.after, Region.binds .any e = true → add S j e.on = true := by
  intro k o ho hk e he hb
  by_cases hkj : k = j
  · subst hkj
    rw [hj] at ho; cases ho
    simp [add, hr e he hb]
  · have hk' : S k = true := by simpa [add, hkj] using hk
    simp [add, I.dn k o ho hk' e he hb]
theorem Inv.room (W : Walk P N call ops F vs) (I : Inv P B N ops F vs ι0 w0 S e ι a w) {j : Nat} (hj : j < ops.size) (hS : S j = false) {b : Nat} (h1 : (F j).2.n ≤ b) (h2 : b < (F (j + 1)).2.n) : ι b = none := by
  cases hq : ι b with
  | none => rfl
  | some L =>
    exfalso
    rcases I.dom b L hq with h | ⟨k, hk, h3, h4⟩
    · have := W.n_mono (j := 0) (k := j) (by omega) (by omega); omega
    · have hkz := I.lt k hk
      rcases Nat.lt_trichotomy k j with h | h | h
      · have := W.n_mono (j := k + 1) (k := j) (by omega) (by omega); omega
      · subst h; rw [hS] at hk; cases hk
      · have := W.n_mono (j := j + 1) (k := k) (by omega) (by omega); omega
end
end Go.Proofs.YtmiinbhnfojnbaaDoor.Eng

namespace Go.Proofs.YtmiinbhnfojnbaaDoor.Eng
open Go
variable {P : Program} {B : Nat} {N : Nat} {call : Yc} {ops : Array Oper} {F : Nat → Env × AHeap} {vs : Nat → Value} {ι0 ι : Emb} {w0 w : World} {S : Nat → Bool} {e : Nat} {a : Act}
theorem Inv.move (W : Walk P N call ops F vs) (I : Inv P B N ops F vs ι0 w0 S e ι a w) {e' : Nat} (h1 : e ≤ e') (h2 : e' ≤ ops.size) (h3 : ∀ k o, e ≤ k → k < e' → ops[k]? = some o → XU o.op = false) :
    Inv P B N ops F vs ι0 w0 S e' ι a w := by
  have hc : Gat F ops.size (F 0).2.clk e' = Gat F ops.size (F 0).2.clk e := by
    unfold Gat
    congr 1
    funext b
    exact (W.con_move b e' h1 h2 h3).symm
  refine { I with le := h2, ev := fun k o ho he => ?_, rel := by rw [hc]; exact I.rel, stp := by rw [hc]; exact I.stp }
  rw [I.ev k o ho he]
  constructor
  · intro h; omega
  · intro h
    rcases Nat.lt_or_ge k e with hk | hk
    · exact hk
    · rw [h3 k o hk h ho] at he; cases he
theorem Inv.atEff (W : Walk P N call ops F vs) (I : Inv P B N ops F vs ι0 w0 S e ι a w) {j : Nat} {oj : Oper} (hj : ops[j]? = some oj) (hS : S j = false)
    (hr : ∀ e ∈ oj.after, Region.binds .any e = true → S e.on = true) (he : XU oj.op = true) : Inv P B N ops F vs ι0 w0 S j ι a w := by
  have hlt : j < ops.size := (Array.getElem?_eq_some_iff.1 hj).1
  have hej : e ≤ j := by
    rcases Nat.lt_or_ge j e with h | h
    · have := (I.ev j oj hj he).2 h
      rw [hS] at this; cases this
    · exact h
  refine I.move W hej (by omega) fun k o h1 h2 ho => ?_
  cases hq : XU o.op with
  | false => rfl
  | true =>
    exfalso
    have hb : bit (WO ops.toList []) k j = true := by
      rcases Classical.em (Vg (WO ops.toList []) k j = true) with h | h
      · exact (W.ord.eff k j o oj ho hj (by omega) h hq he).elim
      · rcases QK h with h | h
        · exact h
        · have := W.ord.lt h; omega
    have hk := (W.ord.pred I.dn j (fun o' ho' => by rw [hj] at ho'; cases ho'; exact hr) hb).1
    have := (I.ev k o ho hq).1 hk
    omega
theorem Inv.relLow (W : Walk P N call ops F vs) {j : Nat} (I : Inv P B N ops F vs ι0 w0 S j ι a w) : Rel P B (low (F j).2.n ι) (F j).2 w := by
  have hcl := (W.ok j I.le).cl
  have hcon : ∀ b, b < (F j).2.n → (Gat F ops.size (F 0).2.clk j).f b = (F j).2.f b := fun b hb => Qv hb
  refine ⟨fun b L h => ?_, fun b L h => ⟨(Wq.1 h).1, (I.rel.lt b L (Wq.1 h).2).2⟩, fun b c L M h1 h2 hne ho ha => ?_, I.rel.base, hcl.ver, I.rel.glob⟩
  · obtain ⟨hb, h⟩ := Wq.1 h
    have := I.rel.blk b L h
    rw [hcon b hb] at this
    exact this.lowCl hcl
  · obtain ⟨hb, h1⟩ := Wq.1 h1
    obtain ⟨hc, h2⟩ := Wq.1 h2
    exact I.rel.inj b c L M h1 h2 hne (by rw [hcon b hb]; exact ho) (by rw [hcon c hc]; exact ha)
theorem Inv.eff (W : Walk P N call ops F vs) {j : Nat} (I : Inv P B N ops F vs ι0 w0 S j ι a w) {oj : Oper} (hj : ops[j]? = some oj) (hS : S j = false)
    (hr : ∀ e ∈ oj.after, Region.binds .any e = true → S e.on = true) {ι1 : Emb} {v' : Value} {w' : World} (hv : RV ι1 (vs j) v') (r : Rel P B ι1 (F (j + 1)).2 w') (s : Stp (low (F j).2.n ι) (F j).2 w ι1 (F (j + 1)).2 w')
    (hd : UY N oj.dst = true) : ∃ ι', Inv P B N ops F vs ι0 w0 (add S j) (j + 1) ι' (a.put oj.dst v') w' := by
  have hlt : j < ops.size := (Array.getElem?_eq_some_iff.1 hj).1
  have hnj : (F j).2.n ≤ (F (j + 1)).2.n := (W.vo j hlt).n
  have hn0 : (F 0).2.n ≤ (F j).2.n := W.n_mono (by omega) (by omega)
  have hnz : (F (j + 1)).2.n ≤ (F ops.size).2.n := W.n_mono (by omega) (Nat.le_refl _)
  have hroom : ∀ b, (F j).2.n ≤ b → b < (F (j + 1)).2.n → ι b = none := fun b h1 h2 => I.room W hlt hS h1 h2
  let ι' : Emb := fun b => if (F j).2.n ≤ b ∧ b < (F (j + 1)).2.n then ι1 b else ι b
  have hin : ∀ b, (F j).2.n ≤ b → b < (F (j + 1)).2.n → ι' b = ι1 b := fun b h1 h2 => by simp [ι', h1, h2]
  have hlo : ∀ b, b < (F j).2.n → ι' b = ι b := fun b h => by simp [ι', Nat.not_le.2 h]
  have hhi : ∀ b, (F (j + 1)).2.n ≤ b → ι' b = ι b := fun b h => by simp [ι', Nat.not_lt.2 h]
  have hι1lo : ∀ b, b < (F j).2.n → ι1 b = ι b := fun b h => by rw [s.ext b h]; simp [low, h]
  have hup : ∀ b L, ι b = some L → ι' b = some L := by
    intro b L h
    by_cases h1 : (F j).2.n ≤ b
    · by_cases h2 : b < (F (j + 1)).2.n
      · rw [hroom b h1 h2] at h; cases h
      · rw [hhi b (Nat.le_of_not_lt h2)]; exact h
    · rw [hlo b (Nat.lt_of_not_le h1)]; exact h
  have hup1 : ∀ b L, ι1 b = some L → ι' b = some L := by
    intro b L h
    have hb := (r.lt b L h).1
    by_cases h1 : (F j).2.n ≤ b
    · rw [hin b h1 hb]; exact h
    · rw [hlo b (Nat.lt_of_not_le h1), ← hι1lo b (Nat.lt_of_not_le h1)]; exact h
  have hdown : ∀ b L, b < (F (j + 1)).2.n → ι' b = some L → ι1 b = some L := by
    intro b L h1 h
    by_cases h2 : (F j).2.n ≤ b
    · rw [← hin b h2 h1]; exact h
    · rw [hι1lo b (Nat.lt_of_not_le h2), ← hlo b (Nat.lt_of_not_le h2)]; exact h
  let G := Gat F ops.size (F 0).2.clk j
  let G' := Gat F ops.size (F 0).2.clk (j + 1)
  have hcon : ∀ b, b < (F j).2.n → G.f b = (F j).2.f b := fun b hb => Qv hb
  have hcon' : ∀ b, b < (F (j + 1)).2.n → G'.f b = (F (j + 1)).2.f b := fun b hb => Qv hb
  have hsame : ∀ b, (F (j + 1)).2.n ≤ b → G'.f b = G.f b := fun b hb => (con_skip hlt (by omega)).symm
  have hfar : ∀ b c L M, low (F j).2.n ι b = some L → XW ((F j).2.f b) = true → (F (j + 1)).2.n ≤ c → ι c = some M → Xf (G.f c) = true → L.cb ≠ M.cb := by
    intro b c L M h1 h2 h3 h4 h5
    obtain ⟨hb, h1⟩ := Wq.1 h1
    exact I.rel.inj b c L M h1 h4 (by omega) (by rw [hcon b hb]; exact h2) h5
  have hcross : ∀ b c L M, b < (F (j + 1)).2.n → (F (j + 1)).2.n ≤ c → ι' b = some L → ι' c = some M → (XW (G'.f b) = true ∧ Xf (G'.f c) = true) ∨ (Xf (G'.f b) = true ∧ XW (G'.f c) = true) → L.cb ≠ M.cb := by
    intro b c L M hb hc h1 h2 ho
    have h2 : ι c = some M := by rw [← hhi c hc]; exact h2
    have hac : Xf (G.f c) = true := by
      rw [← hsame c hc]
      rcases ho with h | h
      · exact h.2
      · exact W7 h.2
    have h1' := hdown b L hb h1
    by_cases hbn : b < (F j).2.n
    · have h1'' : ι b = some L := by rw [← hι1lo b hbn]; exact h1'
      rcases ho with ⟨h, _⟩ | ⟨h, h'⟩
      · rw [hcon' b hb] at h
        exact hfar b c L M (Wq.2 ⟨hbn, h1''⟩) (s.own b L hbn (Wq.2 ⟨hbn, h1''⟩) h) hc h2 hac
      · rw [hcon' b hb] at h
        have := s.vo.live b hbn h
        exact fun he => I.rel.inj c b M L h2 h1'' (by omega) (by rw [← hsame c hc]; exact h') (by rw [hcon b hbn]; exact this) he.symm
    · rcases s.new b L (Nat.le_of_not_lt hbn) h1' with h | ⟨b0, L0, hb0, hi, ho0, he⟩
      · have := (I.rel.lt c M h2).2; omega
      · rw [← he]; exact hfar b0 c L0 M hi ho0 hc h2 hac
  refine ⟨ι', I.next_dn hj hr, fun k hk => ?_, by omega, fun k o ho he => ?_, fun b L h => ?_, ⟨fun b L h => ?_, fun b L h => ?_, fun b c L M h1 h2 hne ho ha => ?_, ?_, fun b => Nat.lt_succ_self _, r.glob⟩,
    ⟨fun b hb => ?_, ?_, Nat.le_trans I.stp.wn s.wn, s.os.trans I.stp.os, s.tape.trans I.stp.tape, s.output.trans I.stp.output, fun c hc h => ?_, fun b L hb h => ?_, fun b L hb hl ho => ?_, ⟨?_, Nat.le_succ _, fun b hb => .inr (Nat.le_refl _), fun b hb h => ?_, [List.range (F 0).2.n], by show 1 = (F 0).2.clk + 1 - (F 0).2.clk; omega, rfl, fun b hb h => absurd (List.mem_range.2 hb) (h _ (by simp))⟩⟩, ?_,
    (I.tmps W hj hS hr hup (hv.mono hup1) hd).1, (I.tmps W hj hS hr hup (hv.mono hup1) hd).2, ?_⟩
  · by_cases hkj : k = j
    · omega
    · exact I.lt k (by simpa [add, hkj] using hk)
  · by_cases hkj : k = j
    · subst hkj; simp [add]
    · have := I.ev k o ho he
      simp only [add, show (k == j) = false by simpa using hkj, Bool.false_or]
      rw [this]
      omega
  · by_cases h1 : (F j).2.n ≤ b ∧ b < (F (j + 1)).2.n
    · exact .inr ⟨j, by simp [add], h1.1, h1.2⟩
    · have h : ι b = some L := by simpa [ι', h1] using h
      rcases I.dom b L h with h | ⟨k, hk, h⟩
      · exact .inl h
      · exact .inr ⟨k, by simp [add, hk], h⟩
  · by_cases hb : b < (F (j + 1)).2.n
    · have h2 := r.blk b L (hdown b L hb h)
      show RB P B ι' w' L (G'.f b)
      rw [hcon' b hb]
      exact h2.mono hup1
    · have hb := Nat.le_of_not_lt hb
      have h2 : ι b = some L := by rw [← hhi b hb]; exact h
      show RB P B ι' w' L (G'.f b)
      rw [hsame b hb]
      have h3 := I.rel.blk b L h2
      by_cases hal : Xf (G.f b) = true
      · refine RB.mono hup (RB.keep h3 (s.fr L.cb (I.rel.lt b L h2).2 fun b0 L0 h4 h5 => hfar b0 b L0 L h4 h5 hb h2 hal))
      · cases hq : G.f b with
        | dead => trivial
        | _ => simp [hq, Xf] at hal
  · by_cases hb : b < (F (j + 1)).2.n
    · have := r.lt b L (hdown b L hb h)
      exact ⟨Nat.lt_of_lt_of_le hb hnz, this.2⟩
    · have h2 : ι b = some L := by rw [← hhi b (Nat.le_of_not_lt hb)]; exact h
      have := I.rel.lt b L h2
      exact ⟨this.1, Nat.lt_of_lt_of_le this.2 s.wn⟩
  · change XW (G'.f b) = true at ho
    change Xf (G'.f c) = true at ha
    by_cases hb : b < (F (j + 1)).2.n
    · by_cases hc : c < (F (j + 1)).2.n
      · exact r.inj b c L M (hdown b L hb h1) (hdown c M hc h2) hne (by rw [← hcon' b hb]; exact ho) (by rw [← hcon' c hc]; exact ha)
      · exact hcross b c L M hb (Nat.le_of_not_lt hc) h1 h2 (.inl ⟨ho, ha⟩)
    · by_cases hc : c < (F (j + 1)).2.n
      · exact fun he => hcross c b M L hc (Nat.le_of_not_lt hb) h2 h1 (.inr ⟨ha, ho⟩) he.symm
      · have hb := Nat.le_of_not_lt hb
        have hc := Nat.le_of_not_lt hc
        exact I.rel.inj b c L M (by rw [← hhi b hb]; exact h1) (by rw [← hhi c hc]; exact h2) hne (by change XW (G.f b) = true; rw [← hsame b hb]; exact ho) (by change Xf (G.f c) = true; rw [← hsame c hc]; exact ha)
  · exact Nat.le_trans I.rel.base s.wn
  · rw [hlo b (by omega)]; exact I.stp.ext b hb
  · exact I.stp.hn
  · rw [s.fr c (Nat.lt_of_lt_of_le hc I.stp.wn) ?_, I.stp.fr c hc h]
    intro b L hb ho
    obtain ⟨hbn, hb⟩ := Wq.1 hb
    by_cases hb0 : b < (F 0).2.n
    · have h0 : ι0 b = some L := by rw [← I.stp.ext b hb0]; exact hb
      exact h b L h0 (I.stp.own b L hb0 h0 (by change XW (G.f b) = true; rw [hcon b hbn]; exact ho))
    · rcases I.stp.new b L (Nat.le_of_not_lt hb0) hb with h1 | ⟨b0, L0, hb1, hi, ho0, he⟩
      · omega
      · rw [← he]; exact h b0 L0 hi ho0
  · have fromOld : ι b = some L → w0.heap.size ≤ L.cb ∨ ∃ b0 L0, b0 < (F 0).2.n ∧ ι0 b0 = some L0 ∧ XW ((F 0).2.f b0) = true ∧ L0.cb = L.cb := fun h => I.stp.new b L hb h
    by_cases h1 : (F j).2.n ≤ b ∧ b < (F (j + 1)).2.n
    · have h2 : ι1 b = some L := by rw [← hin b h1.1 h1.2]; exact h
      rcases s.new b L h1.1 h2 with h3 | ⟨b1, L1, hb1, hi, ho1, he⟩
      · exact .inl (Nat.le_trans I.stp.wn h3)
      · obtain ⟨hb1n, hi⟩ := Wq.1 hi
        by_cases hb0 : b1 < (F 0).2.n
        · have h0 : ι0 b1 = some L1 := by rw [← I.stp.ext b1 hb0]; exact hi
          exact .inr ⟨b1, L1, hb0, h0, I.stp.own b1 L1 hb0 h0 (by change XW (G.f b1) = true; rw [hcon b1 hb1n]; exact ho1), he⟩
        · rcases I.stp.new b1 L1 (Nat.le_of_not_lt hb0) hi with h4 | ⟨b0, L0, g1, g2, g3, g4⟩
          · exact .inl (by omega)
          · exact .inr ⟨b0, L0, g1, g2, g3, g4.trans he⟩
    · exact fromOld (by simpa [ι', h1] using h)
  · have hbn : b < (F j).2.n := by omega
    have hb1 : b < (F (j + 1)).2.n := by omega
    have hi : ι b = some L := by rw [I.stp.ext b hb]; exact hl
    have h2 : XW ((F (j + 1)).2.f b) = true := by rw [← hcon' b hb1]; exact ho
    have h3 := s.own b L hbn (Wq.2 ⟨hbn, hi⟩) h2
    exact I.stp.own b L hb hl (by change XW (G.f b) = true; rw [hcon b hbn]; exact h3)
  · exact I.stp.hn
  · refine (W.ok (j + 1) (by omega)).vo.live b hb ?_
    rw [← hcon' b (by omega)]
    exact h
  · cases oj.dst with
    | none => exact I.tN
    | some d => simpa [Act.put] using I.tN
  · cases oj.dst <;> exact I.df
theorem fresh_as {f : Nat → Value} (hf : UK f) {ι1 ι' : Emb} {m n : Nat} {v' : Value} (h : RV ι1 (f m) v') (he : ι' n = ι1 m) : RV ι' (f n) v' := by
  rcases hf with rfl | ⟨l, c, rfl⟩ | rfl
  · simp only at h ⊢
    cases h with
    | ptr h => exact .ptr (by rw [he]; exact h)
  · simp only at h ⊢
    cases h with
    | sle h hn => exact .sle (by rw [he]; exact h) hn
    | sli h hc hn ht => exact .sli (by rw [he]; exact h) hc hn ht
    | sl0 hk => exact .sl0 hk
  · simp only at h ⊢
    cases h with
    | map h => exact .map (by rw [he]; exact h)
theorem Inv.same (W : Walk P N call ops F vs) (I : Inv P B N ops F vs ι0 w0 S e ι a w) {j : Nat} {oj : Oper} (hj : ops[j]? = some oj) (hS : S j = false)
    (hr : ∀ e ∈ oj.after, Region.binds .any e = true → S e.on = true) (he : XU oj.op = false) {b : Nat} (hb : b < (F j).2.n)
    (hp : ∀ i oi, ops[i]? = some oi → XU oi.op = true → Vg (WO ops.toList []) i j = true → (F i).2.n ≤ b ∨ (F (i + 1)).2.ver b = (F i).2.ver b) : con F (ops.size - e) e b = (F j).2.f b := by
  have hlt : j < ops.size := (Array.getElem?_eq_some_iff.1 hj).1
  have hstill : ∀ i, i < ops.size → (∀ oi, ops[i]? = some oi → XU oi.op = true → Vg (WO ops.toList []) i j = true) → b < (F i).2.n → (F (i + 1)).2.f b = (F i).2.f b := by
    intro i hi hap hbi
    have ho : ops[i]? = some ops[i] := by simp [hi]
    cases hq : XU ops[i].op with
    | false => exact W.quiet_f ho hq hbi
    | true =>
      have hv : (F (i + 1)).2.ver b = (F i).2.ver b := by
        rcases hp i _ ho hq (hap _ ho hq) with h | h
        · omega
        · exact h
      rcases (W.vo i hi).old b hbi with h | h
      · exact h.2
      · have := (W.ok i (by omega)).cl.ver b
        omega
  rcases Nat.lt_or_ge j e with h | h
  · have hn : (F j).2.n ≤ (F e).2.n := W.n_mono (by omega) I.le
    rw [Qv (by omega)]
    refine W.chain hb e (by omega) I.le fun i h1 h2 => ?_
    have hie := I.le
    refine hstill i (by omega) (fun oi ho hq => ?_) (by have := W.n_mono (j := j) (k := i) h1 (by omega); omega)
    have hij : i ≠ j := by rintro rfl; rw [hj] at ho; cases ho; rw [he] at hq; cases hq
    have hSi := (I.ev i oi ho hq).2 h2
    rcases Classical.em (Vg (WO ops.toList []) i j = true) with h3 | h3
    · exact h3
    · exfalso
      rcases QK h3 with h3 | h3
      · have := W.ord.lt h3; omega
      · have := (W.ord.pred I.dn i (fun o' ho' => by rw [ho] at ho'; cases ho'; exact I.dn i oi ho hSi) h3).1
        rw [hS] at this; cases this
  · refine W.ahead (by omega) hb (j - e) e (by omega) fun i h1 h2 hbi => ?_
    refine hstill i (by omega) (fun oi ho hq => ?_) hbi
    rcases Classical.em (Vg (WO ops.toList []) i j = true) with h3 | h3
    · exact h3
    · exfalso
      rcases QK h3 with h3 | h3
      · have h4 := (W.ord.pred I.dn j (fun o' ho' => by rw [hj] at ho'; cases ho'; exact hr) h3).1
        have := (I.ev i oi ho hq).1 h4
        omega
      · have := W.ord.lt h3; omega
theorem Inv.lazy (W : Walk P N call ops F vs) (I : Inv P B N ops F vs ι0 w0 S e ι a w) {j : Nat} {oj : Oper} (hj : ops[j]? = some oj) (hS : S j = false)
    (hr : ∀ e ∈ oj.after, Region.binds .any e = true → S e.on = true) (he : XU oj.op = false) (hn : (F (j + 1)).2.n = (F j).2.n) {ι1 : Emb} {v' : Value} {w' : World} (hv : RV ι1 (vs j) v')
    (r : Rel P B ι1 (Gat F ops.size (F 0).2.clk e) w') (s : Stp ι (Gat F ops.size (F 0).2.clk e) w ι1 (Gat F ops.size (F 0).2.clk e) w')
    (hd : UY N oj.dst = true) : ∃ ι', Inv P B N ops F vs ι0 w0 (add S j) e ι' (a.put oj.dst v') w' := by
  have hι : ι1 = ι := by
    funext b
    by_cases hb : b < (F ops.size).2.n
    · exact s.ext b hb
    · cases h1 : ι1 b with
      | some L => exact absurd (r.lt b L h1).1 hb
      | none =>
        cases h2 : ι b with
        | some L => exact absurd (I.rel.lt b L h2).1 hb
        | none => rfl
  subst hι
  have hlt : j < ops.size := (Array.getElem?_eq_some_iff.1 hj).1
  refine ⟨ι1, I.next_dn hj hr, fun k hk => ?_, I.le, fun k o ho hek => ?_, fun b L h => ?_, r, I.stp.trans s, ?_,
    (I.tmps W hj hS hr (fun _ _ h => h) hv hd).1, (I.tmps W hj hS hr (fun _ _ h => h) hv hd).2, ?_⟩
  · by_cases hkj : k = j
    · omega
    · exact I.lt k (by simpa [add, hkj] using hk)
  · by_cases hkj : k = j
    · subst hkj; rw [hj] at ho; cases ho; rw [he] at hek; cases hek
    · simpa [add, hkj] using I.ev k o ho hek
  · rcases I.dom b L h with h | ⟨k, hk, h⟩
    · exact .inl h
    · exact .inr ⟨k, by simp [add, hk], h⟩
  · cases oj.dst with
    | none => exact I.tN
    | some d => simpa [Act.put] using I.tN
  · cases oj.dst <;> exact I.df
theorem Inv.make (W : Walk P N call ops F vs) (I : Inv P B N ops F vs ι0 w0 S e ι a w) {j : Nat} {oj : Oper} (hj : ops[j]? = some oj) (hS : S j = false)
    (hr : ∀ e ∈ oj.after, Region.binds .any e = true → S e.on = true) (he : XU oj.op = false) {k0 : Blk} {f : Nat → Value} (hf : UK f) (hH : (F (j + 1)).2 = (F j).2.push k0) (hvj : vs j = f (F j).2.n)
    (hk0 : con F (ops.size - e) e (F j).2.n = k0) {ι1 : Emb} {v' : Value} {w' : World} (hv : RV ι1 (f (F ops.size).2.n) v')
    (r : Rel P B ι1 ((Gat F ops.size (F 0).2.clk e).push k0) w') (s : Stp ι (Gat F ops.size (F 0).2.clk e) w ι1 ((Gat F ops.size (F 0).2.clk e).push k0) w')
    (hd : UY N oj.dst = true) : ∃ ι', Inv P B N ops F vs ι0 w0 (add S j) e ι' (a.put oj.dst v') w' := by
  have hlt : j < ops.size := (Array.getElem?_eq_some_iff.1 hj).1
  have hn : (F (j + 1)).2.n = (F j).2.n + 1 := by rw [hH]; rfl
  have hn0 : (F 0).2.n ≤ (F j).2.n := W.n_mono (by omega) (by omega)
  have hnz : (F (j + 1)).2.n ≤ (F ops.size).2.n := W.n_mono (by omega) (Nat.le_refl _)
  have hnone : ι (F j).2.n = none := I.room W hlt hS (Nat.le_refl _) (by omega)
  generalize hz : (F ops.size).2.n = z at *
  generalize hnjq : (F j).2.n = nj at *
  let G := Gat F ops.size (F 0).2.clk e
  have hGn : G.n = z := by simp [G, Gat, hz]
  have hclG : Cl G := W.clG I.le
  have hold : ∀ b, b < z → ι1 b = ι b := fun b hb => s.ext b (by change b < G.n; omega)
  have hιz : ∀ b L, ι b = some L → b < z := fun b L h => by have := (I.rel.lt b L h).1; change b < G.n at this; omega
  have hι1z : ∀ b L, ι1 b = some L → b < z + 1 := fun b L h => by
    have := (r.lt b L h).1
    simp only [AHeap.push_n] at this
    change b < G.n + 1 at this
    omega
  let ι' : Emb := fun b => if b = nj then ι1 z else ι b
  have hnew : ι' nj = ι1 z := by simp [ι']
  have hoth : ∀ b, b ≠ nj → ι' b = ι b := fun b h => by simp [ι', h]
  have hup : ∀ b L, ι b = some L → ι' b = some L := by
    intro b L h
    by_cases hb : b = nj
    · subst hb; rw [hnone] at h; cases h
    · rw [hoth b hb]; exact h
  have hup1 : ∀ b L, low z ι1 b = some L → ι' b = some L := by
    intro b L h
    obtain ⟨hb, h⟩ := Wq.1 h
    exact hup b L (by rw [← hold b hb]; exact h)
  have hGf : ∀ b, b < z → (G.push k0).f b = G.f b := fun b hb => AHeap.push_old _ _ (by omega)
  have hGz : (G.push k0).f z = k0 := by rw [← hGn]; exact AHeap.push_new G k0
  have hGnj : G.f nj = k0 := hk0
  have hAD : (∀ xs el rw, k0 = .cells xs el rw → ADs z xs) ∧ (∀ es, k0 = .map es → ∀ p, p ∈ es → AD z p.2) := by
    refine ⟨fun xs el rw hk => ?_, fun es hk => ?_⟩
    · have := hclG.cells nj xs el rw (by rw [hGnj, hk])
      rwa [hGn] at this
    · have := hclG.maps nj es (by rw [hGnj, hk])
      rwa [hGn] at this
  refine ⟨ι', I.next_dn hj hr, fun k hk => ?_, I.le, fun k o ho hek => ?_, fun b L h => ?_, ⟨fun b L h => ?_, fun b L h => ?_, fun b c L M h1 h2 hne ho ha => ?_, r.base, fun b => Nat.lt_succ_self _, r.glob⟩,
    ⟨fun b hb => ?_, I.stp.hn, Nat.le_trans I.stp.wn s.wn, s.os.trans I.stp.os, s.tape.trans I.stp.tape, s.output.trans I.stp.output, (I.stp.trans s).fr, fun b L hb h => ?_, I.stp.own, I.stp.vo⟩, ?_,
    (I.tmps W hj hS hr hup (v' := v') ?_ hd).1, (I.tmps W hj hS hr hup (v' := v') ?_ hd).2, ?_⟩
  · by_cases hkj : k = j
    · omega
    · exact I.lt k (by simpa [add, hkj] using hk)
  · by_cases hkj : k = j
    · subst hkj; rw [hj] at ho; cases ho; rw [he] at hek; cases hek
    · simpa [add, hkj] using I.ev k o ho hek
  · by_cases hb : b = nj
    · subst hb; exact .inr ⟨j, by simp [add], by omega, by omega⟩
    · rw [hoth b hb] at h
      rcases I.dom b L h with h | ⟨k, hk, h⟩
      · exact .inl h
      · exact .inr ⟨k, by simp [add, hk], h⟩
  · change RB P B ι' w' L (G.f b)
    by_cases hb : b = nj
    · subst hb
      rw [hnew] at h
      have := r.blk z L h
      rw [hGz] at this
      rw [hGnj]
      exact (this.low hAD.1 hAD.2).mono hup1
    · rw [hoth b hb] at h
      have hbz := hιz b L h
      have := r.blk b L (by rw [hold b hbz]; exact h)
      rw [hGf b hbz] at this
      have h3 := this.lowCl (H := G) hclG
      rw [hGn] at h3
      exact h3.mono hup1
  · change b < G.n ∧ _
    by_cases hb : b = nj
    · subst hb
      rw [hnew] at h
      exact ⟨by omega, (r.lt z L h).2⟩
    · rw [hoth b hb] at h
      have hbz := hιz b L h
      exact ⟨by omega, (r.lt b L (by rw [hold b hbz]; exact h)).2⟩
  · change XW (G.f b) = true at ho
    change Xf (G.f c) = true at ha
    by_cases hb : b = nj
    · have hc : c ≠ nj := by rintro rfl; exact hne hb
      subst hb
      rw [hnew] at h1
      rw [hoth c hc] at h2
      have hcz := hιz c M h2
      exact r.inj z c L M h1 (by rw [hold c hcz]; exact h2) (by omega) (by rw [hGz, ← hGnj]; exact ho) (by rw [hGf c hcz]; exact ha)
    · rw [hoth b hb] at h1
      have hbz := hιz b L h1
      by_cases hc : c = nj
      · subst hc
        rw [hnew] at h2
        exact r.inj b z L M (by rw [hold b hbz]; exact h1) h2 (by omega) (by rw [hGf b hbz]; exact ho) (by rw [hGz, ← hGnj]; exact ha)
      · rw [hoth c hc] at h2
        exact r.inj b c L M (by rw [hold b hbz]; exact h1) (by rw [hold c (hιz c M h2)]; exact h2) hne (by rw [hGf b hbz]; exact ho) (by rw [hGf c (hιz c M h2)]; exact ha)
  · rw [hoth b (by omega)]; exact I.stp.ext b hb
  · by_cases hbj : b = nj
    · subst hbj
      rw [hnew] at h
      exact (I.stp.trans s).new z L (by omega) h
    · rw [hoth b hbj] at h
      exact I.stp.new b L hb h
  · cases oj.dst with
    | none => exact I.tN
    | some d => simpa [Act.put] using I.tN
  · rw [hvj]; exact fresh_as hf hv hnew
  · rw [hvj]; exact fresh_as hf hv hnew
  · cases oj.dst <;> exact I.df
theorem Inv.op (W : Walk P N call ops F vs) (hc : Wo P call) (I : Inv P B N ops F vs ι0 w0 S e ι a w) {j : Nat} {oj : Oper} (hj : ops[j]? = some oj) (hS : S j = false)
    (hr : ∀ e ∈ oj.after, Region.binds .any e = true → S e.on = true) {Q : Exit → Act → World → Prop} {K : Act → World → Prop}
    (hK : ∀ e' ι' a' w', Inv P B N ops F vs ι0 w0 (add S j) e' ι' a' w' → K a' w') : wpOp P ops Q j K a w := by
  have hlt : j < ops.size := (Array.getElem?_eq_some_iff.1 hj).1
  have ok := W.ok j (by omega)
  have ht : RT ι N (clr (Eng.looks ops oj) (F j).1) a.tmps := by
    refine ⟨I.tN, fun t => ?_⟩
    rw [get_clr]
    split
    · exact I.looks W hj hS hr (by assumption)
    · exact .unk _
  have hat := ok.at_.clr (Eng.looks ops oj)
  cases he : XU oj.op with
  | true =>
    have I' := I.atEff W hj hS hr he
    refine QM hc hj (I'.relLow W) (T := clr (Eng.looks ops oj) (F j).1) ⟨ht.1, fun t => (ht.2 t).low (hat t)⟩ (fun _ => ⟨ok.cl, hat⟩) (W.tr.step j oj hj) ?_
    intro ι1 v' w' h1 h2 h3 h4
    obtain ⟨ι', J⟩ := I'.eff W hj hS hr h1 h2 h3 h4
    exact hK _ _ _ _ J
  | false =>
    have hpair := fun i oi (ho : ops[i]? = some oi) (hq : XU oi.op = true) (ha : Vg (WO ops.toList []) i j = true) => W.pair i j oi oj ho hj hq he ha
    have hsame : goes ops oj (clr (Eng.looks ops oj) (F j).1) ≠ some false → ∀ k, rdBlk P (Eng.ev (clr (Eng.looks ops oj) (F j).1)) oj.op = some k → (Gat F ops.size (F 0).2.clk e).f k = (F j).2.f k := by
      intro hg k hk
      have hkn : k < (F j).2.n := by
        have hbo : ∀ x, Yk (Eng.ev (clr (Eng.looks ops oj) (F j).1) x) = some k → k < (F j).2.n := by
          intro x hx
          have := hat.ev x
          generalize Eng.ev (clr (Eng.looks ops oj) (F j).1) x = q at hx this
          cases this <;> simp [Yk] at hx <;> omega
        cases hq : oj.op <;> simp only [hq, rdBlk] at hk <;> first
          | exact hbo _ hk
          | cases hk
          | (split at hk
             · split at hk
               · exact hbo _ hk
               · cases hk
             · cases hk)
      exact I.same W hj hS hr he hkn fun i oi ho hq ha => (hpair i oi ho hq ha).1 hg k hk
    rcases step_alike (G := Gat F ops.size (F 0).2.clk e) he hsame (W.tr.step j oj hj) with ⟨h1, h2⟩ | ⟨k0, f, hf, h1, h2, h3⟩
    · refine QM hc hj I.rel ht (fun h => by rw [he] at h; cases h) h2 ?_
      intro ι1 v' w' g1 g2 g3 g4
      obtain ⟨ι', J⟩ := I.lazy W hj hS hr he (by rw [h1]) g1 g2 g3 g4
      exact hK _ _ _ _ J
    · have hk0 : con F (ops.size - e) e (F j).2.n = k0 := by
        have hnew : (F (j + 1)).2.f (F j).2.n = k0 := by rw [h1]; exact AHeap.push_new _ _
        have hn : (F (j + 1)).2.n = (F j).2.n + 1 := by rw [h1]; rfl
        rcases Nat.lt_or_ge j e with h | h
        · have hne : (F (j + 1)).2.n ≤ (F e).2.n := W.n_mono (by omega) I.le
          rw [Qv (by omega), ← hnew]
          refine W.chain (by omega) e (by omega) I.le fun i g1 g2 => ?_
          have hie := I.le
          have hni : (F (j + 1)).2.n ≤ (F i).2.n := W.n_mono g1 (by omega)
          have ho : ops[i]? = some ops[i] := by simp [show i < ops.size by omega]
          cases hq : XU ops[i].op with
          | false => exact W.quiet_f ho hq (by omega)
          | true =>
            have hSi := (I.ev i _ ho hq).2 g2
            have hap : Vg (WO ops.toList []) i j = true := by
              rcases Classical.em (Vg (WO ops.toList []) i j = true) with h3 | h3
              · exact h3
              · exfalso
                rcases QK h3 with h3 | h3
                · have := W.ord.lt h3; omega
                · have := (W.ord.pred I.dn i (fun o' ho' => by rw [ho] at ho'; cases ho'; exact I.dn i _ ho hSi) h3).1
                  rw [hS] at this; cases this
            rcases (hpair i _ ho hq hap).2 with h4 | h4 | h4
            · omega
            · omega
            · rcases (W.vo i (by omega)).old (F j).2.n (by omega) with h5 | h5
              · exact h5.2
              · have := (W.ok i (by omega)).cl.ver (F j).2.n
                omega
        · rw [← hnew]
          have hskip : ∀ d e, e + d = j → con F (ops.size - e) e (F j).2.n = con F (ops.size - (j + 1)) (j + 1) (F j).2.n := by
            intro d
            induction d with
            | zero =>
              intro e h
              have : e = j := by omega
              subst this
              exact con_skip hlt (Nat.le_refl _)
            | succ d ih =>
              intro e h
              rw [con_skip (by omega) (W.n_mono (by omega) (by omega))]
              exact ih (e + 1) (by omega)
          rw [hskip (j - e) e (by omega)]
          exact Qv (by omega)
      refine QM hc hj I.rel ht (fun h => by rw [he] at h; cases h) h3 ?_
      intro ι1 v' w' g1 g2 g3 g4
      obtain ⟨ι', J⟩ := I.make W hj hS hr he hf h1 h2 hk0 g1 g2 g3 g4
      exact hK _ _ _ _ J
end Go.Proofs.YtmiinbhnfojnbaaDoor.Eng

namespace Go.Proofs.YtmiinbhnfojnbaaDoor.Eng
open Go
variable {P : Program} {B : Nat} {ι : Emb} {H : AHeap} {w : World}
def left (S : Nat → Bool) : Nat → Nat
  | 0 => 0
  | n + 1 => left S n + (if S n then 0 else 1)
theorem left_all {S : Nat → Bool} : ∀ {n : Nat}, left S n = 0 → ∀ k, k < n → S k = true
  | 0, _, k, hk => by omega
  | n + 1, h, k, hk => by
    unfold left at h
    by_cases hn : S n = true
    · rw [if_pos hn] at h
      by_cases hkn : k = n
      · subst hkn; exact hn
      · exact left_all (by omega) k (by omega)
    · rw [if_neg hn] at h; omega
theorem left_same {S S' : Nat → Bool} : ∀ {n : Nat}, (∀ k, k < n → S k = S' k) → left S n = left S' n
  | 0, _ => rfl
  | n + 1, h => by
    unfold left
    rw [left_same fun k hk => h k (by omega), h n (by omega)]
theorem left_add {S : Nat → Bool} {j : Nat} (hS : S j = false) : ∀ {n : Nat}, j < n → left (add S j) n + 1 = left S n
  | 0, h => by omega
  | n + 1, h => by
    unfold left
    by_cases hj : j = n
    · subst hj
      rw [left_same (S := add S j) (S' := S) fun k hk => by simp [add, show (k == j) = false by simp; omega]]
      simp [hS, add]
    · have := left_add hS (n := n) (by omega)
      simp only [add, show (n == j) = false by simp; omega, Bool.false_or] at this ⊢
      omega
theorem left_le {S : Nat → Bool} : ∀ n, left S n ≤ n
  | 0 => Nat.le_refl _
  | n + 1 => by
    unfold left
    have := left_le (S := S) n
    split <;> omega
theorem any_sound {N : Nat} {call : Yc} {ops : Array Oper} {F : Nat → Env × AHeap} {vs : Nat → Value} (W : Walk P N call ops F vs) (hc : Wo P call) {ι0 : Emb} {w0 : World} {Q : Exit → Act → World → Prop}
    (hQ : ∀ S e ι a w, (∀ k, k < ops.size → S k = true) → Inv P B N ops F vs ι0 w0 S e ι a w → Q .normal a w) :
    ∀ (fuel : Nat) (listed : Array Bool) (S : Nat → Bool) (e : Nat) (ι : Emb) (a : Act) (w : World), listed.size = ops.size → (∀ k, S k = listed.getD k false) → Inv P B N ops F vs ι0 w0 S e ι a w → left S ops.size ≤ fuel →
      wpAny P .any ops Q fuel listed a w := by
  have hdone : ∀ (listed : Array Bool) (S : Nat → Bool) (e : Nat) (ι : Emb) (a : Act) (w : World), listed.size = ops.size → (∀ k, S k = listed.getD k false) → Inv P B N ops F vs ι0 w0 S e ι a w → Region.ready .any ops listed = [] → Q .normal a w := by
    intro listed S e ι a w hsz hl I hr
    refine hQ S e ι a w ?_ I
    intro k
    induction k using Nat.strongRecOn with
    | _ k ih =>
      intro hk
      cases hS : S k with
      | true => rfl
      | false =>
        have : k ∈ Region.ready .any ops listed := by
          rw [mem_ready]
          refine ⟨?_, ops[k], by simp [hk], fun e he hb => ?_⟩
          · have := hl k
            rw [hS] at this
            simp [show k < listed.size by omega] at this ⊢
            exact this
          · have hlt := W.ord.back k _ (by simp [hk]) e he hb
            rw [← hl]
            exact ih e.on hlt (by omega)
        rw [hr] at this
        cases this
  intro fuel
  induction fuel with
  | zero =>
    intro listed S e ι a w hsz hl I hf
    have hall := left_all (Nat.le_zero.1 hf)
    have hr : Region.ready .any ops listed = [] := by
      apply List.eq_nil_iff_forall_not_mem.2
      intro j hj
      rw [mem_ready] at hj
      obtain ⟨h0, o, ho, _⟩ := hj
      have hlt : j < ops.size := (Array.getElem?_eq_some_iff.1 ho).1
      have := hall j hlt
      rw [hl] at this
      simp [show j < listed.size by omega] at this h0
      rw [this] at h0
      cases h0
    exact ⟨hr, hdone listed S e ι a w hsz hl I hr⟩
  | succ fuel ih =>
    intro listed S e ι a w hsz hl I hf
    refine ⟨hdone listed S e ι a w hsz hl I, fun j hj => ?_⟩
    rw [mem_ready] at hj
    obtain ⟨h0, o, ho, hr⟩ := hj
    have hlt : j < ops.size := (Array.getElem?_eq_some_iff.1 ho).1
    have hS : S j = false := by
      rw [hl]
      simp [show j < listed.size by omega] at h0 ⊢
      exact h0
    refine I.op W hc ho hS (fun e he hb => by rw [hl]; exact hr e he hb) fun e' ι' a' w' J => ?_
    refine ih _ (add S j) e' ι' a' w' (by simpa using hsz) (fun k => ?_) J ?_
    · by_cases hk : k = j
      · subst hk; simp [add, show k < listed.size by omega]
      · rw [getD_set_ne false (Ne.symm hk), ← hl]
        simp [add, hk]
    · have := left_add hS hlt
      omega
structure St (P : Program) (B : Nat) (N : Nat) (ι : Emb) (T : Env) (H : AHeap) (a : Act) (w : World) : Prop where
  rel : Rel P B ι H w
  tmps : RT ι N T a.tmps
  defers : a.defers = []
  cl : Cl H
  ad : AT H.n T
theorem St.ok {N : Nat} {T : Env} {a : Act} (s : St P B N ι T H a w) {ι' : Emb} {H' : AHeap} {a' : Act} {w' : World} {T' : Env} (r : Rel P B ι' H' w') (t : RT ι' N T' a'.tmps) (d : a'.defers = []) (o : OkT H T' H') : St P B N ι' T' H' a' w' :=
  ⟨r, t, d, o.cl, o.at_⟩
theorem walk_of {N : Nat} {call : Yc} (ha : XC call) {ops : Array Oper} {T T' : Env} {H' : AHeap} (hl : Cl H) (hat : AT H.n T) (h : QX P N call ops T H = some (T', H')) :
    ∃ F vs, F 0 = (T, H) ∧ F ops.size = (T', H') ∧ Walk P N call ops F vs := by
  obtain ⟨hd, tr, F, vs, f0, f1, f2, f3, t⟩ := draw_spec h
  have hok := t.ad ha (by rw [f0]; exact hl) (by rw [f0]; exact hat)
  refine ⟨F, vs, f0, f3, t, hok, fun k hk => ?_, drawOk_ord hd, fun i j oi oj hi hj hei hej hap => ?_⟩
  · have ho : ops[k]? = some ops[k] := by simp [hk]
    exact (step_ad ha (hok k (by omega)).cl ((hok k (by omega)).at_.clr _) (t.step k _ ho)).2.2
  · have hm : (i, j) ∈ clash ops := by
      unfold clash
      refine List.mem_flatMap.2 ⟨(oi, i), Gq hi, ?_⟩
      simp only [hei, if_true]
      exact List.mem_filterMap.2 ⟨(oj, j), Gq hj, by simp [hej, hap]⟩
    have hp := List.all_eq_true.1 f2 _ hm
    have hil : i < ops.size := (Array.getElem?_eq_some_iff.1 hi).1
    have hjl : j < ops.size := (Array.getElem?_eq_some_iff.1 hj).1
    unfold okPair at hp
    simp only [f1 i (by omega), f1 (i + 1) (by omega), f1 j (by omega), f1 (j + 1) (by omega), hj, Bool.and_eq_true, Bool.or_eq_true, decide_eq_true_eq, beq_iff_eq] at hp
    refine ⟨fun hg k hk => ?_, ?_⟩
    · have h1 := hp.1
      split at h1
      · rename_i h2; exact absurd h2 hg
      · rw [hk] at h1
        simpa using h1
    · rcases hp.2 with (h1 | h1) | h1
      · exact .inl h1
      · exact .inr (.inl h1)
      · exact .inr (.inr h1)
theorem draw_sound {N id : Nat} {call : Yc} (hc : Wo P call) (ha : XC call) (hm : P.follows .mixedOrders = true) {ops : Array Oper} {Q : Exit → Act → World → Prop} {T T' : Env} {H' : AHeap} {a : Act} (s : St P B N ι T H a w)
    (h : QX P N call ops T H = some (T', H')) (hQ : ∀ ι' a' w', St P B N ι' T' H' a' w' → Stp ι H w ι' H' w' → Q .normal a' w') : (Code.region id ops true).wp P Q a w := by
  obtain ⟨F, vs, f0, f1, W⟩ := walk_of ha s.cl s.ad h
  refine wp_region_any hm ?_
  have e0 : (F 0).1 = T := by rw [f0]
  have e1 : (F 0).2 = H := by rw [f0]
  let w1 : World := { w with drawn := w.drawn + 1 }
  have r1 : Rel P B ι H w1 := s.rel.congr rfl
  have s1 : Stp ι H w ι H w1 := ⟨fun _ _ => rfl, Nat.le_refl _, Nat.le_refl _, rfl, rfl, rfl, fun _ _ _ => rfl, fun b L hb h => absurd (s.rel.dom b L h) (by omega), fun _ _ _ _ h => h, VO.refl _⟩
  have hcon : ∀ b, b < H.n → con F ops.size 0 b = H.f b := fun b hb => by rw [Qv (by rw [e1]; exact hb), e1]
  have hn : H.n ≤ (F ops.size).2.n := by have := W.n_mono (j := 0) (Nat.zero_le _) (Nat.le_refl _); rwa [e1] at this
  have I0 : Inv P B N ops F vs ι w1 (fun _ => false) 0 ι a w1 := by
    refine ⟨fun k o ho h => by simp at h, fun k h => by simp at h, Nat.zero_le _, fun k o ho he => by simp, fun b L h => .inl (by rw [e1]; exact s.rel.dom b L h), ?_, ?_, s.tmps.1, fun k o t ho h => by simp at h, fun t _ => by rw [e0]; exact s.tmps.2 t, s.defers⟩
    · refine ⟨fun b L h => ?_, fun b L h => ⟨Nat.lt_of_lt_of_le (s.rel.dom b L h) hn, (r1.lt b L h).2⟩, fun b c L M h1 h2 hne ho hal => ?_, r1.base, fun b => Nat.lt_succ_self _, r1.glob⟩
      · change RB P B ι w1 L (con F ops.size 0 b)
        rw [hcon b (s.rel.dom b L h)]
        exact r1.blk b L h
      · change XW (con F ops.size 0 b) = true at ho
        change Xf (con F ops.size 0 c) = true at hal
        rw [hcon b (s.rel.dom b L h1)] at ho
        rw [hcon c (s.rel.dom c M h2)] at hal
        exact r1.inj b c L M h1 h2 hne ho hal
    · rw [e1]
      refine ⟨fun _ _ => rfl, hn, Nat.le_refl _, rfl, rfl, rfl, fun _ _ _ => rfl, fun b L hb h => absurd (s.rel.dom b L h) (by omega), fun b L hb _ ho => ?_, hn, Nat.le_succ _, fun b _ => .inr (Nat.le_refl _), fun b hb h => ?_, [List.range (F 0).2.n], by show 1 = H.clk + 1 - H.clk; omega, congrArg (fun x => List.range (F 0).2.n :: x) (congrArg AHeap.log e1), fun b hb h => absurd (show b ∈ List.range (F 0).2.n from List.mem_range.2 (by rw [e1]; exact hb)) (h (List.range (F 0).2.n) (by simp))⟩
      · change XW (con F ops.size 0 b) = true at ho
        rwa [hcon b hb] at ho
      · change Xf (con F ops.size 0 b) = true at h
        rwa [hcon b hb] at h
  refine any_sound W hc (ι0 := ι) (w0 := w1) ?_ ops.size (Array.replicate ops.size false) (fun _ => false) 0 ι a w1 (by simp) (fun k => by simp [Array.getElem?_replicate]; split <;> rfl) I0 (left_le _)
  intro S e ι' a' w' hall I
  have I2 := I.move W (e' := ops.size) I.le (Nat.le_refl _) fun k o h1 h2 ho => by
    cases hq : XU o.op with
    | false => rfl
    | true =>
      have := (I.ev k o ho hq).1 (hall k h2)
      omega
  have okz := W.ok ops.size (Nat.le_refl _)
  rw [f1, e1] at okz
  have hG : ∀ b, (Gat F ops.size (F 0).2.clk ops.size).f b = H'.f b := fun b => by
    change con F (ops.size - ops.size) ops.size b = _
    rw [Nat.sub_self]
    change (F ops.size).2.f b = _
    rw [f1]
  have hGn : (Gat F ops.size (F 0).2.clk ops.size).n = H'.n := by change (F ops.size).2.n = _; rw [f1]
  have rel' : Rel P B ι' H' w' := by
    refine ⟨fun b L h => ?_, fun b L h => ?_, fun b c L M h1 h2 hne ho hal => ?_, I2.rel.base, okz.cl.ver, I2.rel.glob⟩
    · rw [← hG b]; exact I2.rel.blk b L h
    · rw [← hGn]; exact I2.rel.lt b L h
    · exact I2.rel.inj b c L M h1 h2 hne (by rw [hG]; exact ho) (by rw [hG]; exact hal)
  have st' : Stp ι H w1 ι' H' w' := by
    have st := I2.stp
    rw [e1] at st
    refine ⟨st.ext, okz.vo.n, st.wn, st.os, st.tape, st.output, st.fr, st.new, fun b L hb hl ho => ?_, okz.vo⟩
    exact st.own b L hb hl (by rw [← e1, hG]; exact ho)
  refine hQ ι' a' w' ⟨rel', ⟨I2.tN, fun t => ?_⟩, I2.df, okz.cl, okz.at_⟩ (s1.trans st')
  rcases W.tr.last t ops.size (Nat.le_refl _) with ⟨k, o, h1, h2, h3, h4, h5⟩ | ⟨h1, h2⟩
  · rw [f1] at h5
    rw [h5]
    exact I2.tw k o t h2 (hall k h1) h3 fun k' o' ho' hk' hlt => h4 k' o' hlt (I2.lt k' hk') ho'
  · rw [f1] at h2
    rw [h2]
    exact I2.t0 t fun k o ho hk => h1 k o (I2.lt k hk) ho
theorem St.next {N : Nat} {T : Env} {a : Act} (s : St P B N ι T H a w) {ι' : Emb} {H' : AHeap} {w' : World} {v v' : Value} {dst : Option Nat} (hv : RV ι' v v') (hr : Rel P B ι' H' w') (hs : Stp ι H w ι' H' w')
    (hd : UY N dst = true) (ho : OkV H H' v) : St P B N ι' (put T dst v) H' (a.put dst v') w' :=
  ⟨hr, (s.tmps.mono (hs.up s.rel.dom)).put hd hv, by cases dst <;> exact s.defers, ho.1, (ho.next s.ad dst).at_⟩
theorem ops_sound {N : Nat} {call : Yc} (hc : Wo P call) (hca : XC call) {ops : Array Oper} {Q : Exit → Act → World → Prop} {T' : Env} {H' : AHeap} : ∀ (k : Nat) (l : List Nat) {ι : Emb} {T : Env} {H : AHeap} {a : Act} {w : World},
    l = List.range' k (ops.size - k) → St P B N ι T H a w → ZS P N call ops (ops.toList.drop k) T H = some (T', H') →
    (∀ ι' a' w', St P B N ι' T' H' a' w' → Stp ι H w ι' H' w' → Q .normal a' w') → wpOps P ops Q l a w := by
  intro k l
  induction l generalizing k with
  | nil =>
    intro ι T H a w hl s h hQ
    have hk : ops.toList.drop k = [] := by
      have := congrArg List.length hl
      simp at this
      apply List.drop_eq_nil_of_le
      simp
      omega
    rw [hk] at h
    simp [ZS] at h
    obtain ⟨rfl, rfl⟩ := h
    exact hQ ι a w s (Stp.refl _ _ _ s.rel.dom)
  | cons i l ih =>
    intro ι T H a w hl s h hQ
    have hlt : k < ops.size := by
      have := congrArg List.length hl
      simp at this
      omega
    have hsp : List.range' k (ops.size - k) = k :: List.range' (k + 1) (ops.size - (k + 1)) := by
      rw [show ops.size - k = (ops.size - (k + 1)) + 1 by omega, List.range'_succ]
    rw [hsp] at hl
    injection hl with hi hl
    subst hi
    have hd : ops.toList.drop i = ops[i] :: ops.toList.drop (i + 1) := by
      rw [List.drop_eq_getElem_cons (by simpa using hlt)]
      simp
    rw [hd] at h
    simp only [ZS, Option.bind_eq_some_iff] at h
    obtain ⟨⟨v, H1⟩, h1, h2⟩ := h
    rw [wpOps_cons]
    refine QM hc (o := ops[i]) (by simp [hlt]) s.rel s.tmps (fun _ => ⟨s.cl, s.ad⟩) h1 ?_
    intro ι' v' w' hv hr hs hdst
    exact ih (i + 1) hl (s.next hv hr hs hdst (step_ad hca s.cl s.ad h1)) h2 fun ι'' a'' w'' st s' => hQ ι'' a'' w'' st (hs.trans s')
def toExit : DExit → Exit
  | .normal => .normal
  | .exit id => .exit id
  | .ret => .ret
def Z3 (P : Program) (N : Nat) (c : Code) (piece : Env → AHeap → VC) : Prop :=
  ∀ (B : Nat) (ι : Emb) (T : Env) (H : AHeap) (a : Act) (w : World) (x : DExit) (T' : Env) (H' : AHeap) (Q : Exit → Act → World → Prop),
    St P B N ι T H a w → piece T H = some (x, T', H') → (∀ ι' a' w', St P B N ι' T' H' a' w' → Stp ι H w ι' H' w' → Q (toExit x) a' w') → c.wp P Q a w
theorem St.clr {N : Nat} {T : Env} {a : Act} (s : St P B N ι T H a w) (keep : List Nat) : St P B N ι (clr keep T) H a w := ⟨s.rel, s.tmps.clr keep, s.defers, s.cl, s.ad.clr keep⟩
theorem loop_sound {N : Nat} {c : Code} {body : Env → AHeap → VC} (hb : Z3 P N c body) (keep : List Nat) : ∀ (m : Nat) {B : Nat} {ι : Emb} {T : Env} {H : AHeap} {a : Act} {w : World} {x : DExit} {T' : Env} {H' : AHeap} {Q : Exit → Act → World → Prop},
    St P B N ι T H a w → WJ body keep m T H = some (x, T', H') → (∀ ι' a' w', St P B N ι' T' H' a' w' → Stp ι H w ι' H' w' → Q (toExit x) a' w') → Code.rounds P c Q m a w
  | 0, _, _, _, _, _, _, _, _, _, _, _, h, _ => by simp [WJ] at h
  | m + 1, B, ι, T, H, a, w, x, T', H', Q, s, h, hQ => by
    simp only [WJ, Option.bind_eq_some_iff] at h
    obtain ⟨⟨x1, T1, H1⟩, h1, h2⟩ := h
    rw [rounds_succ]
    refine hb _ _ _ _ _ _ _ _ _ _ (s.clr keep) h1 ?_
    intro ι' a' w' st hs
    cases x1 with
    | normal =>
      exact loop_sound hb keep m st h2 fun ι'' a'' w'' st' hs' => hQ ι'' a'' w'' st' (hs.trans hs')
    | exit id =>
      simp at h2
      obtain ⟨rfl, rfl, rfl⟩ := h2
      exact hQ ι' a' w' st hs
    | ret =>
      simp at h2
      obtain ⟨rfl, rfl, rfl⟩ := h2
      exact hQ ι' a' w' st hs
theorem VJ {N n : Nat} {call : Yc} (hc : Wo P call) (hca : XC call) (hm : P.follows .mixedOrders = true) : ∀ (c : DCode), Z3 P N (erase c) (Y5 P N call n c)
  | .skip => by
    intro B ι T H a w x T' H' Q s h hQ
    simp [Y5] at h
    obtain ⟨rfl, rfl, rfl⟩ := h
    exact wp_skip (hQ ι a w s (Stp.refl _ _ _ s.rel.dom))
  | .region id ops draw => by
    intro B ι T H a w x T' H' Q s h hQ
    simp only [Y5, Option.map_eq_some_iff] at h
    obtain ⟨⟨T1, H1⟩, h1, h2⟩ := h
    cases h2
    cases draw with
    | false =>
      refine wp_region ?_
      exact ops_sound hc hca 0 _ (by simp [List.range_eq_range']) s (by simpa using h1) hQ
    | true => exact draw_sound hc hca hm s (by simpa using h1) hQ
  | .seq p q => by
    intro B ι T H a w x T' H' Q s h hQ
    simp only [Y5, Option.bind_eq_some_iff] at h
    obtain ⟨⟨x1, T1, H1⟩, h1, h2⟩ := h
    refine wp_seq (VJ hc hca hm p _ _ _ _ _ _ _ _ _ _ s h1 ?_)
    intro ι' a' w' st hs
    cases x1 with
    | normal => exact VJ hc hca hm q _ _ _ _ _ _ _ _ _ _ st h2 fun ι'' a'' w'' st' hs' => hQ ι'' a'' w'' st' (hs.trans hs')
    | exit id =>
      simp at h2
      obtain ⟨rfl, rfl, rfl⟩ := h2
      exact hQ ι' a' w' st hs
    | ret =>
      simp at h2
      obtain ⟨rfl, rfl, rfl⟩ := h2
      exact hQ ι' a' w' st hs
  | .cond keep c p q => by
    intro B ι T H a w x T' H' Q s h hQ
    simp only [Y5] at h
    split at h
    · rename_i b hb
      have hr := s.tmps.ev c
      rw [hb] at hr
      have hc' : a.eval c = .bool b := by
        generalize hq : a.eval c = q' at hr
        cases hr
        rfl
      simp only [Option.map_eq_some_iff] at h
      obtain ⟨⟨x1, T1, H1⟩, h1, h2⟩ := h
      have key : ∀ ι' a' w', St P B N ι' T1 H1 a' w' → Stp ι H w ι' H1 w' → Q (toExit x1) a' w' := by
        intro ι' a' w' st hs
        cases x1 with
        | normal => cases h2; exact hQ ι' a' w' (st.clr keep) hs
        | exit id => cases h2; exact hQ ι' a' w' st hs
        | ret => cases h2; exact hQ ι' a' w' st hs
      cases b with
      | true => exact wp_cond_true hc' (VJ hc hca hm p _ _ _ _ _ _ _ _ _ _ s (by simpa using h1) key)
      | false => exact wp_cond_false hc' (VJ hc hca hm q _ _ _ _ _ _ _ _ _ _ s (by simpa using h1) key)
    · simp at h
  | .block keep id p => by
    intro B ι T H a w x T' H' Q s h hQ
    simp only [Y5, Option.map_eq_some_iff] at h
    obtain ⟨⟨x1, T1, H1⟩, h1, h2⟩ := h
    refine wp_block (VJ hc hca hm p _ _ _ _ _ _ _ _ _ _ s h1 ?_)
    intro ι' a' w' st hs
    cases x1 with
    | normal => cases h2; exact hQ ι' a' w' (st.clr keep) hs
    | exit j =>
      simp only at h2
      simp only [toExit, Exit.inBlock]
      by_cases hj : j = id
      · rw [if_pos hj] at h2 ⊢
        cases h2
        exact hQ ι' a' w' (st.clr keep) hs
      · rw [if_neg hj] at h2 ⊢
        cases h2
        exact hQ ι' a' w' st hs
    | ret => cases h2; exact hQ ι' a' w' st hs
  | .loop keep p => by
    intro B ι T H a w x T' H' Q s h hQ
    simp only [Y5] at h
    exact wp_loop_rounds n (loop_sound (VJ hc hca hm p) keep n s h hQ)
  | .exit id => by
    intro B ι T H a w x T' H' Q s h hQ
    simp [Y5] at h
    obtain ⟨rfl, rfl, rfl⟩ := h
    exact wp_exit (hQ ι a w s (Stp.refl _ _ _ s.rel.dom))
  | .ret keep => by
    intro B ι T H a w x T' H' Q s h hQ
    simp [Y5] at h
    obtain ⟨rfl, rfl, rfl⟩ := h
    exact wp_ret (hQ ι a w (s.clr keep) (Stp.refl _ _ _ s.rel.dom))
  | .bad c => by
    intro B ι T H a w x T' H' Q s h hQ
    simp [Y5] at h
def resSem (tmps : Array Value) : ResultVar → Sem Value
  | .tmp t => pure (tmps.getD t undef)
  | .cell a t => do loadVar t (← asAddr (tmps.getD a undef))
theorem Zx {N : Nat} {T : Env} {a : Act} (s : St P B N ι T H a w) : ∀ {rs : List ResultVar} {l : List Value}, Wt P H T rs = some l →
    ∃ l', RVs ι l l' ∧ (rs.mapM (resSem a.tmps)).run P w = .ok l' w
  | [], l, h => by simp [Wt] at h; subst h; exact ⟨[], .nil, rfl⟩
  | r :: rs, l, h => by
    simp only [Wt, Option.bind_eq_some_iff, Option.map_eq_some_iff] at h
    obtain ⟨v, hv, l1, hl1, rfl⟩ := h
    obtain ⟨l', h1, h2⟩ := Zx s hl1
    cases r with
    | tmp t =>
      simp [resVal] at hv
      subst hv
      exact ⟨_ :: l', .cons (s.tmps.2 t) h1, by simp [List.mapM_cons, h2, resSem]⟩
    | cell b t =>
      simp only [resVal] at hv
      obtain ⟨v', h3, h4⟩ := xload_sound s.rel (s.tmps.2 b) hv
      refine ⟨v' :: l', .cons h4 h1, ?_⟩
      have hp : ∃ ad, a.tmps.getD b undef = .pointer (some ad) := by
        have hr := s.tmps.2 b
        generalize a.tmps.getD b undef = q at hr h3
        unfold UH at hv
        split at hv
        · unfold ldN at hv
          split at hv
          · rename_i hg
            rw [hg] at hr
            cases hr
            exact ⟨_, rfl⟩
          · simp at hv
        · unfold ld1 at hv
          split at hv
          · rename_i hg
            rw [hg] at hr
            cases hr
            exact ⟨_, rfl⟩
          · simp at hv
        · simp at hv
      obtain ⟨ad, had⟩ := hp
      rw [had] at h3
      have h5 : (loadVar t ad).run P w = .ok v' w := by simpa [Instr.loadAt, Instr.sureAddr] using h3
      simp only [List.mapM_cons, resSem, Sem.run_bind, had, asAddr, Sem.run_pure, Result.andThen_ok, h5, h2]
theorem resultOf_sound {l l' : List Value} (h : RVs ι l l') : RV ι (XY l) (if h : l'.toArray.size = 1 then l'.toArray[0] else .tuple l'.toArray) := by
  cases h with
  | nil => exact Wc (n := 1) (by simp [gr, XY])
  | cons h1 t =>
    cases t with
    | nil => simpa [XY] using h1
    | cons h2 t =>
      have := (RVs.cons h1 (RVs.cons h2 t)).tup
      simpa [XY] using this
theorem args_sound {args args' : List Value} (h : RVs ι args args') (N : Nat) : RT ι N (Ur 0 args) (args'.toArray ++ Array.replicate (N - args'.toArray.size) undef) := by
  refine ⟨by simp; omega, fun t => ?_⟩
  rw [get_argEnv]
  split
  · rename_i ht
    have hlt : t < args.length := by omega
    obtain ⟨v', hv', hr⟩ := h.get (List.getElem?_eq_getElem hlt)
    have hlt' : t < args'.length := (List.getElem?_eq_some_iff.1 hv').1
    simp only [Nat.sub_zero]
    rw [List.getD_eq_getElem?_getD, List.getElem?_eq_getElem hlt]
    simp [Array.getElem?_append, hlt', hr]
    rw [List.getElem?_eq_getElem hlt'] at hv'
    cases hv'
    exact hr
  · exact .unk _
theorem QQ {hints : WE} {call : Yc} (hc : Wo P call) (hca : XC call) (hm : P.follows .mixedOrders = true) (n : Nat) : Wo P (Qk P hints call n) := by
  intro f args H v H' h hcl had B ι w args' r ha
  unfold Qk at h
  split at h
  · rename_i fn hf
    split at h
    · rename_i c hb
      simp only [Option.bind_eq_some_iff] at h
      obtain ⟨⟨x, T1, H1⟩, h1, h2⟩ := h
      refine calls_of_wp hf hb ?_
      have s : St P B fn.ntmps ι (Ur 0 args) H { tmps := args'.toArray ++ Array.replicate (fn.ntmps - args'.toArray.size) undef, defers := [] } w := ⟨r, args_sound ha _, rfl, hcl, AT.args had⟩
      have := VJ (n := n) hc hca hm (note c (hints f)).1 _ _ _ _ _ _ _ _ _ (bodyPost P fn fun e w' => ∃ v' ι', e = .returned v' ∧ RV ι' v v' ∧ Rel P B ι' H' w' ∧ Stp ι H w ι' H' w') s h1 ?_
      · rwa [VI] at this
      · intro ι' a' w' st hs
        have fin : ∀ l, Wt P H1 T1 fn.results.toList = some l → v = XY l → H' = H1 → a'.defers = [] ∧ ∃ u, (results fn a'.tmps).run P w' = .ok u w' ∧ ∃ v' ι', Ending.returned u = .returned v' ∧ RV ι' v v' ∧ Rel P B ι' H' w' ∧ Stp ι H w ι' H' w' := by
          intro l hl hv hH
          subst hv
          subst hH
          obtain ⟨l', h3, h4⟩ := Zx st hl
          refine ⟨st.defers, _, ?_, _, ι', rfl, resultOf_sound h3, st.rel, hs⟩
          have he : results fn a'.tmps = (do let vs ← fn.results.mapM (resSem a'.tmps); pure (if h : vs.size = 1 then vs[0] else .tuple vs)) := by
            unfold results
            congr 1
          rw [he, Array.mapM_eq_mapM_toList]
          simp only [Sem.run_bind, Sem.run_map]
          rw [h4]
          rfl
        cases x with
        | normal =>
          simp only [Option.map_eq_some_iff] at h2
          obtain ⟨l, hl, h2⟩ := h2
          cases h2
          exact fin l hl rfl rfl
        | exit id => simp at h2
        | ret =>
          simp only [Option.map_eq_some_iff] at h2
          obtain ⟨l, hl, h2⟩ := h2
          cases h2
          exact fin l hl rfl rfl
    · simp at h
  · simp at h
def PrimsOK (P : Program) (prims : ZO) : Prop := ∀ f p, prims f = some p →
  (XC fun _ args H => p args H) ∧ Wo P fun g args H => if g = f then p args H else none
theorem call_sound {prims : ZO} {hints : WE} (hp : PrimsOK P prims) (hm : P.follows .mixedOrders = true) : ∀ n, Wo P (UW P prims hints n)
  | 0 => by intro f args H v H' h; simp [UW] at h
  | n + 1 => by
    intro f args H v H' h hcl had B ι w args' r ha
    simp only [UW] at h
    split at h
    · rename_i p hpf
      exact (hp f p hpf).2 f args H v H' (by simpa using h) hcl had B ι w args' r ha
    · simp only [Option.map_eq_some_iff] at h
      obtain ⟨⟨v0, H0⟩, h1, h2⟩ := h
      refine (QQ (call_sound hp hm n) (call_ad (fun f p h => (hp f p h).1) n) hm n f args H v0 H0 h1 hcl had B ι w args' r ha).mono ?_
      rintro e w' ⟨v', ι', rfl, hv, hr, hs⟩
      unfold tidy at h2
      split at h2
      · rename_i hg
        simp only [Bool.and_eq_true] at hg
        cases h2
        obtain ⟨g1, g2, g3⟩ := tidy_sound hcl r hg.2 hg.1 hv hr hs
        exact ⟨v', ι, rfl, g1, g2, g3⟩
      · cases h2
        exact ⟨v', ι', rfl, hv, hr, hs⟩
end Go.Proofs.YtmiinbhnfojnbaaDoor.Eng

namespace Go.Proofs.YtmiinbhnfojnbaaDoor.Eng
open Go
abbrev K := DExit → Env → AHeap → Res
def Yb (x : Option Value) (H : AHeap) (k : Value → AHeap → Res) : Res := x.bind fun v => k v H
def Yp (x : Option (Value × AHeap)) (k : Value → AHeap → Res) : Res := x.bind fun r => k r.1 r.2
def Yr (x : Option AHeap) (k : Value → AHeap → Res) : Res := x.bind fun H => k undef H
def Va (call : Yc) (H0 : AHeap) (x : Option DNext) (k : Value → AHeap → Res) : Res :=
  match x with
  | some (.val v H) => k v H
  | some (.enter f args) => (call f args H0).bind fun r => k r.1 r.2
  | none => none
theorem bareK_eq {call : Yc} {H0 H : AHeap} {x : Option Value} {k : Value → AHeap → Res} : Va call H0 (bare x H) k = Yb x H k := by cases x <;> rfl
theorem bothK_eq {call : Yc} {H0 : AHeap} {x : Option (Value × AHeap)} {k : Value → AHeap → Res} : Va call H0 (both x) k = Yp x k := by cases x <;> rfl
theorem quietK_eq {call : Yc} {H0 : AHeap} {x : Option AHeap} {k : Value → AHeap → Res} : Va call H0 (quiet x) k = Yr x k := by cases x <;> rfl
def Ye (g : Value) (want : Bool) (op : (Value → AHeap → Res) → Res) (H : AHeap) (k : Value → AHeap → Res) : Res :=
  match g with
  | .bool b => if b == want then op k else k undef H
  | .tuple vs => if vs.size = 0 then k undef H else none
  | _ => none
def goesV (g : Value) (want : Bool) : Option Bool :=
  match g with
  | .bool b => some (b == want)
  | .tuple vs => if vs.size = 0 then some false else none
  | _ => none
def Yl (keep : List Nat) (k : K) : K := fun e T H => match e with | .normal => k .normal (clr keep T) H | .exit i => k (.exit i) T H | .ret => k .ret T H
def condJ (c : Value) (x y : K → Res) (keep : List Nat) (k : K) : Res :=
  match c with
  | .bool b => if b then x (Yl keep k) else y (Yl keep k)
  | _ => none
structure Comb where
  g : Value → Bool → ((Value → AHeap → Res) → Res) → AHeap → (Value → AHeap → Res) → Res
  c : Value → (K → Res) → (K → Res) → List Nat → K → Res
def std : Comb := ⟨Ye, condJ⟩
theorem std_g : std.g = Ye := rfl
theorem std_c : std.c = condJ := rfl
def blockK (body : K → Res) (keep : List Nat) (id : Nat) (k : K) : Res :=
  body fun e T H => match e with
    | .normal => k .normal (clr keep T) H
    | .exit j => if j = id then k .normal (clr keep T) H else k (.exit j) T H
    | .ret => k .ret T H
def Ys (f : Env → AHeap → Res) (k : K) : K := fun e T H => match e with | .normal => f T H | .exit i => k (.exit i) T H | .ret => k .ret T H
def Yh (call : Yc) (g : FuncId) (args : List Value) (H : AHeap) (k : Value → AHeap → Res) : Res := (call g args H).bind fun r => k r.1 r.2
def YQ (c a b : Value) (k : Value → Res) : Res := match c with | .bool c => k (if c then a else b) | _ => none
def Qr (P : Program) (call : Yc) (f : Value) (args : List Value) (H : AHeap) (k : Value → AHeap → Res) : Res :=
  match f with
  | .func (.func g) x c => match P.funcs[g]? with
    | some fn => if fn.name = "runtime.NumGoroutine" then none
      else if fn.body.isSome then Yh call g (x.toList ++ args ++ c.toList) H k
      else Yb (xext P fn (x.toList ++ args ++ c.toList) H) H k
    | none => none
  | _ => none
theorem callK_eq {P : Program} {call : Yc} {f : Value} {args : List Value} {H : AHeap} {k : Value → AHeap → Res} : Va call H (xcall P f args H) k = Qr P call f args H k := by
  cases f with
  | func fn x c =>
    cases fn with
    | func g =>
      unfold Qr xcall
      simp only
      cases h : P.funcs[g]? with
      | none => rfl
      | some fn =>
        simp only
        split
        · rfl
        · split
          · rfl
          · exact bareK_eq
    | _ => rfl
  | _ => rfl
def dOpK (P : Program) (call : Yc) (ρ : Operand → Value) (o : Op) (H : AHeap) (k : Value → AHeap → Res) : Res :=
  match o with
  | .move x | .assign x => k (ρ x) H
  | .pick c a b => YQ (ρ c) (ρ a) (ρ b) fun v => k v H
  | .alloc t => Yp (xalloc P t H) k
  | .box t x => Yp (XT t (ρ x) H) k
  | .build t parts => Yb (xbuild P t (parts.toList.map fun p => (p.1, ρ p.2))) H k
  | .buildSlice t len parts => Yp (WT P t len (parts.toList.map fun p => (p.1, ρ p.2)) H) k
  | .load t a => Yb (UH P t (ρ a) H) H k
  | .store t a x => Yr (xstore P t (ρ a) (ρ x) H) k
  | .nilCheck x => Yb (Yz (ρ x)) H k
  | .binOp op t x y _ => Yb (Yf P op t x y (ρ x) (ρ y)) H k
  | .unOp op _ x => Yb (xun P op (ρ x)) H k
  | .convert src dst x => Yp (YP P src dst (ρ x) H) k
  | .makeFunc (.func f) x c => k (.func (.func f) (x.map ρ) (c.map ρ)) H
  | .makeSlice t l c => Yp (Vp P t (ρ l) (ρ c) H) k
  | .slice t x lo hi mx => Yb (X3 P t (ρ x) (lo.map ρ) (hi.map ρ) (mx.map ρ) H) H k
  | .fieldAddr t x f => Yb (U8 P t (ρ x) f) H k
  | .field t x f => Yb (xfield P t (ρ x) f) H k
  | .indexAddr t x i => Yb (U0 P t (ρ x) (ρ i)) H k
  | .index t x i => Yb (Uj P t (ρ x) (ρ i)) H k
  | .extract x i => Yb (Yn (ρ x) i) H k
  | .makeMap t r => Yp (WU P t (r.map ρ) H) k
  | .lookup t x ix ok => Yb (Xb P t (ρ x) (ρ ix) ok H) H k
  | .mapUpdate t m k' x => Yr (Y8 P t (ρ m) (ρ k') (ρ x) H) k
  | .insert t m k' x => Yr (Y8 P t (ρ m) (ρ k') (ρ x) H) k
  | .call c => match c.callee with
    | .builtin .append => match c.args.toList.map ρ with
      | [s, x] => Yp (Za P c.argTypes.toList s x H) k
      | _ => none
    | .builtin .len => match c.args.toList.map ρ with
      | [x] => Yb (xlenM P c.argTypes.toList x H) H k
      | _ => none
    | .builtin .copy => match c.args.toList.map ρ with
      | [d, s] => Yp (xcopy P c.argTypes.toList d s H) k
      | _ => none
    | .builtin .clear => match c.args.toList.map ρ with
      | [x] => Yp (xclear P c.argTypes.toList x H) k
      | _ => none
    | .value f => Qr P call (ρ f) (c.args.toList.map ρ) H k
    | .builtin b => Va call H (YN P b c.argTypes.toList (c.args.toList.map ρ) H) k
    | .invoke _ _ => none
  | o => Va call H (dOp P ρ o H) k
theorem dOpK_eq {P : Program} {call : Yc} {ρ : Operand → Value} {o : Op} {H : AHeap} {k : Value → AHeap → Res} : dOpK P call ρ o H k = Va call H (dOp P ρ o H) k := by
  unfold dOpK
  split <;> first | rfl | skip
  all_goals simp only [dOp]
  all_goals first
    | exact bareK_eq.symm
    | exact bothK_eq.symm
    | exact quietK_eq.symm
    | skip
  · unfold YQ; split <;> simp_all [Va]
  · rename_i c
    cases hc : c.callee with
    | value f => exact callK_eq.symm
    | invoke a b => rfl
    | builtin b =>
      simp only
      cases b
      all_goals first
        | rfl
        | (simp only; split
           · rename_i h; rw [h]; first | exact bothK_eq.symm | exact bareK_eq.symm
           · unfold YN; split <;> simp_all [Va])
theorem goes_V (ops : Array Oper) (o : Oper) (T : Env) {j d : Nat} {want : Bool} (hg : o.guard = some (j, want)) (hd : (ops[j]?).bind (·.dst) = some d) : goes ops o T = goesV (get T d) want := by
  unfold goes goesV
  simp only [hg, hd]
  cases get T d <;> rfl
def dStepK (M : Comb) (P : Program) (N : Nat) (call : Yc) (ops : Array Oper) (o : Oper) (T : Env) (H : AHeap) (k : Value → AHeap → Res) : Res :=
  if UY N o.dst then
    match o.guard with
    | none => dOpK P call (ev T) o.op H k
    | some (j, want) => match (ops[j]?).bind (·.dst) with
      | none => none
      | some d => M.g (get T d) want (fun k => dOpK P call (ev T) o.op H k) H k
  else none
theorem dStepK_eq {P : Program} {N : Nat} {call : Yc} {ops : Array Oper} {o : Oper} {T : Env} {H : AHeap} {k : Value → AHeap → Res} :
    dStepK std P N call ops o T H k = (UG P N call ops o T H).bind fun r => k r.1 r.2 := by
  unfold dStepK UG
  split
  · have hop : dOpK P call (ev T) o.op H k = (match dOp P (ev T) o.op H with | some (.val v H') => some (v, H') | some (.enter f args) => call f args H | none => none : Res).bind fun r => k r.1 r.2 := by
      rw [dOpK_eq]
      unfold Va
      cases dOp P (ev T) o.op H with
      | none => rfl
      | some x => cases x <;> rfl
    cases hg : o.guard with
    | none =>
      have : goes ops o T = some true := by unfold goes; simp [hg]
      rw [this]
      exact hop
    | some g =>
      obtain ⟨j, want⟩ := g
      simp only
      cases hd : (ops[j]?).bind (·.dst) with
      | none =>
        have : goes ops o T = none := by unfold goes; simp [hg, hd]
        rw [this]
        rfl
      | some d =>
        rw [goes_V ops o T hg hd]
        simp only [std_g, Ye, goesV, hop]
        cases get T d with
        | bool b => cases b <;> cases want <;> rfl
        | tuple vs => simp only; split <;> rfl
        | _ => rfl
  · rfl
def dOpsK (M : Comb) (P : Program) (N : Nat) (call : Yc) (ops : Array Oper) : List Oper → Env → AHeap → (Env → AHeap → Res) → Res
  | [], T, H, k => k T H
  | o :: rest, T, H, k => dStepK M P N call ops o T H fun v H' => dOpsK M P N call ops rest (put T o.dst v) H' k
theorem dOpsK_eq {P : Program} {N : Nat} {call : Yc} {ops : Array Oper} : ∀ (l : List Oper) {T : Env} {H : AHeap} {k : Env → AHeap → Res},
    dOpsK std P N call ops l T H k = (ZS P N call ops l T H).bind fun r => k r.1 r.2
  | [], _, _, _ => rfl
  | o :: rest, T, H, k => by
    rw [dOpsK, dStepK_eq, ZS]
    cases UG P N call ops o T H with
    | none => rfl
    | some r => simp only [Option.bind_some]; exact dOpsK_eq rest
def dTraceK (M : Comb) (P : Program) (N : Nat) (call : Yc) (ops : Array Oper) : List Oper → Env → AHeap → List (Env × AHeap) → (List (Env × AHeap) → Env → AHeap → Res) → Res
  | [], T, H, acc, k => k (acc ++ [(T, H)]) T H
  | o :: rest, T, H, acc, k => dStepK M P N call ops o (clr (looks ops o) T) H fun v H' => dTraceK M P N call ops rest (put T o.dst v) H' (acc ++ [(T, H)]) k
theorem dTraceK_eq {P : Program} {N : Nat} {call : Yc} {ops : Array Oper} : ∀ (l : List Oper) {T : Env} {H : AHeap} {acc : List (Env × AHeap)} {k : List (Env × AHeap) → Env → AHeap → Res},
    dTraceK std P N call ops l T H acc k = (UI P N call ops l T H).bind fun tr => (tr.getLast?).bind fun r => k (acc ++ tr) r.1 r.2
  | [], _, _, _, _ => rfl
  | o :: rest, T, H, acc, k => by
    rw [dTraceK, dStepK_eq, UI]
    cases UG P N call ops o (clr (looks ops o) T) H with
    | none => rfl
    | some r =>
      simp only [Option.bind_some]
      rw [dTraceK_eq rest]
      cases h : UI P N call ops rest (put T o.dst r.1) r.2 with
      | none => rfl
      | some tr =>
        simp only [Option.bind_some, Option.map_some]
        have hne : tr ≠ [] := by
          intro h0
          subst h0
          cases rest with
          | nil => simp [UI] at h
          | cons o' rest' =>
            simp only [UI, Option.bind_eq_some_iff, Option.map_eq_some_iff] at h
            obtain ⟨_, _, _, _, h⟩ := h
            cases h
        cases tr with
        | nil => exact absurd rfl hne
        | cons a tr => simp [List.append_assoc]
def okV (go : Option Bool) (rd : Option Nat) (a a' b b' : AHeap) : Bool :=
  (match go with
   | some false => true
   | _ => match rd with
     | some k => decide (a.n ≤ k) || a'.ver k == a.ver k
     | none => true) &&
  (decide (a.n ≤ b.n) || decide (b'.n ≤ b.n) || a'.ver b.n == a.ver b.n)
def goesQ (ops : Array Oper) (o : Oper) (T : Env) : Option Bool :=
  match o.guard with
  | none => some true
  | some (j, want) => match (ops[j]?).bind (·.dst) with
    | none => none
    | some d => goesV (get T d) want
theorem goesQ_eq (ops : Array Oper) (o : Oper) (T : Env) : goesQ ops o T = goes ops o T := by
  unfold goesQ goes
  cases o.guard with
  | none => rfl
  | some g =>
    obtain ⟨j, want⟩ := g
    simp only
    cases (ops[j]?).bind (·.dst) <;> rfl
def okPairK (P : Program) (ops : Array Oper) (tr : List (Env × AHeap)) (p : Nat × Nat) : Bool :=
  match tr[p.1]?, tr[p.1 + 1]?, tr[p.2]?, tr[p.2 + 1]?, ops[p.2]? with
  | some a, some a', some b, some b', some o => okV (goesQ ops o (clr (looks ops o) b.1)) (rdBlk P (ev (clr (looks ops o) b.1)) o.op) a.2 a'.2 b.2 b'.2
  | _, _, _, _, _ => false
theorem okPairK_eq (P : Program) (ops : Array Oper) (tr : List (Env × AHeap)) (p : Nat × Nat) : okPairK P ops tr p = okPair P ops tr p := by
  unfold okPairK okPair
  simp only [okV, goesQ_eq]
  cases tr[p.1]? <;> cases tr[p.1 + 1]? <;> cases tr[p.2]? <;> cases tr[p.2 + 1]? <;> cases ops[p.2]? <;> rfl
def Xy (b : Bool) (r : Res) : Res := if b then r else none
def dDrawK (M : Comb) (P : Program) (N : Nat) (call : Yc) (ops : Array Oper) (T : Env) (H : AHeap) (k : Env → AHeap → Res) : Res :=
  if drawOk ops then dTraceK M P N call ops ops.toList T H [] fun tr T H => Xy ((clash ops).all (okPairK P ops tr)) (k T H)
  else none
theorem dDrawK_eq {P : Program} {N : Nat} {call : Yc} {ops : Array Oper} {T : Env} {H : AHeap} {k : Env → AHeap → Res} :
    dDrawK std P N call ops T H k = (QX P N call ops T H).bind fun r => k r.1 r.2 := by
  unfold dDrawK QX
  split
  · rw [dTraceK_eq]
    cases h : UI P N call ops ops.toList T H with
    | none => rfl
    | some tr =>
      simp only [Option.bind_some, List.nil_append, Xy, show okPairK P ops tr = okPair P ops tr from funext (okPairK_eq P ops tr)]
      split
      · rfl
      · cases tr.getLast? <;> rfl
  · rfl
def dLoopK (body : Env → AHeap → K → Res) (keep : List Nat) : Nat → Env → AHeap → K → Res
  | 0, _, _, _ => none
  | n + 1, T, H, k => body T H fun e T' H' => match e with
    | .normal => dLoopK body keep n (clr keep T') H' k
    | .exit i => k (.exit i) T' H'
    | .ret => k .ret T' H'
def UJ (M : Comb) (P : Program) (N : Nat) (call : Yc) (n : Nat) : DCode → Env → AHeap → K → Res
  | .skip, T, H, k => k .normal T H
  | .region _ ops draw, T, H, k => if draw then dDrawK M P N call ops T H (k .normal) else dOpsK M P N call ops ops.toList T H (k .normal)
  | .seq a b, T, H, k => UJ M P N call n a T H (Ys (fun T' H' => UJ M P N call n b T' H' k) k)
  | .cond keep c x y, T, H, k => M.c (ev T c) (fun k => UJ M P N call n x T H k) (fun k => UJ M P N call n y T H k) keep k
  | .block keep id b, T, H, k => blockK (fun k => UJ M P N call n b T H k) keep id k
  | .loop keep b, T, H, k => dLoopK (UJ M P N call n b) keep n (clr keep T) H k
  | .exit id, T, H, k => k (.exit id) T H
  | .ret keep, T, H, k => k .ret (clr keep T) H
  | .bad _, _, _, _ => none
def PieceK (p : Env → AHeap → VC) (q : Env → AHeap → K → Res) : Prop := ∀ T H k, q T H k = (p T H).bind fun r => k r.1 r.2.1 r.2.2
theorem dLoopK_eq {body : Env → AHeap → VC} {bodyK : Env → AHeap → K → Res} (hb : PieceK body bodyK) (keep : List Nat) : ∀ n T H k, dLoopK bodyK keep n (clr keep T) H k = (WJ body keep n T H).bind fun r => k r.1 r.2.1 r.2.2
  | 0 => fun _ _ _ => rfl
  | n + 1 => fun T H k => by
    rw [dLoopK, WJ, hb]
    cases body (clr keep T) H with
    | none => rfl
    | some r =>
      obtain ⟨e, T', H'⟩ := r
      cases e with
      | normal => simp only [Option.bind_some]; exact dLoopK_eq hb keep n T' H' k
      | exit i => rfl
      | ret => rfl
theorem UZ {P : Program} {N : Nat} {call : Yc} {n : Nat} : ∀ (c : DCode), PieceK (Y5 P N call n c) (UJ std P N call n c)
  | .skip => fun _ _ _ => rfl
  | .region id ops draw => fun T H k => by
    rw [UJ, Y5]
    cases draw with
    | false =>
      simp only [Bool.false_eq_true, if_false]
      rw [dOpsK_eq]
      cases ZS P N call ops ops.toList T H <;> rfl
    | true =>
      simp only [if_true]
      rw [dDrawK_eq]
      cases QX P N call ops T H <;> rfl
  | .seq a b => fun T H k => by
    rw [UJ, Y5, UZ a]
    cases Y5 P N call n a T H with
    | none => rfl
    | some r =>
      obtain ⟨e, T', H'⟩ := r
      cases e with
      | normal => simp only [Option.bind_some, Ys]; exact UZ b T' H' k
      | exit i => rfl
      | ret => rfl
  | .cond keep c x y => fun T H k => by
    rw [UJ, Y5, std_c]
    unfold condJ
    cases ev T c with
    | bool b =>
      cases b with
      | true =>
        have hx := UZ (P := P) (N := N) (call := call) (n := n) x T H (Yl keep k)
        simp only [if_true]
        rw [hx]
        cases Y5 P N call n x T H with
        | none => rfl
        | some r => obtain ⟨e, T', H'⟩ := r; cases e <;> rfl
      | false =>
        have hy := UZ (P := P) (N := N) (call := call) (n := n) y T H (Yl keep k)
        simp only [Bool.false_eq_true, if_false]
        rw [hy]
        cases Y5 P N call n y T H with
        | none => rfl
        | some r => obtain ⟨e, T', H'⟩ := r; cases e <;> rfl
    | _ => rfl
  | .block keep id b => fun T H k => by
    rw [UJ, Y5, blockK, UZ b]
    cases Y5 P N call n b T H with
    | none => rfl
    | some r =>
      obtain ⟨e, T', H'⟩ := r
      cases e with
      | normal => rfl
      | exit j => simp only [Option.bind_some, Option.map_some]; split <;> rfl
      | ret => rfl
  | .loop keep b => fun T H k => by
    rw [UJ, Y5]
    exact dLoopK_eq (UZ b) keep n T H k
  | .exit id => fun _ _ _ => rfl
  | .ret keep => fun _ _ _ => rfl
  | .bad c => fun _ _ _ => rfl
def WY (P : Program) (H : AHeap) (T : Env) : List ResultVar → (List Value → Res) → Res
  | [], k => k []
  | .tmp t :: rs, k => WY P H T rs fun l => k (get T t :: l)
  | .cell a t :: rs, k => (UH P t (get T a) H).bind fun v => WY P H T rs fun l => k (v :: l)
theorem Ww {P : Program} {H : AHeap} {T : Env} : ∀ (rs : List ResultVar) {k : List Value → Res}, WY P H T rs k = (Wt P H T rs).bind k
  | [], _ => rfl
  | .tmp t :: rs, k => by
    rw [WY, Ww rs, Wt, resVal]
    cases Wt P H T rs <;> rfl
  | .cell a t :: rs, k => by
    rw [WY, Wt, resVal]
    cases UH P t (get T a) H with
    | none => rfl
    | some v =>
      simp only [Option.bind_some]
      rw [Ww rs]
      cases Wt P H T rs <;> rfl
def Yi (P : Program) (rs : List ResultVar) : K := fun e T H => match e with
  | .exit _ => none
  | .normal => WY P H T rs fun l => some (XY l, H)
  | .ret => WY P H T rs fun l => some (XY l, H)
def dBodyK (M : Comb) (P : Program) (hints : WE) (call : Yc) (n : Nat) (f : FuncId) (args : List Value) (H : AHeap) : Res :=
  match P.funcs[f]? with
  | some fn => match fn.body with
    | some c => UJ M P fn.ntmps call n (note c (hints f)).1 (Ur 0 args) H (Yi P fn.results.toList)
    | none => none
  | none => none
theorem dBodyK_eq (P : Program) (hints : WE) (call : Yc) (n : Nat) (f : FuncId) (args : List Value) (H : AHeap) : dBodyK std P hints call n f args H = Qk P hints call n f args H := by
  unfold dBodyK Qk
  cases P.funcs[f]? with
  | none => rfl
  | some fn =>
    simp only
    cases fn.body with
    | none => rfl
    | some c =>
      simp only
      rw [UZ]
      congr 1
      funext r
      obtain ⟨e, T, H⟩ := r
      cases e with
      | normal => simp only [Yi]; rw [Ww]; cases Wt P H T _ <;> rfl
      | exit i => rfl
      | ret => simp only [Yi]; rw [Ww]; cases Wt P H T _ <;> rfl
def Zj : DCode → List (List Nat × DCode)
  | .seq a b => Zj a ++ Zj b
  | .cond _ _ a b => Zj a ++ Zj b
  | .block _ _ b => Zj b
  | .loop keep b => (keep, b) :: Zj b
  | _ => []
def codeOf (P : Program) (hints : WE) (f : FuncId) : DCode := match P.funcs[f]? with | some fn => (match fn.body with | some c => (note c (hints f)).1 | none => .skip) | none => .skip
def loopOf (P : Program) (hints : WE) (f : FuncId) (i : Nat) : List Nat × DCode := (Zj (codeOf P hints f)).getD i ([], .skip)
def Xn (P : Program) (f : FuncId) : Nat := match P.funcs[f]? with | some fn => fn.ntmps | none => 0
def bodyK (M : Comb) (P : Program) (hints : WE) (call : Yc) (n : Nat) (f : FuncId) (i : Nat) : Env → AHeap → K → Res   := UJ M P (Xn P f) call n (loopOf P hints f i).2
end Go.Proofs.YtmiinbhnfojnbaaDoor.Eng

namespace Go.Proofs.YtmiinbhnfojnbaaDoor.Eng
open Go
def conv (n : Nat) : Value → Value
  | .bool b => .bool b
  | .int k m => .int k m
  | .float k m => .float k m
  | .string s => .string s
  | .pointer none => .pointer none
  | .pointer (some ⟨b, o, none⟩) => if b < n then .pointer (some ⟨b, o, none⟩) else top
  | .slice none 0 0 => .slice none 0 0
  | .slice (some ⟨b, o, none⟩) l c => if b < n ∧ l ≤ c then .slice (some ⟨b, o, none⟩) l (2 * c) else top
  | .nilFunc => .nilFunc
  | .nilIface => .nilIface
  | .map none => .map none
  | _ => top
def idE (w : World) : Emb := fun b => if b < w.heap.size then some ⟨b, 0, 0, match w.heap[b]? with | some (.cells cs _ _) => cs.size | _ => 0⟩ else none
theorem idE_some (w : World) {b : Nat} (h : b < w.heap.size) : ∃ L, idE w b = some L ∧ L.cb = b ∧ L.base = 0 := ⟨_, by simp [idE, h]; rfl, rfl, rfl⟩
theorem conv_rel (w : World) (v : Value) : RV (idE w) (conv w.heap.size v) v := by
  unfold conv
  split
  · exact .bool _
  · exact .int _ _
  · exact .flo _ _
  · exact .str _
  · exact .nilp
  · rename_i b o
    split
    · rename_i h
      obtain ⟨L, h1, rfl, h3⟩ := idE_some w h
      have := RV.ptr (o := o) h1
      rwa [h3, Nat.zero_add] at this
    · exact .unk _
  · exact .nils
  · rename_i b o l c
    split
    · rename_i h
      obtain ⟨L, h1, rfl, h3⟩ := idE_some w h.1
      have := RV.sle (o := o) h1 h.2
      rwa [h3, Nat.zero_add] at this
    · exact .unk _
  · exact .nilfn
  · exact .nili
  · exact .nilm
  · exact .unk _
theorem conv_ad (n : Nat) (v : Value) : AD n (conv n v) := by
  unfold conv
  split
  · exact .bool _
  · exact .int _ _
  · exact .flo _ _
  · exact .str _
  · exact .nilp
  · split
    · exact .ptr (by assumption)
    · exact .unk
  · exact .nils
  · split
    · rename_i h; exact .sl h.1
    · exact .unk
  · exact .nilfn
  · exact .nili
  · exact .nilm
  · exact .unk
def H0 : AHeap := ⟨0, 1, fun _ => .dead, fun _ => 0, []⟩
theorem below_rel {P : Program} {B : Nat} {ι : Emb} {H : AHeap} {w w' : World} (r : Rel P B ι H w) (b : RowKit.Below w.heap.size w w') : Rel P B ι H w' ∧ Stp ι H w ι H w' := by
  have hsame : ∀ c, c < w.heap.size → w'.heap[c]? = w.heap[c]? := fun c hc => b.block c hc
  refine ⟨⟨fun c L h => (r.blk c L h).keep (hsame _ (r.lt c L h).2), fun c L h => ⟨(r.lt c L h).1, Nat.lt_of_lt_of_le (r.lt c L h).2 b.size⟩, r.inj, Nat.le_trans r.base b.size, r.ver, r.glob.keep (Nat.le_refl _) fun c hc => hsame c (Nat.lt_of_lt_of_le hc r.base)⟩, ?_⟩
  exact ⟨fun _ _ => rfl, Nat.le_refl _, b.size, b.os, b.tape, b.output, fun c hc _ => hsame c hc, fun c L hc h => absurd (r.dom c L h) (by omega), fun _ _ _ _ h => h, VO.refl _⟩
end Go.Proofs.YtmiinbhnfojnbaaDoor.Eng

namespace Go.Proofs.YtmiinbhnfojnbaaDoor.Eng
open Go
variable {P : Program} {H H' : AHeap} {k : Value → AHeap → Res} {kk : K}
theorem checkK_true {r : Res} : Xy true r = r := rfl
theorem nextK_val {call : Yc} {H0 : AHeap} {v : Value} : Va call H0 (some (.val v H)) k = k v H := rfl
theorem Ud {t : TypeId} {ox oy : Operand} {q : IntKind} {a b : Int} : Yf P .add t ox oy (.int q a) (.int q b) = some (.int q (q.wrap (a + b))) := by
  simp [Yf, gr, pvg, pv, eqGuard, binOp, Op.intArith, Bind.bind, Sem.bind, Pure.pure]
theorem xbin_sub {t : TypeId} {ox oy : Operand} {q : IntKind} {a b : Int} : Yf P .sub t ox oy (.int q a) (.int q b) = some (.int q (q.wrap (a - b))) := by
  simp [Yf, gr, pvg, pv, eqGuard, binOp, Op.intArith, Bind.bind, Sem.bind, Pure.pure]
theorem xbin_mul {t : TypeId} {ox oy : Operand} {q : IntKind} {a b : Int} : Yf P .mul t ox oy (.int q a) (.int q b) = some (.int q (q.wrap (a * b))) := by
  simp [Yf, gr, pvg, pv, eqGuard, binOp, Op.intArith, Bind.bind, Sem.bind, Pure.pure]
theorem xbin_eql {t : TypeId} {ox oy : Operand} {q : IntKind} {a b : Int} : Yf P .eql t ox oy (.int q a) (.int q b) = some (.bool (a == b)) := by
  simp [Yf, gr, pvg, pv, eqGuard, binOp, Op.intCmp, Bind.bind, Sem.bind, Pure.pure]
theorem xbin_neq {t : TypeId} {ox oy : Operand} {q : IntKind} {a b : Int} : Yf P .neq t ox oy (.int q a) (.int q b) = some (.bool (a != b)) := by
  simp [Yf, gr, pvg, pv, eqGuard, binOp, Op.intCmp, Bind.bind, Sem.bind, Pure.pure]
theorem xbin_lss {t : TypeId} {ox oy : Operand} {q : IntKind} {a b : Int} : Yf P .lss t ox oy (.int q a) (.int q b) = some (.bool (decide (a < b))) := by
  simp [Yf, gr, pvg, pv, eqGuard, binOp, Op.intCmp, Bind.bind, Sem.bind, Pure.pure]
theorem xbin_leq {t : TypeId} {ox oy : Operand} {q : IntKind} {a b : Int} : Yf P .leq t ox oy (.int q a) (.int q b) = some (.bool (decide (a ≤ b))) := by
  simp [Yf, gr, pvg, pv, eqGuard, binOp, Op.intCmp, Bind.bind, Sem.bind, Pure.pure]
theorem xbin_gtr {t : TypeId} {ox oy : Operand} {q : IntKind} {a b : Int} : Yf P .gtr t ox oy (.int q a) (.int q b) = some (.bool (decide (a > b))) := by
  simp [Yf, gr, pvg, pv, eqGuard, binOp, Op.intCmp, Bind.bind, Sem.bind, Pure.pure]
theorem xbin_geq {t : TypeId} {ox oy : Operand} {q : IntKind} {a b : Int} : Yf P .geq t ox oy (.int q a) (.int q b) = some (.bool (decide (a ≥ b))) := by
  simp [Yf, gr, pvg, pv, eqGuard, binOp, Op.intCmp, Bind.bind, Sem.bind, Pure.pure]
theorem xun_not {b : Bool} : xun P .not (.bool b) = some (.bool !b) := rfl
theorem wrap64 {n : Int} (h1 : -9223372036854775808 ≤ n) (h2 : n < 9223372036854775808) : IntKind.wrap .i64 n = n := by
  unfold IntKind.wrap
  simp only [IntKind.bits, IntKind.signed, Bool.true_and]
  split <;> simp_all <;> omega
end Go.Proofs.YtmiinbhnfojnbaaDoor.Eng

namespace Go.Proofs.YtmiinbhnfojnbaaDoor.Eng
open Go
variable {P : Program} {H H' : AHeap}
theorem YB {x : Option Value} {v : Value} {k : Value → AHeap → Res} {r : Res} (h : x = some v) (hk : k v H = r) : Yb x H k = r := by rw [h]; exact hk
theorem Q0 {x : Option (Value × AHeap)} {v : Value} {k : Value → AHeap → Res} {r : Res} (h : x = some (v, H')) (hk : k v H' = r) : Yp x k = r := by rw [h]; exact hk
theorem c_true {x y : K → Res} {keep : List Nat} {k : K} {r : Res} (h : x (Yl keep k) = r) : std.c (.bool true) x y keep k = r := h
theorem c_false {x y : K → Res} {keep : List Nat} {k : K} {r : Res} (h : y (Yl keep k) = r) : std.c (.bool false) x y keep k = r := h
theorem after_n {keep : List Nat} {T : Env} {f : Env → AHeap → Res} {k : K} {r : Res} (h : f (clr keep T) H = r) : Yl keep (Ys f k) .normal T H = r := h
theorem after_r {keep : List Nat} {T : Env} {f : Env → AHeap → Res} {k : K} {r : Res} (h : k .ret T H = r) : Yl keep (Ys f k) .ret T H = r := h
theorem Z9 {t e : TypeId} {sz b o l c i : Nat} {q : IntKind} (hS : P.underlying t = some (.slice e)) (hq : V2 P e = some sz) (hi : i ≤ l) (hl : l ≤ c) :
    X3 P t (.slice (some ⟨b, o, none⟩) l (2 * c)) (some (.int q i)) none none H = some (.slice (some ⟨b, if c = i then o else o + i * sz, none⟩) (l - i) (2 * (c - i))) := by
  have h1 : 2 * c / 2 = c := by omega
  have h2 : 2 * c % 2 = 0 := by omega
  have h3 : (i : Int) ≤ l := by omega
  simp [X3, hS, hq, slS, Wl, WN, bnd, h1, h2, hl, hi]
theorem sl_to {t e : TypeId} {sz b o l c h : Nat} {q : IntKind} (hS : P.underlying t = some (.slice e)) (hq : V2 P e = some sz) (hh : h ≤ c) (h0 : c ≠ 0) :
    X3 P t (.slice (some ⟨b, o, none⟩) l (2 * c)) none (some (.int q h)) none H = some (.slice (some ⟨b, o, none⟩) h (2 * c)) := by
  have h1 : 2 * c / 2 = c := by omega
  have h2 : 2 * c % 2 = 0 := by omega
  simp [X3, hS, hq, slS, Wl, WN, bnd, h1, h2, h0, hh]
theorem sl_from' {t e : TypeId} {sz b o l c i : Nat} {q : IntKind} {xs : List Value} (hS : P.underlying t = some (.slice e)) (hq : V2 P e = some sz) (hi : i ≤ l) (hl : l ≤ c) (hb : H.f b = .cells xs e true) :
    X3 P t (.slice (some ⟨b, o, none⟩) l (2 * c + 1)) (some (.int q i)) none none H = some (.slice (some ⟨b, o + i * sz, none⟩) (l - i) (2 * (c - i) + 1)) := by
  have h1 : (2 * c + 1) / 2 = c := by omega
  have h2 : (2 * c + 1) % 2 = 1 := by omega
  have h3 : (i : Int) ≤ l := by omega
  simp [X3, hS, hq, slS, Wl, WN, bnd, h1, h2, hl, hi, hb, Qy]
theorem len_sl {t e : TypeId} {a : Option Addr} {l c : Nat} (hS : P.underlying t = some (.slice e)) {ts : List TypeId} {G : AHeap} : xlenM P (t :: ts) (.slice a l c) G = some (goInt l) := by
  simp [xlenM, xlen, hS]
theorem copy_sl {t e : TypeId} {sz b o dl dc b' o' sl sc m : Nat} {ts : List TypeId} {l : List Value} (hS : P.underlying t = some (.slice e)) (hq : V2 P e = some sz) (hm : Nat.min sl dl = m) (h0 : m ≠ 0)
    (hc : cut H b' o' (m * sz) = some l) (hs : stL H b o l = some H') : xcopy P (t :: ts) (.slice (some ⟨b, o, none⟩) dl dc) (.slice (some ⟨b', o', none⟩) sl sc) H = some (goInt m, H') := by
  simp [xcopy, hS, hq, cpy, hm, h0, hc, hs]
structure Ovl (P : Program) (tS : TypeId) (fO : FuncId) : Prop where
  fn : ∃ fn, P.funcs[fO]? = some fn ∧ fn.name ≠ "runtime.NumGoroutine" ∧ fn.body.isSome = false ∧ fn.origin = "slices.overlaps" ∧ noRow fn.name = true ∧ fn.params.toList = [tS, tS]
theorem ovl_call {C : Yc} {tS el ev : TypeId} {fO : FuncId} (hO : Ovl P tS fO) (hS : P.underlying tS = some (.slice el)) {sz : Nat} (hq : V2 P el = some sz) {b o l c b' o' l' c' : Nat} {xs ys : List Value} {e' : TypeId} {rw' : Bool}
    (hb : H.f b = .cells xs ev true) (hb' : H.f b' = .cells ys e' rw') (hy : ys ≠ []) (hne : b ≠ b') (ht : tailQ P ev = 1) (ho : o ≤ xs.length) (h0 : l ≠ 0) (h1 : l' ≠ 0) {k : Value → AHeap → Res} :
    Qr P C (.func (.func fO) #[] #[]) [.slice (some ⟨b, o, none⟩) l c, .slice (some ⟨b', o', none⟩) l' c'] H k = k (.bool false) H := by
  obtain ⟨fn, h2, h3, h4, h5, h6, h7⟩ := hO.fn
  cases ys with
  | nil => exact absurd rfl hy
  | cons y ys =>
    simp [Qr, h2, h3, h4, xext, h5, h6, h0, h1, hb, hb', h7, hS, hne, ht, hq, ho, Yb]
def insK (M : Comb) (P : Program) (C : Yc) (n : Nat) (tS tI : TypeId) (fO fR : FuncId) (a0 a1 a2 : Value) (H : AHeap) (K0 : K) : Res :=
Yb (X3 P tS a0 (some a1) none none H) H fun t12 h1 =>
Yb (xlenM P [tS] a2 h1) h1 fun t14 h2 =>
Yb (Yf P .eql tI (.tmp 15) (.const (.int .i64 0)) t14 (.int .i64 0)) h2 fun t16 h3 =>
M.c t16 (fun k1 => k1 .ret [(6, a0)] h3) (fun k1 => k1 .normal [(16, t16), (15, t14), (7, t14), (14, t14), (13, a2), (12, t12), (11, a1), (10, a0), (6, (.slice none 0 0)), (0, a0), (1, a1), (2, a2)] h3) [0, 1, 2, 7] (Ys (fun tT h4 =>
Yb (xlenM P [tS] (get tT 0) h4) h4 fun t19 h5 =>
Yb (Yf P .eql tI (.tmp 20) (.tmp 21) (get tT 1) t19) h5 fun t22 h6 =>
M.c t22 (fun k2 => Yp (Za P [tS, tS] (get tT 0) (get tT 2) h6) fun t25 h7 =>
k2 .ret [(6, t25)] h7) (fun k2 => k2 .normal ((22, t22) :: (21, t19) :: (20, (get tT 1)) :: (8, t19) :: (19, t19) :: (18, (get tT 0)) :: tT) h6) [0, 1, 2, 7, 8] (Ys (fun tT_1 h8 =>
Yb (Yf P .add tI (.tmp 26) (.tmp 27) (get tT_1 8) (get tT_1 7)) h8 fun t28 h9 =>
Va C h9 (YN P .cap [tS] [(get tT_1 0)] h9) fun t30 h10 =>
Yb (Yf P .gtr tI (.tmp 28) (.tmp 30) t28 t30) h10 fun t31 h11 =>
M.c t31 (fun k3 => Yb (X3 P tS (get tT_1 0) none (some (get tT_1 1)) none h11) h11 fun t34 h12 =>
Yb (Yf P .add tI (.tmp 35) (.tmp 36) (get tT_1 8) (get tT_1 7)) h12 fun t37 h13 =>
Yb (Yf P .sub tI (.tmp 37) (.tmp 38) t37 (get tT_1 1)) h13 fun t39 h14 =>
Yp (Za P [tS, tI] t34 t39 h14) fun t40 h15 =>
Yb (X3 P tS t40 (some (get tT_1 1)) none none h15) h15 fun t43 h16 =>
Yp (xcopy P [tS, tS] t43 (get tT_1 2) h16) fun t45 h17 =>
Yb (Yf P .add tI (.tmp 47) (.tmp 48) (get tT_1 1) (get tT_1 7)) h17 fun t49 h18 =>
Yb (X3 P tS t40 (some t49) none none h18) h18 fun t50 h19 =>
Yb (X3 P tS (get tT_1 0) (some (get tT_1 1)) none none h19) h19 fun t53 h20 =>
Yp (xcopy P [tS, tS] t50 t53 h20) fun t54 h21 =>
Xy true <|
k3 .ret [(6, t40)] h21) (fun k3 => k3 .normal ((31, t31) :: (30, t30) :: (29, (get tT_1 0)) :: (28, t28) :: (27, (get tT_1 7)) :: (26, (get tT_1 8)) :: tT_1) h11) [0, 1, 2, 7, 8] (Ys (fun tT_2 h22 =>
Yb (Yf P .add tI (.tmp 57) (.tmp 58) (get tT_2 8) (get tT_2 7)) h22 fun t59 h23 =>
Yb (X3 P tS (get tT_2 0) none (some t59) none h23) h23 fun t60 h24 =>
Yb (Yf P .add tI (.tmp 63) (.tmp 64) (get tT_2 1) (get tT_2 7)) h24 fun t65 h25 =>
Yb (X3 P tS t60 (some t65) none none h25) h25 fun t66 h26 =>
Qr P C (.func (.func fO) #[] #[]) [(get tT_2 2), t66] h26 fun t67 h27 =>
Yb (xun P .not t67) h27 fun t68 h28 =>
M.c t68 (fun k4 => Yb (Yf P .add tI (.tmp 70) (.tmp 71) (get tT_2 1) (get tT_2 7)) h28 fun t72 h29 =>
Yb (X3 P tS t60 (some t72) none none h29) h29 fun t73 h30 =>
Yb (X3 P tS t60 (some (get tT_2 1)) none none h30) h30 fun t76 h31 =>
Yp (xcopy P [tS, tS] t73 t76 h31) fun t77 h32 =>
Xy true <|
Yb (X3 P tS t60 (some (get tT_2 1)) none none h32) h32 fun t80 h33 =>
Yp (xcopy P [tS, tS] t80 (get tT_2 2) h33) fun t82 h34 =>
k4 .ret [(6, t60)] h34) (fun k4 => k4 .normal ((68, t68) :: (67, t67) :: (66, t66) :: (65, t65) :: (64, (get tT_2 7)) :: (63, (get tT_2 1)) :: (62, t60) :: (61, (get tT_2 2)) :: (0, t60) :: (60, t60) :: (59, t59) :: (58, (get tT_2 7)) :: (57, (get tT_2 8)) :: (56, (get tT_2 0)) :: tT_2) h28) [0, 1, 2, 7, 8] (Ys (fun tT_3 h35 =>
Yb (X3 P tS (get tT_3 0) (some (get tT_3 8)) none none h35) h35 fun t86 h36 =>
Yp (xcopy P [tS, tS] t86 (get tT_3 2) h36) fun t88 h37 =>
Yb (X3 P tS (get tT_3 0) (some (get tT_3 1)) none none h37) h37 fun t91 h38 =>
Yh C fR [t91, (get tT_3 7)] h38 fun t93 h39 =>
K0 .ret [(6, (get tT_3 0))] h39) K0)) K0)) K0)) K0)
theorem insK_room {C : Yc} {n : Nat} {tS tI el ev : TypeId} {fO fR : FuncId} {K0 : K} (hS : P.underlying tS = some (.slice el)) {sz : Nat} (hq : V2 P el = some sz) (hO : Ovl P tS fO)
    {b o l c i m bv ov cv : Nat} {xs ys new old : List Value} (hi : i < l) (hm : m ≠ 0) (hroom : l + m ≤ c) (hbig : l + m < 4611686018427387904) (hH : H.f b = .cells xs el true) (hne : bv ≠ b)
    (hv : H.f bv = .cells ys ev true) (hov : ov ≤ ys.length) (htl : tailQ P ev = 1) (hxs : xs ≠ [])
    (hcut : cut H b (o + i * sz) ((l - i) * sz) = some old) (hst : stL H b (o + (i + m) * sz) old = some H')
    (hcut2 : cut H' bv ov (m * sz) = some new) {H2 : AHeap} (hst2 : stL H' b (o + i * sz) new = some H2) :
    insK std P C n tS tI fO fR (.slice (some ⟨b, o, none⟩) l (2 * c)) (.int .i64 i) (.slice (some ⟨bv, ov, none⟩) m cv) H K0 = K0 .ret [(6, .slice (some ⟨b, o, none⟩) (l + m) (2 * c))] H2 := by
  have w1 : IntKind.wrap .i64 ((l : Int) + m) = ((l + m : Nat) : Int) := by rw [wrap64 (by omega) (by omega)]; simp
  have w2 : IntKind.wrap .i64 ((i : Int) + m) = ((i + m : Nat) : Int) := by rw [wrap64 (by omega) (by omega)]; simp
  unfold insK
  refine YB (Z9 hS hq (by omega) (by omega)) ?_
  refine YB (len_sl hS) ?_
  refine YB (v := .bool false) (by rw [goInt, xbin_eql]; simp; omega) ?_
  refine c_false ?_
  refine after_n ?_
  refine YB (len_sl (l := l) (c := 2 * c) (a := some ⟨b, o, none⟩) hS) ?_
  refine YB (v := .bool false) (by refine Eq.trans (xbin_eql (a := (i : Int)) (b := (l : Int))) ?_; simp; omega) ?_
  refine c_false ?_
  refine after_n ?_
  refine YB (v := .int .i64 ((l + m : Nat) : Int)) (by refine Eq.trans (Ud (a := (l : Int)) (b := (m : Int))) ?_; rw [w1]) ?_
  refine Eq.trans (b := Va C H (some (.val (goInt c) H)) _) (by
    have : YN P .cap [tS] [.slice (some ⟨b, o, none⟩) l (2 * c)] H = some (.val (goInt c) H) := by
      simp [YN, bare, xcap, hS]
    exact congrArg (fun x => Va C H x _) this) ?_
  refine Eq.trans nextK_val ?_
  refine YB (v := .bool false) (by refine Eq.trans (xbin_gtr (a := ((l + m : Nat) : Int)) (b := (c : Int))) ?_; simp; omega) ?_
  refine c_false ?_
  refine after_n ?_
  refine YB (v := .int .i64 ((l + m : Nat) : Int)) (by refine Eq.trans (Ud (a := (l : Int)) (b := (m : Int))) ?_; rw [w1]) ?_
  refine YB (sl_to (l := l) (b := b) (o := o) (c := c) (h := l + m) hS hq (by omega) (by omega)) ?_
  refine YB (v := .int .i64 ((i + m : Nat) : Int)) (by refine Eq.trans (Ud (a := (i : Int)) (b := (m : Int))) ?_; rw [w2]) ?_
  refine YB (Z9 hS hq (by omega) (by omega)) ?_
  refine Eq.trans (ovl_call hO hS hq hv hH hxs hne htl hov hm (by omega)) ?_
  refine YB xun_not ?_
  refine c_true ?_
  refine YB (v := .int .i64 ((i + m : Nat) : Int)) (by refine Eq.trans (Ud (a := (i : Int)) (b := (m : Int))) ?_; rw [w2]) ?_
  refine YB (Z9 hS hq (by omega) (by omega)) ?_
  refine YB (Z9 (i := i) hS hq (by omega) (by omega)) ?_
  have e1 : (if c = i + m then o else o + (i + m) * sz) = o + (i + m) * sz := by rw [if_neg (by omega)]
  have e2 : (if c = i then o else o + i * sz) = o + i * sz := by rw [if_neg (by omega)]
  rw [e1, e2]
  refine Q0 (copy_sl (m := l - i) hS hq (by show min _ _ = _; omega) (by omega) hcut hst) ?_
  refine Eq.trans checkK_true ?_
  refine YB (Z9 (i := i) hS hq (by omega) (by omega)) ?_
  rw [e2]
  refine Q0 (copy_sl (m := m) hS hq (by show min _ _ = _; omega) hm hcut2 hst2) ?_
  exact after_r rfl
theorem app_zeros {tS tI el : TypeId} (hS : P.underlying tS = some (.slice el)) (hI : P.underlying tI = some (.int .i64)) {z : List Value} (hz : zrow P el = some z) {b o c i k : Nat} {old : List Value}
    (hk : k ≠ 0) (hno : c < i + k) (hb1 : (i + k) * P.bytesOf el ≤ 140737488355328) (hb2 : i + k ≤ 140737488355328) (h1 : (zeros z k).all one = true) (ho : Qx z.length i H (some ⟨b, o, none⟩) = some old) :
    Za P [tS, tI] (.slice (some ⟨b, o, none⟩) i (2 * c)) (.int .i64 k) H = some (.slice (some ⟨H.n, 0, none⟩) (i + k) (2 * (i + k) + 1), H.push (.cells (old ++ zeros z k) el true)) := by
  have h2 : 2 * c / 2 = c := by omega
  have h3 : 2 * c % 2 = 0 := by omega
  have h4 : k * P.bytesOf el ≤ 140737488355328 := Nat.le_trans (Nat.mul_le_mul_right _ (by omega)) hb1
  have h5 : ¬ (140737488355328 < (i + k) * P.bytesOf el ∨ 140737488355328 < i + k) := by omega
  have h6 : ¬ (i + k ≤ c) := by omega
  have h4' : (k : Int) * (P.bytesOf el : Int) ≤ 140737488355328 := by
    rw [← Int.natCast_mul]
    omega
  have h7 : (k : Int) ≤ 140737488355328 := by omega
  simp [Za, hS, hz, app, srcOf, hI, srcZ, h4', h7, hk, h5, h2, h3, h6, ho]
  simpa using h1
theorem insK_new {C : Yc} {n : Nat} {tS tI el : TypeId} {fO fR : FuncId} {K0 : K} (hS : P.underlying tS = some (.slice el)) (hI : P.underlying tI = some (.int .i64)) {z : List Value} (hz : zrow P el = some z) (hq : V2 P el = some z.length)
    {b o l c i m bv ov cv : Nat} {old new tail : List Value} (hi : i < l) (hl : l ≤ c) (hm : m ≠ 0) (hno : c < l + m) (hb1 : (l + m) * P.bytesOf el ≤ 140737488355328) (hb2 : l + m ≤ 140737488355328)
    (h1 : (zeros z (l + m - i)).all one = true) (ho : Qx z.length i H (some ⟨b, o, none⟩) = some old)
    {H1 H2 H3 : AHeap} (hH1 : H1 = H.push (.cells (old ++ zeros z (l + m - i)) el true))
    (hcut : cut H1 bv ov (m * z.length) = some new) (hst : stL H1 H.n (i * z.length) new = some H2)
    (hcut2 : cut H2 b (o + i * z.length) ((l - i) * z.length) = some tail) (hst2 : stL H2 H.n ((i + m) * z.length) tail = some H3) {xs2 : List Value} (hrow : H2.f H.n = .cells xs2 el true) :
    insK std P C n tS tI fO fR (.slice (some ⟨b, o, none⟩) l (2 * c)) (.int .i64 i) (.slice (some ⟨bv, ov, none⟩) m cv) H K0 = K0 .ret [(6, .slice (some ⟨H.n, 0, none⟩) (l + m) (2 * (l + m) + 1))] H3 := by
  have w1 : IntKind.wrap .i64 ((l : Int) + m) = ((l + m : Nat) : Int) := by rw [wrap64 (by omega) (by omega)]; simp
  have w2 : IntKind.wrap .i64 ((i : Int) + m) = ((i + m : Nat) : Int) := by rw [wrap64 (by omega) (by omega)]; simp
  have w3 : IntKind.wrap .i64 (((l + m : Nat) : Int) - i) = ((l + m - i : Nat) : Int) := by rw [wrap64 (by omega) (by omega)]; omega
  unfold insK
  refine YB (Z9 hS hq (by omega) (by omega)) ?_
  refine YB (len_sl hS) ?_
  refine YB (v := .bool false) (by rw [goInt, xbin_eql]; simp; omega) ?_
  refine c_false ?_
  refine after_n ?_
  refine YB (len_sl (l := l) (c := 2 * c) (a := some ⟨b, o, none⟩) hS) ?_
  refine YB (v := .bool false) (by refine Eq.trans (xbin_eql (a := (i : Int)) (b := (l : Int))) ?_; simp; omega) ?_
  refine c_false ?_
  refine after_n ?_
  refine YB (v := .int .i64 ((l + m : Nat) : Int)) (by refine Eq.trans (Ud (a := (l : Int)) (b := (m : Int))) ?_; rw [w1]) ?_
  refine Eq.trans (b := Va C H (some (.val (goInt c) H)) _) (by
    have : YN P .cap [tS] [.slice (some ⟨b, o, none⟩) l (2 * c)] H = some (.val (goInt c) H) := by
      simp [YN, bare, xcap, hS]
    exact congrArg (fun x => Va C H x _) this) ?_
  refine Eq.trans nextK_val ?_
  refine YB (v := .bool true) (by refine Eq.trans (xbin_gtr (a := ((l + m : Nat) : Int)) (b := (c : Int))) ?_; simp; omega) ?_
  refine c_true ?_
  refine YB (sl_to (l := l) (b := b) (o := o) (c := c) (h := i) hS hq (by omega) (by omega)) ?_
  refine YB (v := .int .i64 ((l + m : Nat) : Int)) (by refine Eq.trans (Ud (a := (l : Int)) (b := (m : Int))) ?_; rw [w1]) ?_
  refine YB (v := .int .i64 ((l + m - i : Nat) : Int)) (by refine Eq.trans (xbin_sub (a := ((l + m : Nat) : Int)) (b := (i : Int))) ?_; rw [w3]) ?_
  have e0 : i + (l + m - i) = l + m := by omega
  have happ := app_zeros (tS := tS) (tI := tI) (b := b) (o := o) (c := c) (i := i) (k := l + m - i) hS hI hz (by omega) (by omega) (by rw [e0]; exact hb1) (by omega) h1 ho
  rw [e0, ← hH1] at happ
  refine Q0 happ ?_
  have hr1 : H1.f H.n = .cells (old ++ zeros z (l + m - i)) el true := by rw [hH1]; exact AHeap.push_new _ _
  refine YB (sl_from' (i := i) hS hq (by omega) (by omega) hr1) ?_
  rw [Nat.zero_add]
  refine Q0 (copy_sl (m := m) hS hq (by show min _ _ = _; omega) hm hcut hst) ?_
  refine YB (v := .int .i64 ((i + m : Nat) : Int)) (by refine Eq.trans (Ud (a := (i : Int)) (b := (m : Int))) ?_; rw [w2]) ?_
  refine YB (sl_from' (i := i + m) hS hq (by omega) (by omega) hrow) ?_
  refine YB (Z9 (b := b) (o := o) (l := l) (c := c) (i := i) hS hq (by omega) (by omega)) ?_
  have e2 : (if c = i then o else o + i * z.length) = o + i * z.length := by rw [if_neg (by omega)]
  rw [e2, Nat.zero_add]
  refine Q0 (copy_sl (m := l - i) hS hq (by show min _ _ = _; omega) (by omega) hcut2 hst2) ?_
  refine Eq.trans checkK_true ?_
  exact after_r rfl
end Go.Proofs.YtmiinbhnfojnbaaDoor.Eng

namespace Go.Proofs.YtmiinbhnfojnbaaDoor.Eng
open Go
def insS (P : Program) (el : TypeId) (z : List Value) (args : List Value) (H : AHeap) : Res :=
  match args with
  | [.slice (some ⟨b, o, none⟩) l code, .int .i64 (.ofNat i), .slice (some ⟨bv, ov, none⟩) m _] =>
    match H.f b, H.f bv with
    | .cells xs e true, .cells ys ev true =>
      if code % 2 = 1 ∧ e = el ∧ i < l ∧ l ≤ code / 2 ∧ m ≠ 0 ∧ (l + m) * P.bytesOf el ≤ 140737488355328 ∧ l + m ≤ 140737488355328 ∧ bv ≠ b ∧ tailQ P ev = 1 ∧ o + code / 2 * z.length = xs.length ∧
          ov + m * z.length ≤ ys.length ∧ 0 < xs.length ∧ ((ys.drop ov).take (m * z.length)).all one = true ∧ ((xs.drop (o + i * z.length)).take ((l - i) * z.length)).all one = true ∧ (zeros z (l + m - i)).all one = true then
        if l + m ≤ code / 2 then
          some (.slice (some ⟨b, o, none⟩) (l + m) code,
            (H.set b (.cells (spl xs (o + (i + m) * z.length) ((xs.drop (o + i * z.length)).take ((l - i) * z.length))) el true)).set b
              (.cells (spl (spl xs (o + (i + m) * z.length) ((xs.drop (o + i * z.length)).take ((l - i) * z.length))) (o + i * z.length) ((ys.drop ov).take (m * z.length))) el true))
        else some (.slice (some ⟨H.n, 0, none⟩) (l + m) (2 * (l + m) + 1),
            (H.set b .dead).push (.cells ((xs.drop o).take (i * z.length) ++ ((ys.drop ov).take (m * z.length) ++ (xs.drop (o + i * z.length)).take ((l - i) * z.length))) el true))
      else none
    | _, _ => none
  | _ => none
def insP (P : Program) (hints : WE) (f : FuncId) (el : TypeId) (z : List Value) : List Value → AHeap → Res := fun args H =>
  match Qk P hints (fun _ _ _ => none) 1 f args H with
  | some r => some r
  | none => insS P el z args H
theorem QJ : ∀ (vs xs : List Value) (o j : Nat), o + vs.length ≤ xs.length → (spl xs o vs)[j]? = if o ≤ j ∧ j < o + vs.length then vs[j - o]? else xs[j]?
  | [], xs, o, j, _ => by simp [spl]; intro h1 h2; omega
  | v :: vs, xs, o, j, h => by
    rw [spl, QJ vs (xs.set o v) (o + 1) j (by simp at h ⊢; omega)]
    simp only [List.length_cons] at h ⊢
    by_cases h1 : o + 1 ≤ j ∧ j < o + 1 + vs.length
    · rw [if_pos h1, if_pos (by omega)]
      obtain ⟨d, hd⟩ : ∃ d, j - o = d + 1 := ⟨j - o - 1, by omega⟩
      rw [hd, show j - (o + 1) = d by omega]
      simp
    · rw [if_neg h1]
      by_cases h2 : j = o
      · subst h2
        rw [if_pos (by omega)]
        simp [show j < xs.length by omega]
      · rw [if_neg (by omega), List.getElem?_set_ne (by omega)]
theorem ins_cells {xs new : List Value} {o A M T : Nat} (hx : o + A + M + T ≤ xs.length) (hM : new.length = M) {j : Nat} (hj : j < A + M + T) :
    (spl (spl xs (o + (A + M)) ((xs.drop (o + A)).take T)) (o + A) new)[o + j]? = ((xs.drop o).take A ++ (new ++ (xs.drop (o + A)).take T))[j]? := by
  have hT : ((xs.drop (o + A)).take T).length = T := by simp; omega
  have hA : ((xs.drop o).take A).length = A := by simp; omega
  rw [QJ _ _ _ _ (by rw [Xz]; omega), QJ _ _ _ _ (by omega)]
  rw [List.getElem?_append, hA, List.getElem?_append, hM, hT]
  by_cases h1 : j < A
  · rw [if_neg (by omega), if_neg (by omega), if_pos h1, List.getElem?_take_of_lt h1, List.getElem?_drop]
  · by_cases h2 : j < A + M
    · rw [if_pos (by omega), if_neg h1, if_pos (by omega), show o + j - (o + A) = j - A by omega]
    · rw [if_neg (by omega), if_pos (by omega), if_neg h1, if_neg (by omega), show o + j - (o + (A + M)) = j - A - M by omega]
theorem ins_row {old zs new tail : List Value} (hz : zs.length = new.length + tail.length) : spl (spl (old ++ zs) old.length new) (old.length + new.length) tail = old ++ (new ++ tail) := by
  apply List.ext_getElem?
  intro j
  rw [QJ _ _ _ _ (by rw [Xz]; simp; omega), QJ _ _ _ _ (by simp; omega)]
  rw [List.getElem?_append (l₁ := old) (l₂ := new ++ tail), List.getElem?_append (l₁ := new) (l₂ := tail), List.getElem?_append (l₁ := old) (l₂ := zs)]
  by_cases h1 : j < old.length
  · rw [if_neg (by omega), if_neg (by omega), if_pos h1, if_pos h1]
  · by_cases h2 : j < old.length + new.length
    · rw [if_neg (by omega), if_pos (by omega), if_neg h1, if_pos (by omega)]
    · by_cases h3 : j < old.length + new.length + tail.length
      · rw [if_pos (by omega), if_neg h1, if_neg (by omega), show j - old.length - new.length = j - (old.length + new.length) by omega]
      · rw [if_neg (by omega), if_neg (by omega), if_neg h1, if_neg h1, if_neg (by omega), List.getElem?_eq_none (by omega), List.getElem?_eq_none (by omega)]
variable {P : Program} {B : Nat} {ι : Emb} {H : AHeap} {w : World}
theorem Rel.less {H' : AHeap} (r : Rel P B ι H w) (hn : H'.n = H.n) (hf : ∀ b, H'.f b = H.f b ∨ H'.f b = .dead) (hv : ∀ b, H'.ver b < H'.clk) : Rel P B ι H' w := by
  have hown : ∀ b, XW (H'.f b) = true → XW (H.f b) = true := fun b h => by
    rcases hf b with e | e
    · rwa [e] at h
    · rw [e] at h; simp [XW] at h
  have hal : ∀ b, Xf (H'.f b) = true → Xf (H.f b) = true := fun b h => by
    rcases hf b with e | e
    · rwa [e] at h
    · rw [e] at h; simp [Xf] at h
  refine ⟨fun b L h => ?_, fun b L h => by rw [hn]; exact r.lt b L h, fun b c L M h1 h2 hne ho ha => r.inj b c L M h1 h2 hne (hown b ho) (hal c ha), r.base, hv, r.glob⟩
  rcases hf b with e | e
  · rw [e]; exact r.blk b L h
  · rw [e]; trivial
theorem Stp.less {ι' : Emb} {H1 H2 : AHeap} {w' : World} (s : Stp ι H w ι' H1 w') (hn : H2.n = H1.n) (hf : ∀ b, H2.f b = H1.f b ∨ H2.f b = .dead) (hv : VO H H2) : Stp ι H w ι' H2 w' :=
  ⟨s.ext, hv.n, s.wn, s.os, s.tape, s.output, s.fr, s.new, fun b L hb hl ho => s.own b L hb hl (by
    rcases hf b with e | e
    · rwa [e] at ho
    · rw [e] at ho; simp [XW] at ho), hv⟩
theorem cut_ok {b o n : Nat} {xs : List Value} {e : TypeId} {rw' : Bool} (h : H.f b = .cells xs e rw') (hf : o + n ≤ xs.length) : cut H b o n = some ((xs.drop o).take n) := by
  unfold cut
  simp [h, hf]
theorem stL_ok {b o : Nat} {xs vs : List Value} {e : TypeId} (h : H.f b = .cells xs e true) (hf : o + vs.length ≤ xs.length) (h1 : vs.all one = true) : stL H b o vs = some (H.set b (.cells (spl xs o vs) e true)) := by
  unfold stL
  simp only [h, hf, if_true, h1]
theorem insS_ad {el : TypeId} {z : List Value} {args : List Value} {v : Value} {H' : AHeap} (h : insS P el z args H = some (v, H')) (hc : Cl H) (ha : ADs H.n args) : OkV H H' v := by
  unfold insS at h
  split at h
  · rename_i b o l code i bv ov m cv
    split at h
    · rename_i xs e ys ev hf1 hf2
      split at h
      · rename_i hcond
        have hxs := hc.cells _ _ _ _ hf1
        have hys := hc.cells _ _ _ _ hf2
        have hb : b < H.n := by
          have := ha (.slice (some ⟨b, o, none⟩) l code) (by simp)
          cases this
          assumption
        split at h
        · cases h
          have h1 : Cl (H.set b (.cells (spl xs (o + (i + m) * z.length) ((xs.drop (o + i * z.length)).take ((l - i) * z.length))) el true)) :=
            hc.set b (fun _ _ _ hk => by cases hk; exact ADs.spl ((hxs.drop _).take _) hxs) (fun _ hk => by cases hk)
          refine ⟨h1.set b (fun _ _ _ hk => by cases hk; exact ADs.spl ((hys.drop _).take _) (ADs.spl ((hxs.drop _).take _) hxs)) (fun _ hk => by cases hk), .sl hb, ?_⟩
          exact (VO.set _ _ _ (by simp [hf1, Xf])).trans (VO.set _ _ _ (by simp [Xf]))
        · cases h
          have h1 : Cl (H.set b .dead) := hc.kill b
          refine ⟨h1.row ?_, .sl (by simp), (VO.set _ _ _ (by simp [Xf])).trans (VO.push _ _)⟩
          have hm : H.n ≤ (H.set b .dead).n + 1 := by simp
          exact (((hxs.drop _).take _).append (((hys.drop _).take _).append ((hxs.drop _).take _))).mono hm
      · cases h
    · cases h
  · cases h
theorem none_ok : Wo P fun _ _ _ => none := by intro f args H v H' h; cases h
theorem none_ad : XC fun _ _ _ => none := by intro f args H v H' h; cases h
structure InsOK (P : Program) (hints : WE) (f : FuncId) (tS tI el : TypeId) (z : List Value) (fO fR : FuncId) : Prop where
  mixed : P.follows .mixedOrders = true
  body : ∀ (C : Yc) (n : Nat) (a0 a1 a2 : Value) (H : AHeap), dBodyK std P hints C n f [a0, a1, a2] H = insK std P C n tS tI fO fR a0 a1 a2 H (Yi P [.tmp 6])
  hS : P.underlying tS = some (.slice el)
  hI : P.underlying tI = some (.int .i64)
  hz : zrow P el = some z
  hsz : V2 P el = some z.length
  ovl : Ovl P tS fO
theorem InsOK.run {hints : WE} {f : FuncId} {tS tI el : TypeId} {z : List Value} {fO fR : FuncId} (I : InsOK P hints f tS tI el z fO fR) {n : Nat} {a0 a1 a2 v : Value} {H' : AHeap}
    (h : ∀ C K0, insK std P C n tS tI fO fR a0 a1 a2 H K0 = K0 .ret [(6, v)] H') : Qk P hints (fun _ _ _ => none) n f [a0, a1, a2] H = some (v, H') := by
  rw [← dBodyK_eq, I.body, h]
  rfl
theorem rv_even {ι : Emb} {b o l cc q : Nat} {v' : Value} (h : RV ι (.slice (some ⟨b, o, none⟩) l q) v') (hq : q = 2 * cc) (hl : l ≠ 0) : ∃ L, ι b = some L ∧ v' = .slice (some ⟨L.cb, L.base + o, none⟩) l cc ∧ l ≤ cc := by
  cases h with
  | sle h1 h2 =>
    have := Nat.eq_of_mul_eq_mul_left (by omega : 0 < 2) hq
    subst this
    exact ⟨_, h1, rfl, h2⟩
  | sli h1 _ _ _ => omega
  | sl0 h1 => exact absurd rfl hl
theorem ins_prim {hints : WE} {f : FuncId} {tS tI el : TypeId} {z : List Value} {fO fR : FuncId} (I : InsOK P hints f tS tI el z fO fR) :
    (XC fun _ args H => insP P hints f el z args H) ∧ Wo P fun g args H => if g = f then insP P hints f el z args H else none := by
  constructor
  · intro g args H v H' h hl ha
    replace h : insP P hints f el z args H = some (v, H') := h
    unfold insP at h
    split at h
    · rename_i r hr
      cases h
      exact body_ad none_ad 1 f args H v H' hr hl ha
    · exact insS_ad h hl ha
  · intro g args H v H' h2 hl had B ι w args' r ha
    by_cases hg : g = f
    · subst hg
      simp only [if_true] at h2
      unfold insP at h2
      split at h2
      · rename_i r0 hr
        cases h2
        exact QQ none_ok none_ad I.mixed 1 g args H v H' hr hl had B ι w args' r ha
      · have hOk := insS_ad h2 hl had
        unfold insS at h2
        split at h2
        · rename_i b o l code i bv ov m cv _
          split at h2
          · rename_i xs e ys ev hf1 hf2
            split at h2
            · rename_i hcond
              obtain ⟨hodd, rfl, hil, hlc, hm0, hb1, hb2, hne, htl, hend, hvfit, hx0, hn1, ht1, hz1⟩ := hcond
              cases ha with | cons ha1 t => cases t with | cons ha2 t => cases t with | cons ha3 t => cases t with | nil =>
              cases ha2
              cases ha1 with
              | sle hL hn => omega
              | sl0 hk => omega
              | sli hL hc hn ht =>
                rename_i c cc L _
                have hcode : (2 * c + 1) / 2 = c := by omega
                rw [hcode] at hlc hend h2
                have hblk := r.blk b L hL
                rw [hf1] at hblk
                obtain ⟨cs, e', fr, g1, g2, g3, g4, g5⟩ := hblk
                obtain ⟨gB, rfl, gsz, gfr⟩ := g5 rfl
                have hsz : L.sz = z.length := by rw [gsz]; exact sizeQ_cells I.hsz
                rw [hsz] at ht
                have hA : (i + m) * z.length = i * z.length + m * z.length := Nat.add_mul _ _ _
                have hT : (l - i) * z.length + i * z.length = l * z.length := by rw [← Nat.add_mul]; congr 1; omega
                have hlcz : l * z.length ≤ c * z.length := Nat.mul_le_mul_right _ hlc
                have hvl : ((ys.drop ov).take (m * z.length)).length = m * z.length := by simp; omega
                have htll : ((xs.drop (o + i * z.length)).take ((l - i) * z.length)).length = (l - i) * z.length := by simp; omega
                have hval : ∀ {Hx : AHeap}, Hx.n = H.n → ADs Hx.n [.slice (some ⟨b, o, none⟩) l (2 * cc), .int .i64 (.ofNat i), .slice (some ⟨bv, ov, none⟩) m cv] := by
                  intro Hx hn
                  rw [hn]
                  have k1 := had (.slice (some ⟨b, o, none⟩) l (2 * c + 1)) (by simp)
                  have k3 := had (.slice (some ⟨bv, ov, none⟩) m cv) (by simp)
                  refine ADs.cons ?_ (ADs.cons (.int _ _) (ADs.cons k3 ADs.nil))
                  cases k1; exact .sl (by assumption)
                have hargs : RVs ι [.slice (some ⟨b, o, none⟩) l (2 * cc), .int .i64 (.ofNat i), .slice (some ⟨bv, ov, none⟩) m cv] _ := .cons (.sle hL hn) (.cons (.int _ _) (.cons ha3 .nil))
                by_cases hroom : l + m ≤ cc
                · have hrm : (l + m) * z.length ≤ cc * z.length := Nat.mul_le_mul_right _ hroom
                  have hlm : (l + m) * z.length = l * z.length + m * z.length := Nat.add_mul _ _ _
                  by_cases hsure : l + m ≤ c
                  · rw [if_pos hsure] at h2
                    cases h2
                    have hrm' : (l + m) * z.length ≤ c * z.length := Nat.mul_le_mul_right _ hsure
                    have hrun := I.run (n := 1) (H := H) (fun C K0 => insK_room (C := C) (n := 1) (K0 := K0) (fR := fR) (tI := tI) (cv := cv) I.hS I.hsz I.ovl hil hm0 hroom (by omega) hf1 hne hf2 (by omega) htl (by intro h; subst h; simp at hx0)
                      (cut_ok hf1 (by omega)) (stL_ok hf1 (by rw [htll]; omega) ht1)
                      (cut_ok (xs := ys) (by rw [AHeap.set_other _ _ hne]; exact hf2) (by omega)) (stL_ok (AHeap.set_same _ _ _) (by rw [Xz, hvl]; omega) hn1))
                    refine (QQ none_ok none_ad I.mixed 1 g _ H _ _ hrun hl (hval rfl) B ι w _ r hargs).mono ?_
                    rintro e w' ⟨v', ι', rfl, k1, k2, k3⟩
                    refine ⟨v', ι', rfl, ?_, k2, k3⟩
                    have hL' : ι' b = some L := by rw [k3.ext b (r.dom b L hL)]; exact hL
                    obtain ⟨L', e1, rfl, _⟩ := rv_even k1 rfl (by omega)
                    rw [hL'] at e1
                    cases e1
                    exact .sli hL' hc hroom (by rw [hsz]; omega)
                  · rw [if_neg hsure] at h2
                    cases h2
                    have hbn : b < H.n := r.dom b L hL
                    have hcz : (cc - c) * z.length + c * z.length = cc * z.length := by rw [← Nat.add_mul]; congr 1; omega
                    have hxl : (xs ++ List.replicate ((cc - c) * z.length) top).length = o + cc * z.length := by rw [List.length_append, List.length_replicate]; omega
                    have hk : RB P B ι w L (.cells (xs ++ List.replicate ((cc - c) * z.length) top) e' true) := by
                      refine ⟨cs, e', fr, g1, g2, by rw [hxl]; omega, fun j u hj => ?_, fun _ => ⟨gB, rfl, gsz, gfr⟩⟩
                      by_cases hjx : j < xs.length
                      · rw [List.getElem?_append_left hjx] at hj
                        exact g4 j u hj
                      · have hjl := (List.getElem?_eq_some_iff.1 hj).1
                        rw [List.getElem?_append_right (by omega), List.getElem?_replicate] at hj
                        split at hj
                        · cases hj
                          exact ⟨_, Array.getElem?_eq_getElem (by omega), .unk _⟩
                        · cases hj
                    obtain ⟨rx, sx⟩ := r.turn hL (by rw [hf1]; rfl) _ (w' := w) hk rfl (fun _ _ => rfl) rfl rfl rfl
                    have htx : ((xs ++ List.replicate ((cc - c) * z.length) top).drop (o + i * z.length)).take ((l - i) * z.length) = (xs.drop (o + i * z.length)).take ((l - i) * z.length) := by
                      rw [List.drop_append_of_le_length (by omega), List.take_append_of_le_length (by rw [List.length_drop]; omega)]
                    have hclx : Cl (H.set b (.cells (xs ++ List.replicate ((cc - c) * z.length) top) e' true)) := by
                      refine hl.set b (fun _ _ _ hk => ?_) (fun _ hk => by cases hk)
                      cases hk
                      refine ADs.append (hl.cells _ _ _ _ hf1) fun u hu => ?_
                      rw [List.mem_replicate] at hu
                      rw [hu.2]
                      exact .unk
                    have hfit : o + i * z.length + (l - i) * z.length ≤ (xs ++ List.replicate ((cc - c) * z.length) top).length := by rw [hxl]; omega
                    have hfit2 : o + (i + m) * z.length + (l - i) * z.length ≤ (xs ++ List.replicate ((cc - c) * z.length) top).length := by rw [hxl]; omega
                    have hrun := I.run (n := 1) (H := H.set b (.cells (xs ++ List.replicate ((cc - c) * z.length) top) e' true)) (fun C K0 => insK_room (C := C) (n := 1) (K0 := K0) (fR := fR) (tI := tI) (cv := cv) I.hS I.hsz I.ovl hil hm0 hroom (by omega)
                      (AHeap.set_same _ _ _) hne (by rw [AHeap.set_other _ _ hne]; exact hf2) (by omega) htl (by intro h; rw [h] at hxl; simp at hxl; omega)
                      (cut_ok (AHeap.set_same _ _ _) hfit) (stL_ok (AHeap.set_same _ _ _) (by rw [htx, htll]; exact hfit2) (by rw [htx]; exact ht1))
                      (cut_ok (xs := ys) (by rw [AHeap.set_other _ _ hne, AHeap.set_other _ _ hne]; exact hf2) (by omega)) (stL_ok (AHeap.set_same _ _ _) (by rw [Xz, hvl, hxl]; omega) hn1))
                    refine (QQ none_ok none_ad I.mixed 1 g _ _ _ _ hrun hclx (hval rfl) B ι w _ rx hargs).mono ?_
                    rintro en w' ⟨v', ι', rfl, k1, k2, k3⟩
                    have k3 := sx.trans k3
                    have hL' : ι' b = some L := by rw [k3.ext b hbn]; exact hL
                    obtain ⟨L', e1, rfl, _⟩ := rv_even k1 rfl (by omega)
                    rw [hL'] at e1
                    cases e1
                    have hblk2 := k2.blk b L hL'
                    rw [AHeap.set_same] at hblk2
                    obtain ⟨cs2, e2, fr2, q1, q2, q3, q4, q5⟩ := hblk2
                    have q5 := q5 rfl
                    rw [Xz, Xz, hxl] at q3
                    have hnone : ι' H.n = none := by
                      cases hq : ι' H.n with
                      | none => rfl
                      | some M =>
                        have := (k2.lt _ M hq).1
                        simp at this
                    have hup : ∀ x M, ι' x = some M → up ι' H.n ⟨L.cb, L.base + o, L.sz, L.total⟩ x = some M := by
                      intro x M hx
                      have : x ≠ H.n := by rintro rfl; rw [hnone] at hx; cases hx
                      simp [up, this, hx]
                    have hnew : up ι' H.n ⟨L.cb, L.base + o, L.sz, L.total⟩ H.n = some ⟨L.cb, L.base + o, L.sz, L.total⟩ := by simp [up]
                    have hoth : ∀ x, x ≠ H.n → up ι' H.n ⟨L.cb, L.base + o, L.sz, L.total⟩ x = ι' x := fun x hx => by simp [up, hx]
                    have hfold : ∀ {k : Blk} {x : Nat}, x ≠ H.n → x ≠ b → ((H.set b .dead).push k).f x = H.f x := by
                      intro k x hx hxb
                      rw [AHeap.push_old (H.set b .dead) _ (show x ≠ (H.set b .dead).n from hx), AHeap.set_other _ _ hxb]
                    have hfb : ∀ {k : Blk}, ((H.set b .dead).push k).f b = .dead := by
                      intro k
                      rw [AHeap.push_old (H.set b .dead) _ (show b ≠ (H.set b .dead).n from Nat.ne_of_lt hbn), AHeap.set_same]
                    have hfn : ∀ {k : Blk}, ((H.set b .dead).push k).f H.n = k := fun {k} => AHeap.push_new (H.set b .dead) k
                    refine ⟨_, up ι' H.n ⟨L.cb, L.base + o, L.sz, L.total⟩, rfl, ?_, ⟨fun x M hx => ?_, fun x M hx => ?_, fun x y M M' hx hy hxy hox hay => ?_, k2.base, hOk.1.ver, k2.glob⟩,
                      ⟨fun x hx => ?_, hOk.2.2.n, k3.wn, k3.os, k3.tape, k3.output, k3.fr, fun x M hx hM => ?_, fun x M hx hM ho => ?_, hOk.2.2⟩⟩
                    · have := RV.sli (ι := up ι' H.n ⟨L.cb, L.base + o, L.sz, L.total⟩) (o := 0) (n := l + m) (c := l + m) (cc := cc) hnew hroom hroom (by simp only [hsz]; omega)
                      simpa using this
                    · by_cases hxn : x = H.n
                      · subst hxn
                        rw [hnew] at hx
                        cases hx
                        rw [hfn]
                        refine ⟨cs2, e2, fr2, q1, q2, ?_, fun j u hj => ?_, fun _ => q5⟩
                        · have holdl : ((xs.drop o).take (i * z.length)).length = i * z.length := by rw [List.length_take, List.length_drop]; omega
                          rw [List.length_append, List.length_append, hvl, htll, holdl]
                          show L.base + o + _ ≤ _
                          omega
                        · have hjl := (List.getElem?_eq_some_iff.1 hj).1
                          have holdl : ((xs.drop o).take (i * z.length)).length = i * z.length := by rw [List.length_take, List.length_drop]; omega
                          rw [List.length_append, List.length_append, hvl, htll, holdl] at hjl
                          have hic := ins_cells (xs := xs ++ List.replicate ((cc - c) * z.length) top) (new := (ys.drop ov).take (m * z.length)) (o := o) (A := i * z.length) (M := m * z.length) (T := (l - i) * z.length) (by rw [hxl]; omega) hvl (j := j) (by omega)
                          rw [htx, show ((xs ++ List.replicate ((cc - c) * z.length) top).drop o).take (i * z.length) = (xs.drop o).take (i * z.length) by
                            rw [List.drop_append_of_le_length (by omega), List.take_append_of_le_length (by rw [List.length_drop]; omega)]] at hic
                          rw [← hA] at hic
                          rw [← hic] at hj
                          obtain ⟨u', c1, c2⟩ := q4 (o + j) u (by rw [htx]; exact hj)
                          exact ⟨u', by rw [Nat.add_assoc]; exact c1, c2.mono hup⟩
                      · rw [hoth x hxn] at hx
                        by_cases hxb : x = b
                        · subst hxb
                          rw [hfb]
                          trivial
                        · rw [hfold hxn hxb]
                          have := k2.blk x M hx
                          rw [AHeap.set_other _ _ hxb, AHeap.set_other _ _ hxb, AHeap.set_other _ _ hxb] at this
                          exact this.mono hup
                    · by_cases hxn : x = H.n
                      · subst hxn
                        rw [hnew] at hx
                        cases hx
                        exact ⟨by simp, (k2.lt b L hL').2⟩
                      · rw [hoth x hxn] at hx
                        have := k2.lt x M hx
                        exact ⟨by have := this.1; simp at this ⊢; omega, this.2⟩
                    · have hob : XW (.cells (spl (spl (xs ++ List.replicate ((cc - c) * z.length) top) (o + (i + m) * z.length) (((xs ++ List.replicate ((cc - c) * z.length) top).drop (o + i * z.length)).take ((l - i) * z.length))) (o + i * z.length) ((ys.drop ov).take (m * z.length))) e' true) = true := rfl
                      by_cases hxn : x = H.n
                      · have hyn : y ≠ H.n := by rintro rfl; exact hxy hxn
                        subst hxn
                        rw [hnew] at hx
                        cases hx
                        rw [hoth y hyn] at hy
                        have hyb : y ≠ b := by rintro rfl; rw [hfb] at hay; simp [Xf] at hay
                        rw [hfold hyn hyb] at hay
                        exact k2.inj b y L M' hL' hy (Ne.symm hyb) (by rw [AHeap.set_same]; rfl) (by rw [AHeap.set_other _ _ hyb, AHeap.set_other _ _ hyb, AHeap.set_other _ _ hyb]; exact hay)
                      · rw [hoth x hxn] at hx
                        have hxb : x ≠ b := by rintro rfl; rw [hfb] at hox; simp [XW] at hox
                        rw [hfold hxn hxb] at hox
                        by_cases hyn : y = H.n
                        · subst hyn
                          rw [hnew] at hy
                          cases hy
                          exact k2.inj x b M L hx hL' hxb (by rw [AHeap.set_other _ _ hxb, AHeap.set_other _ _ hxb, AHeap.set_other _ _ hxb]; exact hox) (by rw [AHeap.set_same]; rfl)
                        · rw [hoth y hyn] at hy
                          have hyb : y ≠ b := by rintro rfl; rw [hfb] at hay; simp [Xf] at hay
                          rw [hfold hyn hyb] at hay
                          exact k2.inj x y M M' hx hy hxy (by rw [AHeap.set_other _ _ hxb, AHeap.set_other _ _ hxb, AHeap.set_other _ _ hxb]; exact hox) (by rw [AHeap.set_other _ _ hyb, AHeap.set_other _ _ hyb, AHeap.set_other _ _ hyb]; exact hay)
                    · rw [hoth x (Nat.ne_of_lt hx)]; exact k3.ext x hx
                    · by_cases hxn : x = H.n
                      · subst hxn
                        rw [hnew] at hM
                        cases hM
                        exact .inr ⟨b, L, hbn, hL, by rw [hf1]; rfl, rfl⟩
                      · rw [hoth x hxn] at hM
                        have := (k2.lt x M hM).1
                        simp at this
                        omega
                    · have hxn : x ≠ H.n := Nat.ne_of_lt hx
                      have hxb : x ≠ b := by rintro rfl; rw [hfb] at ho; simp [XW] at ho
                      rwa [hfold hxn hxb] at ho
                · have hsure : ¬ l + m ≤ c := by omega
                  rw [if_neg hsure] at h2
                  cases h2
                  have hbn : b < H.n := r.dom b L hL
                  have hbvn : bv < H.n := by
                    have k3 := had (.slice (some ⟨bv, ov, none⟩) m cv) (by simp)
                    cases k3
                    assumption
                  have holdl : ((xs.drop o).take (i * z.length)).length = i * z.length := by rw [List.length_take, List.length_drop]; omega
                  have hkk : (l + m - i) * z.length = (l - i) * z.length + m * z.length := by rw [← Nat.add_mul]; congr 1; omega
                  have hzl : (zeros z (l + m - i)).length = (l + m - i) * z.length := QH _ _
                  have ho : Qx z.length i H (some ⟨b, o, none⟩) = some ((xs.drop o).take (i * z.length)) := by
                    unfold Qx
                    split
                    · rename_i h0; subst h0; simp
                    · exact cut_ok hf1 (by omega)
                  have hrun := I.run (n := 1) (H := H) (fun C K0 => insK_new (C := C) (n := 1) (K0 := K0) (fO := fO) (fR := fR) (cv := cv) I.hS I.hI I.hz I.hsz hil hn hm0 (by omega) hb1 hb2 hz1 ho rfl
                    (cut_ok (xs := ys) (by rw [AHeap.push_old _ _ (Nat.ne_of_lt hbvn)]; exact hf2) (by omega)) (stL_ok (AHeap.push_new _ _) (by rw [List.length_append, holdl, hzl, hvl]; omega) hn1)
                    (cut_ok (xs := xs) (by rw [AHeap.set_other _ _ (Nat.ne_of_lt hbn), AHeap.push_old _ _ (Nat.ne_of_lt hbn)]; exact hf1) (by omega))
                    (stL_ok (AHeap.set_same _ _ _) (by rw [Xz, List.length_append, holdl, hzl, htll]; omega) ht1) (AHeap.set_same _ _ _))
                  refine (QQ none_ok none_ad I.mixed 1 g _ H _ _ hrun hl (hval rfl) B ι w _ r hargs).mono ?_
                  rintro en w' ⟨v', ι', rfl, k1, k2, k3⟩
                  have hrow := ins_row (old := (xs.drop o).take (i * z.length)) (zs := zeros z (l + m - i)) (new := (ys.drop ov).take (m * z.length)) (tail := (xs.drop (o + i * z.length)).take ((l - i) * z.length)) (by rw [hzl, hvl, htll]; omega)
                  rw [holdl, hvl, ← hA] at hrow
                  refine ⟨v', ι', rfl, k1, k2.less rfl (fun x => ?_) hOk.1.ver, k3.less rfl (fun x => ?_) hOk.2.2⟩
                  all_goals
                    by_cases hx : x = H.n
                    · left
                      subst hx
                      rw [AHeap.set_same, ← hrow]
                      exact AHeap.push_new (H.set b .dead) _
                    · by_cases hxb : x = b
                      · right
                        subst hxb
                        rw [AHeap.push_old (H.set x .dead) _ (show x ≠ (H.set x .dead).n from hx), AHeap.set_same]
                      · left
                        rw [AHeap.set_other _ _ hx, AHeap.set_other _ _ hx, AHeap.push_old H _ hx, AHeap.push_old (H.set b .dead) _ (show x ≠ (H.set b .dead).n from hx), AHeap.set_other _ _ hxb]
            · cases h2
          · cases h2
        · cases h2
    · simp [hg] at h2
end Go.Proofs.YtmiinbhnfojnbaaDoor.Eng

namespace Go.Proofs.YtmiinbhnfojnbaaDoor.Eng
open Go
def Evt {α : Type} (g : Nat → Option α) (r : α) : Prop := ∃ n0, ∀ n, n0 ≤ n → g n = some r
theorem Evt.uniq {α : Type} {g : Nat → Option α} {r s : α} (a : Evt g r) (b : Evt g s) : r = s := by
  obtain ⟨n, hn⟩ := a
  obtain ⟨m, hm⟩ := b
  have h := (hn (n + m) (by omega)).symm.trans (hm (n + m) (by omega))
  cases h
  rfl
theorem Evt.of_eq {α : Type} {x : Option α} {r : α} (h : x = some r) : Evt (fun _ => x) r := ⟨0, fun _ _ => h⟩
theorem Evt.bind {α β : Type} {g : Nat → Option α} {f : Nat → α → Option β} {a : α} {b : β} (h : Evt g a) (k : Evt (fun n => f n a) b) : Evt (fun n => (g n).bind (f n)) b := by
  obtain ⟨n, hn⟩ := h
  obtain ⟨m, hm⟩ := k
  refine ⟨n + m, fun i hi => ?_⟩
  dsimp only
  rw [hn i (by omega)]
  exact hm i (by omega)
theorem Evt.congr {α : Type} {g g' : Nat → Option α} {r : α} (h : Evt g r) (e : ∀ n, g' n = g n) : Evt g' r := by
  obtain ⟨n, hn⟩ := h
  exact ⟨n, fun i hi => (e i).trans (hn i hi)⟩
theorem Evt.succ {α : Type} {g : Nat → Option α} {r : α} (h : Evt (fun n => g (n + 1)) r) : Evt g r := by
  obtain ⟨n, hn⟩ := h
  refine ⟨n + 1, fun i hi => ?_⟩
  obtain ⟨j, rfl⟩ : ∃ j, i = j + 1 := ⟨i - 1, by omega⟩
  exact hn j (by omega)
open Classical in
noncomputable def lim {α : Type} (g : Nat → Option α) : Option α := if h : ∃ r, Evt g r then some h.choose else none
theorem ZD {α : Type} {g : Nat → Option α} {r : α} : lim g = some r ↔ Evt g r := by
  unfold lim
  constructor
  · intro h
    split at h
    · rename_i hx
      cases h
      exact hx.choose_spec
    · cases h
  · intro h
    have hx : ∃ r, Evt g r := ⟨r, h⟩
    rw [dif_pos hx]
    exact congrArg some (hx.choose_spec.uniq h)
theorem lim_none {α : Type} {g : Nat → Option α} (h : ∀ r, ¬ Evt g r) : lim g = none := by
  unfold lim
  rw [dif_neg]
  rintro ⟨r, hr⟩
  exact h r hr
theorem Ga {body : Env → AHeap → VC} {keep : List Nat} : ∀ {m m' : Nat} {T : Env} {H : AHeap} {r : DExit × Env × AHeap}, m ≤ m' → WJ body keep m T H = some r → WJ body keep m' T H = some r
  | 0, _, _, _, _, _, h => by simp [WJ] at h
  | m + 1, 0, _, _, _, hm, _ => by omega
  | m + 1, m' + 1, T, H, r, hm, h => by
    rw [WJ] at h ⊢
    cases hb : body (clr keep T) H with
    | none => rw [hb] at h; cases h
    | some x =>
      rw [hb] at h
      obtain ⟨e, T', H'⟩ := x
      cases e with
      | normal => exact Ga (by omega) h
      | exit i => exact h
      | ret => exact h
noncomputable def loopI (body : Env → AHeap → VC) (keep : List Nat) (T : Env) (H : AHeap) : VC := lim fun m => WJ body keep m T H
theorem Wn {body : Env → AHeap → VC} {keep : List Nat} {T : Env} {H : AHeap} {r : DExit × Env × AHeap} : loopI body keep T H = some r ↔ ∃ m, WJ body keep m T H = some r := by
  unfold loopI
  rw [ZD]
  constructor
  · rintro ⟨n, hn⟩
    exact ⟨n, hn n (Nat.le_refl _)⟩
  · rintro ⟨m, hm⟩
    exact ⟨m, fun i hi => Ga hi hm⟩
noncomputable def XA (P : Program) (N : Nat) (call : Yc) : DCode → Env → AHeap → VC
  | .skip, T, H => some (.normal, T, H)
  | .region _ ops draw, T, H => (if draw then QX P N call ops T H else ZS P N call ops ops.toList T H).map fun r => (.normal, r.1, r.2)
  | .seq a b, T, H => (XA P N call a T H).bind fun r =>
    match r.1 with
    | .normal => XA P N call b r.2.1 r.2.2
    | e => some (e, r.2.1, r.2.2)
  | .cond keep c x y, T, H =>
    match ev T c with
    | .bool b => (if b then XA P N call x T H else XA P N call y T H).map fun r => match r.1 with | .normal => (.normal, clr keep r.2.1, r.2.2) | e => (e, r.2.1, r.2.2)
    | _ => none
  | .block keep id b, T, H => (XA P N call b T H).map fun r =>
    match r.1 with
    | .normal => (.normal, clr keep r.2.1, r.2.2)
    | .exit j => if j = id then (.normal, clr keep r.2.1, r.2.2) else (.exit j, r.2.1, r.2.2)
    | .ret => (.ret, r.2.1, r.2.2)
  | .loop keep b, T, H => loopI (XA P N call b) keep T H
  | .exit id, T, H => some (.exit id, T, H)
  | .ret keep, T, H => some (.ret, clr keep T, H)
  | .bad _, _, _ => none
def CApx (C : Yc) (c : Nat → Yc) : Prop := ∀ f args H r, C f args H = some r → Evt (fun n => c n f args H) r
theorem step_apx {P : Program} {N : Nat} {C : Yc} {c : Nat → Yc} (hc : CApx C c) {ops : Array Oper} {o : Oper} {T : Env} {H : AHeap} {r : Value × AHeap}
    (h : UG P N C ops o T H = some r) : Evt (fun n => UG P N (c n) ops o T H) r := by
  unfold UG at h ⊢
  split at h
  · rename_i hd
    simp only [hd, if_true]
    split at h
    · rename_i hg
      split at h
      · rename_i ho; exact Evt.of_eq h
      · rename_i ho; exact hc _ _ _ _ h
      · cases h
    · exact Evt.of_eq h
    · cases h
  · cases h
theorem ops_apx {P : Program} {N : Nat} {C : Yc} {c : Nat → Yc} (hc : CApx C c) {ops : Array Oper} : ∀ (l : List Oper) {T : Env} {H : AHeap} {r : Env × AHeap},
    ZS P N C ops l T H = some r → Evt (fun n => ZS P N (c n) ops l T H) r
  | [], _, _, _, h => Evt.of_eq h
  | o :: l, T, H, r, h => by
    rw [ZS] at h
    obtain ⟨x, h1, h2⟩ := Option.bind_eq_some_iff.1 h
    exact Evt.bind (step_apx hc h1) (ops_apx hc l h2)
theorem trace_apx {P : Program} {N : Nat} {C : Yc} {c : Nat → Yc} (hc : CApx C c) {ops : Array Oper} : ∀ (l : List Oper) {T : Env} {H : AHeap} {r : List (Env × AHeap)},
    UI P N C ops l T H = some r → Evt (fun n => UI P N (c n) ops l T H) r
  | [], _, _, _, h => Evt.of_eq h
  | o :: l, T, H, r, h => by
    rw [UI] at h
    obtain ⟨x, h1, h2⟩ := Option.bind_eq_some_iff.1 h
    obtain ⟨y, h3, h4⟩ := Option.map_eq_some_iff.1 h2
    refine Evt.bind (step_apx hc h1) ?_
    obtain ⟨n, hn⟩ := trace_apx hc l h3
    exact ⟨n, fun i hi => by dsimp only at hn ⊢; rw [hn i hi]; exact congrArg some h4⟩
theorem draw_apx {P : Program} {N : Nat} {C : Yc} {c : Nat → Yc} (hc : CApx C c) {ops : Array Oper} {T : Env} {H : AHeap} {r : Env × AHeap}
    (h : QX P N C ops T H = some r) : Evt (fun n => QX P N (c n) ops T H) r := by
  unfold QX at h ⊢
  split at h
  · rename_i hd
    simp only [hd, if_true]
    obtain ⟨x, h1, h2⟩ := Option.bind_eq_some_iff.1 h
    exact Evt.bind (trace_apx hc _ h1) (Evt.of_eq h2)
  · cases h
theorem loop_apx {body : Env → AHeap → VC} {bodies : Nat → Env → AHeap → VC} (hb : ∀ T H r, body T H = some r → Evt (fun n => bodies n T H) r) (keep : List Nat) :
    ∀ (m : Nat) {T : Env} {H : AHeap} {r : DExit × Env × AHeap}, WJ body keep m T H = some r → ∃ n0, ∀ n, n0 ≤ n → ∀ m', m ≤ m' → WJ (bodies n) keep m' T H = some r
  | 0, _, _, _, h => by simp [WJ] at h
  | m + 1, T, H, r, h => by
    rw [WJ] at h
    obtain ⟨x, h1, h2⟩ := Option.bind_eq_some_iff.1 h
    obtain ⟨n1, hn1⟩ := hb _ _ _ h1
    dsimp only at hn1
    obtain ⟨e, T', H'⟩ := x
    cases e with
    | normal =>
      obtain ⟨n2, hn2⟩ := loop_apx hb keep m h2
      refine ⟨n1 + n2, fun n hn m' hm => ?_⟩
      obtain ⟨j, rfl⟩ : ∃ j, m' = j + 1 := ⟨m' - 1, by omega⟩
      rw [WJ, hn1 n (by omega)]
      exact hn2 n (by omega) j (by omega)
    | exit i =>
      refine ⟨n1, fun n hn m' hm => ?_⟩
      obtain ⟨j, rfl⟩ : ∃ j, m' = j + 1 := ⟨m' - 1, by omega⟩
      rw [WJ, hn1 n (by omega)]
      exact h2
    | ret =>
      refine ⟨n1, fun n hn m' hm => ?_⟩
      obtain ⟨j, rfl⟩ : ∃ j, m' = j + 1 := ⟨m' - 1, by omega⟩
      rw [WJ, hn1 n (by omega)]
      exact h2
theorem Qj {P : Program} {N : Nat} {C : Yc} {c : Nat → Yc} (hc : CApx C c) : ∀ (x : DCode) {T : Env} {H : AHeap} {r : DExit × Env × AHeap},
    XA P N C x T H = some r → Evt (fun n => Y5 P N (c n) n x T H) r
  | .skip, _, _, _, h => Evt.of_eq h
  | .region id ops draw, T, H, r, h => by
    rw [XA] at h
    obtain ⟨y, h1, h2⟩ := Option.map_eq_some_iff.1 h
    have key : Evt (fun n => if draw then QX P N (c n) ops T H else ZS P N (c n) ops ops.toList T H) y := by
      cases draw with
      | true => simp only [if_true] at h1 ⊢; exact draw_apx hc h1
      | false => simp only [Bool.false_eq_true, if_false] at h1 ⊢; exact ops_apx hc _ h1
    obtain ⟨n, hn⟩ := key
    dsimp only at hn
    exact ⟨n, fun i hi => by dsimp only; rw [Y5, hn i hi]; exact congrArg some h2⟩
  | .seq a b, T, H, r, h => by
    rw [XA] at h
    obtain ⟨y, h1, h2⟩ := Option.bind_eq_some_iff.1 h
    obtain ⟨n1, hn1⟩ := Qj hc a h1
    dsimp only at hn1
    obtain ⟨e, T', H'⟩ := y
    cases e with
    | normal =>
      obtain ⟨n2, hn2⟩ := Qj hc b h2
      dsimp only at hn2
      exact ⟨n1 + n2, fun i hi => by dsimp only; rw [Y5, hn1 i (by omega)]; exact hn2 i (by omega)⟩
    | exit j => exact ⟨n1, fun i hi => by dsimp only; rw [Y5, hn1 i hi]; exact h2⟩
    | ret => exact ⟨n1, fun i hi => by dsimp only; rw [Y5, hn1 i hi]; exact h2⟩
  | .cond keep q a b, T, H, r, h => by
    rw [XA] at h
    split at h
    · rename_i v hv
      obtain ⟨y, h1, h2⟩ := Option.map_eq_some_iff.1 h
      have key : Evt (fun n => if v then Y5 P N (c n) n a T H else Y5 P N (c n) n b T H) y := by
        cases v with
        | true => simp only [if_true] at h1 ⊢; exact Qj hc a h1
        | false => simp only [Bool.false_eq_true, if_false] at h1 ⊢; exact Qj hc b h1
      obtain ⟨n, hn⟩ := key
      dsimp only at hn
      exact ⟨n, fun i hi => by dsimp only; rw [Y5, hv]; simp only; rw [hn i hi]; exact congrArg some h2⟩
    · cases h
  | .block keep id b, T, H, r, h => by
    rw [XA] at h
    obtain ⟨y, h1, h2⟩ := Option.map_eq_some_iff.1 h
    obtain ⟨n, hn⟩ := Qj hc b h1
    dsimp only at hn
    exact ⟨n, fun i hi => by dsimp only; rw [Y5, hn i hi]; exact congrArg some h2⟩
  | .loop keep b, T, H, r, h => by
    rw [XA, Wn] at h
    obtain ⟨m, hm⟩ := h
    obtain ⟨n0, hn⟩ := loop_apx (fun T H r h => Qj hc b h) keep m hm
    exact ⟨n0 + m, fun i hi => by dsimp only; rw [Y5]; exact hn i (by omega) i (by omega)⟩
  | .exit id, _, _, _, h => Evt.of_eq h
  | .ret keep, _, _, _, h => Evt.of_eq h
  | .bad _, _, _, _, h => by cases h
abbrev Yv := (Env → AHeap → K → Res) → List Nat → Env → AHeap → K → Res
def Ym (c : Value) (x y : K → Res) (k : K) : Res :=
  match c with
  | .bool b => if b then x k else y k
  | _ => none
def Yg (f : K → Res) (k : K) : Res := f k
def YI (keep : List Nat) (id : Nat) (k : K) : K := fun e T H => match e with
  | .normal => k .normal (clr keep T) H
  | .exit j => if j = id then k .normal (clr keep T) H else k (.exit j) T H
  | .ret => k .ret T H
structure CombL where
  b : Comb
  c : Value → (K → Res) → (K → Res) → K → Res
  s : (K → Res) → K → Res
abbrev GT := Value → Bool → ((Value → AHeap → Res) → Res) → AHeap → (Value → AHeap → Res) → Res
abbrev CT := Value → (K → Res) → (K → Res) → K → Res
abbrev ST := (K → Res) → K → Res
def Yd : CombL := ⟨std, Ym, Yg⟩
theorem stdL_b : Yd.b = std := rfl
theorem stdL_g : Yd.b.g = Ye := rfl
theorem stdL_c : Yd.c = Ym := rfl
theorem stdL_s : Yd.s = Yg := rfl
def Vm (M : CombL) (P : Program) (N : Nat) (call : Yc) (LP : Yv) : DCode → Env → AHeap → K → Res
  | .skip, T, H, k => k .normal T H
  | .region _ ops draw, T, H, k => if draw then dDrawK M.b P N call ops T H (k .normal) else dOpsK M.b P N call ops ops.toList T H (k .normal)
  | .seq a b, T, H, k => Vm M P N call LP a T H (Ys (fun T' H' => Vm M P N call LP b T' H' k) k)
  | .cond keep c x y, T, H, k => M.c (ev T c) (fun k => Vm M P N call LP x T H (Yl keep k)) (fun k => Vm M P N call LP y T H (Yl keep k)) k
  | .block keep id b, T, H, k => M.s (fun k => Vm M P N call LP b T H (YI keep id k)) k
  | .loop keep b, T, H, k => LP (Vm M P N call LP b) keep (clr keep T) H k
  | .exit id, T, H, k => k (.exit id) T H
  | .ret keep, T, H, k => k .ret (clr keep T) H
  | .bad _, _, _, _ => none
noncomputable def Yo : Yv := fun body keep T H k => lim fun m => dLoopK body keep m T H k
theorem ZY {body : Env → AHeap → VC} {bodyK : Env → AHeap → K → Res} (hb : PieceK body bodyK) (keep : List Nat) (T : Env) (H : AHeap) (k : K) :
    Yo bodyK keep (clr keep T) H k = (loopI body keep T H).bind fun r => k r.1 r.2.1 r.2.2 := by
  unfold Yo
  have e : (fun m => dLoopK bodyK keep m (clr keep T) H k) = fun m => (WJ body keep m T H).bind fun r => k r.1 r.2.1 r.2.2 := funext fun m => dLoopK_eq hb keep m T H k
  rw [e]
  cases h : loopI body keep T H with
  | none =>
    refine lim_none fun r ⟨n, hn⟩ => ?_
    obtain ⟨x, hx, _⟩ := Option.bind_eq_some_iff.1 (hn n (Nat.le_refl _))
    rw [Wn.2 ⟨n, hx⟩] at h
    cases h
  | some x =>
    obtain ⟨m, hm⟩ := Wn.1 h
    simp only [Option.bind_some]
    cases hk : k x.1 x.2.1 x.2.2 with
    | none =>
      refine lim_none fun r ⟨n, hn⟩ => ?_
      have := hn (n + m) (by omega)
      dsimp only at this
      rw [Ga (by omega) hm] at this
      simp only [Option.bind_some, hk] at this
      cases this
    | some r => exact ZD.2 ⟨m, fun i hi => by dsimp only; rw [Ga hi hm]; exact hk⟩
theorem loopI_unfold {body : Env → AHeap → VC} {keep : List Nat} {T : Env} {H : AHeap} : loopI body keep T H = (body (clr keep T) H).bind fun r =>
    match r.1 with
    | .normal => loopI body keep r.2.1 r.2.2
    | e => some (e, r.2.1, r.2.2) := by
  cases hb : body (clr keep T) H with
  | none =>
    cases h : loopI body keep T H with
    | none => rfl
    | some x =>
      obtain ⟨m, hm⟩ := Wn.1 h
      cases m with
      | zero => simp [WJ] at hm
      | succ m => rw [WJ, hb] at hm; cases hm
  | some y =>
    obtain ⟨e, T', H'⟩ := y
    cases e with
    | normal =>
      simp only [Option.bind_some]
      cases h : loopI body keep T' H' with
      | none =>
        cases h' : loopI body keep T H with
        | none => rfl
        | some x =>
          obtain ⟨m, hm⟩ := Wn.1 h'
          cases m with
          | zero => simp [WJ] at hm
          | succ m =>
            rw [WJ, hb] at hm
            rw [Wn.2 ⟨m, hm⟩] at h
            cases h
      | some x =>
        obtain ⟨m, hm⟩ := Wn.1 h
        exact Wn.2 ⟨m + 1, by rw [WJ, hb]; exact hm⟩
    | exit i => exact Wn.2 ⟨1, by rw [WJ, hb]; rfl⟩
    | ret => exact Wn.2 ⟨1, by rw [WJ, hb]; rfl⟩
theorem WQ {P : Program} {N : Nat} {call : Yc} : ∀ (c : DCode), PieceK (XA P N call c) (Vm Yd P N call Yo c)
  | .skip => fun _ _ _ => rfl
  | .region id ops draw => fun T H k => by
    rw [Vm, XA]
    cases draw with
    | false =>
      simp only [Bool.false_eq_true, if_false, stdL_b]
      rw [dOpsK_eq]
      cases ZS P N call ops ops.toList T H <;> rfl
    | true =>
      simp only [if_true, stdL_b]
      rw [dDrawK_eq]
      cases QX P N call ops T H <;> rfl
  | .seq a b => fun T H k => by
    rw [Vm, XA, WQ a]
    cases XA P N call a T H with
    | none => rfl
    | some r =>
      obtain ⟨e, T', H'⟩ := r
      cases e with
      | normal => simp only [Option.bind_some, Ys]; exact WQ b T' H' k
      | exit i => rfl
      | ret => rfl
  | .cond keep c x y => fun T H k => by
    rw [Vm, XA, stdL_c]
    unfold Ym
    cases ev T c with
    | bool b =>
      cases b with
      | true =>
        have hx := WQ (P := P) (N := N) (call := call) x T H (Yl keep k)
        simp only [if_true]
        rw [hx]
        cases XA P N call x T H with
        | none => rfl
        | some r => obtain ⟨e, T', H'⟩ := r; cases e <;> rfl
      | false =>
        have hy := WQ (P := P) (N := N) (call := call) y T H (Yl keep k)
        simp only [Bool.false_eq_true, if_false]
        rw [hy]
        cases XA P N call y T H with
        | none => rfl
        | some r => obtain ⟨e, T', H'⟩ := r; cases e <;> rfl
    | _ => rfl
  | .block keep id b => fun T H k => by
    rw [Vm, XA, stdL_s]
    unfold Yg
    dsimp only
    rw [WQ b]
    cases XA P N call b T H with
    | none => rfl
    | some r =>
      obtain ⟨e, T', H'⟩ := r
      cases e with
      | normal => rfl
      | exit j => simp only [Option.bind_some, Option.map_some, YI]; split <;> rfl
      | ret => rfl
  | .loop keep b => fun T H k => by
    rw [Vm, XA]
    exact ZY (WQ b) keep T H k
  | .exit id => fun _ _ _ => rfl
  | .ret keep => fun _ _ _ => rfl
  | .bad c => fun _ _ _ => rfl
def roundK (loop : Env → AHeap → K → Res) (keep : List Nat) (k : K) : K := fun e T H => match e with
  | .normal => loop (clr keep T) H k
  | .exit i => k (.exit i) T H
  | .ret => k .ret T H
theorem limLP_round {P : Program} {N : Nat} {call : Yc} (c : DCode) (keep : List Nat) {T : Env} (hT : clr keep T = T) (H : AHeap) (k : K) :
    Yo (Vm Yd P N call Yo c) keep T H k = Vm Yd P N call Yo c T H (roundK (Yo (Vm Yd P N call Yo c) keep) keep k) := by
  have e1 := ZY (WQ (P := P) (N := N) (call := call) c) keep T H k
  rw [hT] at e1
  rw [e1, loopI_unfold, hT, WQ c]
  cases XA P N call c T H with
  | none => rfl
  | some r =>
    obtain ⟨e, T', H'⟩ := r
    cases e with
    | normal => simp only [Option.bind_some, roundK]; exact (ZY (WQ (P := P) (N := N) (call := call) c) keep T' H' k).symm
    | exit i => rfl
    | ret => rfl
def Yy (M : CombL) (P : Program) (hints : WE) (call : Yc) (LP : Yv) (f : FuncId) (args : List Value) (H : AHeap) : Res :=
  match P.funcs[f]? with
  | some fn => match fn.body with
    | some c => Vm M P fn.ntmps call LP (note c (hints f)).1 (Ur 0 args) H (Yi P fn.results.toList)
    | none => none
  | none => none
def Uz (M : CombL) (P : Program) (hints : WE) (call : Yc) (LP : Yv) (f : FuncId) (i : Nat) : Env → AHeap → K → Res := Vm M P (Xn P f) call LP (loopOf P hints f i).2
def YH (M : CombL) (P : Program) (hints : WE) (call : Yc) (LP : Yv) (f : FuncId) (i : Nat) : Env → AHeap → K → Res := LP (Uz M P hints call LP f i) (loopOf P hints f i).1
theorem loopL_round {P : Program} {hints : WE} {call : Yc} {f : FuncId} {i : Nat} {keep : List Nat} (hk : (loopOf P hints f i).1 = keep) {T : Env} (hT : clr keep T = T) (H : AHeap) (k : K) :
    YH Yd P hints call Yo f i T H k = Uz Yd P hints call Yo f i T H (roundK (YH Yd P hints call Yo f i) keep k) := by
  subst hk
  exact limLP_round _ _ hT H k
theorem roundK_eq (loop : Env → AHeap → K → Res) (keep : List Nat) (k : K) : roundK loop keep k = Yl keep (Ys (fun T H => loop T H k) k) := by
  funext e T H
  cases e <;> rfl
theorem Xe {P : Program} {hints : WE} {call : Yc} {f : FuncId} {i : Nat} {keep : List Nat} (hk : (loopOf P hints f i).1 = keep) {T : Env} (hT : clr keep T = T) (H : AHeap) (k : K) :
    YH Yd P hints call Yo f i T H k = Uz Yd P hints call Yo f i T H (Yl keep (Ys (fun T H => YH Yd P hints call Yo f i T H k) k)) := by
  rw [loopL_round hk hT, roundK_eq]
noncomputable def D (P : Program) (prims : ZO) (hints : WE) : Yc := fun f args H => lim fun n => UW P prims hints n f args H
theorem D_apx (P : Program) (prims : ZO) (hints : WE) : CApx (D P prims hints) (UW P prims hints) := fun _ _ _ _ h => ZD.1 h
theorem YA {P : Program} {prims : ZO} {hints : WE} {f : FuncId} {args : List Value} {H : AHeap} {r : Value × AHeap} (hp : prims f = none)
    (h : Yy Yd P hints (D P prims hints) Yo f args H = some r) : D P prims hints f args H = some (tidy H r) := by
  refine ZD.2 (Evt.succ ?_)
  have key : Evt (fun n => Qk P hints (UW P prims hints n) n f args H) r := by
    unfold Yy at h
    unfold Qk
    cases hf : P.funcs[f]? with
    | none => rw [hf] at h; cases h
    | some fn =>
      rw [hf] at h
      simp only at h ⊢
      cases hb : fn.body with
      | none => rw [hb] at h; cases h
      | some c =>
        rw [hb] at h
        simp only at h ⊢
        rw [WQ] at h
        obtain ⟨x, h1, h2⟩ := Option.bind_eq_some_iff.1 h
        refine Evt.bind (Qj (D_apx P prims hints) _ h1) (Evt.of_eq ?_)
        obtain ⟨e, T, H1⟩ := x
        cases e with
        | exit i => cases h2
        | normal =>
          simp only [Yi, Ww] at h2
          obtain ⟨l, hl, h3⟩ := Option.bind_eq_some_iff.1 h2
          simp only [hl, Option.map_some]
          exact h3
        | ret =>
          simp only [Yi, Ww] at h2
          obtain ⟨l, hl, h3⟩ := Option.bind_eq_some_iff.1 h2
          simp only [hl, Option.map_some]
          exact h3
  obtain ⟨n, hn⟩ := key
  dsimp only at hn
  refine ⟨n, fun i hi => ?_⟩
  simp only [UW, hp]
  rw [hn i hi]
  rfl
theorem D_prim {P : Program} {prims : ZO} {hints : WE} {f : FuncId} {p : List Value → AHeap → Res} {args : List Value} {H : AHeap} {r : Value × AHeap} (hp : prims f = some p)
    (h : p args H = some r) : D P prims hints f args H = some r := by
  refine ZD.2 ⟨1, fun n hn => ?_⟩
  obtain ⟨m, rfl⟩ : ∃ m, n = m + 1 := ⟨n - 1, by omega⟩
  simp only [UW, hp]
  exact h
theorem D_run {P : Program} {prims : ZO} {hints : WE} {f : FuncId} {args : List Value} {H : AHeap} {r : Value × AHeap} (h : D P prims hints f args H = some r) :
    ∃ n, UW P prims hints n f args H = some r := by
  obtain ⟨n, hn⟩ := ZD.1 h
  exact ⟨n, hn n (Nat.le_refl _)⟩
end Go.Proofs.YtmiinbhnfojnbaaDoor.Eng
