/-
  The engine, part 19: slices.Insert: what the engine's run of its text comes to, where the capacity is known: room, or none.
  Conditions: none. By an AI agent.
-/
import Derived.Test.YtlagijfkkpbbnaaEng18
set_option linter.unusedVariables false
namespace Go.Proofs.Ytlagijfkkpbbnaa.Eng
open Go

variable {P : Program} {H H' : AHeap}

theorem bareK_step {x : Option Value} {v : Value} {k : Value → AHeap → Res} {r : Res} (h : x = some v) (hk : k v H = r) : bareK x H k = r := by rw [h]; exact hk
theorem bothK_step {x : Option (Value × AHeap)} {v : Value} {k : Value → AHeap → Res} {r : Res} (h : x = some (v, H')) (hk : k v H' = r) : bothK x k = r := by rw [h]; exact hk
theorem c_true {x y : K → Res} {keep : List Nat} {k : K} {r : Res} (h : x (afterK keep k) = r) : std.c (.bool true) x y keep k = r := h
theorem c_false {x y : K → Res} {keep : List Nat} {k : K} {r : Res} (h : y (afterK keep k) = r) : std.c (.bool false) x y keep k = r := h
theorem after_n {keep : List Nat} {T : Env} {f : Env → AHeap → Res} {k : K} {r : Res} (h : f (clr keep T) H = r) : afterK keep (seqK f k) .normal T H = r := h
theorem after_r {keep : List Nat} {T : Env} {f : Env → AHeap → Res} {k : K} {r : Res} (h : k .ret T H = r) : afterK keep (seqK f k) .ret T H = r := h

/-- x[i:] of a slice of known capacity. -/
theorem sl_from {t e : TypeId} {sz b o l c i : Nat} {q : IntKind} (hS : P.underlying t = some (.slice e)) (hq : sizeQ P e = some sz) (hi : i ≤ l) (hl : l ≤ c) :
    xslice P t (.slice (some ⟨b, o, none⟩) l (2 * c)) (some (.int q i)) none none H = some (.slice (some ⟨b, if c = i then o else o + i * sz, none⟩) (l - i) (2 * (c - i))) := by
  have h1 : 2 * c / 2 = c := by omega
  have h2 : 2 * c % 2 = 0 := by omega
  have h3 : (i : Int) ≤ l := by omega
  simp [xslice, hS, hq, slS, highOf, lowOf, bnd, h1, h2, hl, hi]

/-- x[:h]. -/
theorem sl_to {t e : TypeId} {sz b o l c h : Nat} {q : IntKind} (hS : P.underlying t = some (.slice e)) (hq : sizeQ P e = some sz) (hh : h ≤ c) (h0 : c ≠ 0) :
    xslice P t (.slice (some ⟨b, o, none⟩) l (2 * c)) none (some (.int q h)) none H = some (.slice (some ⟨b, o, none⟩) h (2 * c)) := by
  have h1 : 2 * c / 2 = c := by omega
  have h2 : 2 * c % 2 = 0 := by omega
  simp [xslice, hS, hq, slS, highOf, lowOf, bnd, h1, h2, h0, hh]

/-- x[i:] of a row that was appended to. -/
theorem sl_from' {t e : TypeId} {sz b o l c i : Nat} {q : IntKind} {xs : List Value} (hS : P.underlying t = some (.slice e)) (hq : sizeQ P e = some sz) (hi : i ≤ l) (hl : l ≤ c) (hb : H.f b = .cells xs e true) :
    xslice P t (.slice (some ⟨b, o, none⟩) l (2 * c + 1)) (some (.int q i)) none none H = some (.slice (some ⟨b, o + i * sz, none⟩) (l - i) (2 * (c - i) + 1)) := by
  have h1 : (2 * c + 1) / 2 = c := by omega
  have h2 : (2 * c + 1) % 2 = 1 := by omega
  have h3 : (i : Int) ≤ l := by omega
  simp [xslice, hS, hq, slS, highOf, lowOf, bnd, h1, h2, hl, hi, hb, rowOf]

theorem len_sl {t e : TypeId} {a : Option Addr} {l c : Nat} (hS : P.underlying t = some (.slice e)) {ts : List TypeId} : xlen P (t :: ts) (.slice a l c) = some (goInt l) := by
  simp [xlen, hS]

theorem copy_sl {t e : TypeId} {sz b o dl dc b' o' sl sc m : Nat} {ts : List TypeId} {l : List Value} (hS : P.underlying t = some (.slice e)) (hq : sizeQ P e = some sz) (hm : Nat.min sl dl = m) (h0 : m ≠ 0)
    (hc : cut H b' o' (m * sz) = some l) (hs : stL H b o l = some H') : xcopy P (t :: ts) (.slice (some ⟨b, o, none⟩) dl dc) (.slice (some ⟨b', o', none⟩) sl sc) H = some (goInt m, H') := by
  simp [xcopy, hS, hq, cpy, hm, h0, hc, hs]

/-- slices.overlaps, as it stands in the program. -/
structure Ovl (P : Program) (tS : TypeId) (fO : FuncId) : Prop where
  fn : ∃ fn, P.funcs[fO]? = some fn ∧ fn.name ≠ "runtime.NumGoroutine" ∧ fn.body.isSome = false ∧ fn.origin = "slices.overlaps" ∧ noRow fn.name = true ∧ fn.params.toList = [tS, tS]

theorem ovl_call {C : CallF} {tS el ev : TypeId} {fO : FuncId} (hO : Ovl P tS fO) (hS : P.underlying tS = some (.slice el)) {sz : Nat} (hq : sizeQ P el = some sz) {b o l c b' o' l' c' : Nat} {xs ys : List Value} {e' : TypeId} {rw' : Bool}
    (hb : H.f b = .cells xs ev true) (hb' : H.f b' = .cells ys e' rw') (hy : ys ≠ []) (hne : b ≠ b') (ht : tailQ P ev = 1) (ho : o ≤ xs.length) (h0 : l ≠ 0) (h1 : l' ≠ 0) {k : Value → AHeap → Res} :
    callK P C (.func (.func fO) #[] #[]) [.slice (some ⟨b, o, none⟩) l c, .slice (some ⟨b', o', none⟩) l' c'] H k = k (.bool false) H := by
  obtain ⟨fn, h2, h3, h4, h5, h6, h7⟩ := hO.fn
  cases ys with
  | nil => exact absurd rfl hy
  | cons y ys =>
    simp [callK, h2, h3, h4, xext, h5, h6, h0, h1, hb, hb', h7, hS, hne, ht, hq, ho, bareK]

def insK (M : Comb) (P : Program) (C : CallF) (n : Nat) (tS tI : TypeId) (fO fR : FuncId) (a0 : Value) (a1 : Value) (a2 : Value) (H : AHeap) (K0 : K) : Res :=
bareK (xslice P tS a0 (some a1) none none H) H fun t12 h1 =>
bareK (xlen P [tS] a2) h1 fun t14 h2 =>
bareK (xbin P .eql tI (.tmp 15) (.const (.int .i64 0)) t14 (.int .i64 0)) h2 fun t16 h3 =>
M.c t16 (fun k1 => k1 .ret [(6, a0)] h3) (fun k1 => k1 .normal [(16, t16), (15, t14), (7, t14), (14, t14), (13, a2), (12, t12), (11, a1), (10, a0), (6, (.slice none 0 0)), (0, a0), (1, a1), (2, a2)] h3) [0, 1, 2, 7] (seqK (fun tT h4 =>
bareK (xlen P [tS] (get tT 0)) h4 fun t19 h5 =>
bareK (xbin P .eql tI (.tmp 20) (.tmp 21) (get tT 1) t19) h5 fun t22 h6 =>
M.c t22 (fun k2 => bothK (xappend P [tS, tS] (get tT 0) (get tT 2) h6) fun t25 h7 =>
k2 .ret [(6, t25)] h7) (fun k2 => k2 .normal ((22, t22) :: (21, t19) :: (20, (get tT 1)) :: (8, t19) :: (19, t19) :: (18, (get tT 0)) :: tT) h6) [0, 1, 2, 7, 8] (seqK (fun tT_1 h8 =>
bareK (xbin P .add tI (.tmp 26) (.tmp 27) (get tT_1 8) (get tT_1 7)) h8 fun t28 h9 =>
nextK C h9 (xbuiltin P .cap [tS] [(get tT_1 0)] h9) fun t30 h10 =>
bareK (xbin P .gtr tI (.tmp 28) (.tmp 30) t28 t30) h10 fun t31 h11 =>
M.c t31 (fun k3 => bareK (xslice P tS (get tT_1 0) none (some (get tT_1 1)) none h11) h11 fun t34 h12 =>
bareK (xbin P .add tI (.tmp 35) (.tmp 36) (get tT_1 8) (get tT_1 7)) h12 fun t37 h13 =>
bareK (xbin P .sub tI (.tmp 37) (.tmp 38) t37 (get tT_1 1)) h13 fun t39 h14 =>
bothK (xappend P [tS, tI] t34 t39 h14) fun t40 h15 =>
bareK (xslice P tS t40 (some (get tT_1 1)) none none h15) h15 fun t43 h16 =>
bothK (xcopy P [tS, tS] t43 (get tT_1 2) h16) fun t45 h17 =>
bareK (xbin P .add tI (.tmp 47) (.tmp 48) (get tT_1 1) (get tT_1 7)) h17 fun t49 h18 =>
bareK (xslice P tS t40 (some t49) none none h18) h18 fun t50 h19 =>
bareK (xslice P tS (get tT_1 0) (some (get tT_1 1)) none none h19) h19 fun t53 h20 =>
bothK (xcopy P [tS, tS] t50 t53 h20) fun t54 h21 =>
checkK true <|
k3 .ret [(6, t40)] h21) (fun k3 => k3 .normal ((31, t31) :: (30, t30) :: (29, (get tT_1 0)) :: (28, t28) :: (27, (get tT_1 7)) :: (26, (get tT_1 8)) :: tT_1) h11) [0, 1, 2, 7, 8] (seqK (fun tT_2 h22 =>
bareK (xbin P .add tI (.tmp 57) (.tmp 58) (get tT_2 8) (get tT_2 7)) h22 fun t59 h23 =>
bareK (xslice P tS (get tT_2 0) none (some t59) none h23) h23 fun t60 h24 =>
bareK (xbin P .add tI (.tmp 63) (.tmp 64) (get tT_2 1) (get tT_2 7)) h24 fun t65 h25 =>
bareK (xslice P tS t60 (some t65) none none h25) h25 fun t66 h26 =>
callK P C (.func (.func fO) #[] #[]) [(get tT_2 2), t66] h26 fun t67 h27 =>
bareK (xun P .not t67) h27 fun t68 h28 =>
M.c t68 (fun k4 => bareK (xbin P .add tI (.tmp 70) (.tmp 71) (get tT_2 1) (get tT_2 7)) h28 fun t72 h29 =>
bareK (xslice P tS t60 (some t72) none none h29) h29 fun t73 h30 =>
bareK (xslice P tS t60 (some (get tT_2 1)) none none h30) h30 fun t76 h31 =>
bothK (xcopy P [tS, tS] t73 t76 h31) fun t77 h32 =>
checkK true <|
bareK (xslice P tS t60 (some (get tT_2 1)) none none h32) h32 fun t80 h33 =>
bothK (xcopy P [tS, tS] t80 (get tT_2 2) h33) fun t82 h34 =>
k4 .ret [(6, t60)] h34) (fun k4 => k4 .normal ((68, t68) :: (67, t67) :: (66, t66) :: (65, t65) :: (64, (get tT_2 7)) :: (63, (get tT_2 1)) :: (62, t60) :: (61, (get tT_2 2)) :: (0, t60) :: (60, t60) :: (59, t59) :: (58, (get tT_2 7)) :: (57, (get tT_2 8)) :: (56, (get tT_2 0)) :: tT_2) h28) [0, 1, 2, 7, 8] (seqK (fun tT_3 h35 =>
bareK (xslice P tS (get tT_3 0) (some (get tT_3 8)) none none h35) h35 fun t86 h36 =>
bothK (xcopy P [tS, tS] t86 (get tT_3 2) h36) fun t88 h37 =>
bareK (xslice P tS (get tT_3 0) (some (get tT_3 1)) none none h37) h37 fun t91 h38 =>
enterK C fR [t91, (get tT_3 7)] h38 fun t93 h39 =>
K0 .ret [(6, (get tT_3 0))] h39) K0)) K0)) K0)) K0)
/-- THERE IS ROOM: in place. -/
theorem insK_room {C : CallF} {n : Nat} {tS tI el ev : TypeId} {fO fR : FuncId} {K0 : K} (hS : P.underlying tS = some (.slice el)) {sz : Nat} (hq : sizeQ P el = some sz) (hO : Ovl P tS fO)
    {b o l c i m bv ov cv : Nat} {xs ys new old : List Value} (hi : i < l) (hm : m ≠ 0) (hroom : l + m ≤ c) (hbig : l + m < 4611686018427387904) (hH : H.f b = .cells xs el true) (hne : bv ≠ b)
    (hv : H.f bv = .cells ys ev true) (hov : ov ≤ ys.length) (htl : tailQ P ev = 1) (hxs : xs ≠ [])
    (hcut : cut H b (o + i * sz) ((l - i) * sz) = some old) (hst : stL H b (o + (i + m) * sz) old = some H')
    (hcut2 : cut H' bv ov (m * sz) = some new) {H2 : AHeap} (hst2 : stL H' b (o + i * sz) new = some H2) :
    insK std P C n tS tI fO fR (.slice (some ⟨b, o, none⟩) l (2 * c)) (.int .i64 i) (.slice (some ⟨bv, ov, none⟩) m cv) H K0 = K0 .ret [(6, .slice (some ⟨b, o, none⟩) (l + m) (2 * c))] H2 := by
  have w1 : IntKind.wrap .i64 ((l : Int) + m) = ((l + m : Nat) : Int) := by rw [wrap64 (by omega) (by omega)]; simp
  have w2 : IntKind.wrap .i64 ((i : Int) + m) = ((i + m : Nat) : Int) := by rw [wrap64 (by omega) (by omega)]; simp
  unfold insK
  refine bareK_step (sl_from hS hq (by omega) (by omega)) ?_
  refine bareK_step (len_sl hS) ?_
  refine bareK_step (v := .bool false) (by rw [goInt, xbin_eql]; simp; omega) ?_
  refine c_false ?_
  refine after_n ?_
  refine bareK_step (len_sl (l := l) (c := 2 * c) (a := some ⟨b, o, none⟩) hS) ?_
  refine bareK_step (v := .bool false) (by refine Eq.trans (xbin_eql (a := (i : Int)) (b := (l : Int))) ?_; simp; omega) ?_
  refine c_false ?_
  refine after_n ?_
  refine bareK_step (v := .int .i64 ((l + m : Nat) : Int)) (by refine Eq.trans (xbin_add (a := (l : Int)) (b := (m : Int))) ?_; rw [w1]) ?_
  refine Eq.trans (b := nextK C H (some (.val (goInt c) H)) _) (by
    have : xbuiltin P .cap [tS] [.slice (some ⟨b, o, none⟩) l (2 * c)] H = some (.val (goInt c) H) := by
      simp [xbuiltin, bare, xcap, hS]
    exact congrArg (fun x => nextK C H x _) this) ?_
  refine Eq.trans nextK_val ?_
  refine bareK_step (v := .bool false) (by refine Eq.trans (xbin_gtr (a := ((l + m : Nat) : Int)) (b := (c : Int))) ?_; simp; omega) ?_
  refine c_false ?_
  refine after_n ?_
  refine bareK_step (v := .int .i64 ((l + m : Nat) : Int)) (by refine Eq.trans (xbin_add (a := (l : Int)) (b := (m : Int))) ?_; rw [w1]) ?_
  refine bareK_step (sl_to (l := l) (b := b) (o := o) (c := c) (h := l + m) hS hq (by omega) (by omega)) ?_
  refine bareK_step (v := .int .i64 ((i + m : Nat) : Int)) (by refine Eq.trans (xbin_add (a := (i : Int)) (b := (m : Int))) ?_; rw [w2]) ?_
  refine bareK_step (sl_from hS hq (by omega) (by omega)) ?_
  refine Eq.trans (ovl_call hO hS hq hv hH hxs hne htl hov hm (by omega)) ?_
  refine bareK_step xun_not ?_
  refine c_true ?_
  refine bareK_step (v := .int .i64 ((i + m : Nat) : Int)) (by refine Eq.trans (xbin_add (a := (i : Int)) (b := (m : Int))) ?_; rw [w2]) ?_
  refine bareK_step (sl_from hS hq (by omega) (by omega)) ?_
  refine bareK_step (sl_from (i := i) hS hq (by omega) (by omega)) ?_
  have e1 : (if c = i + m then o else o + (i + m) * sz) = o + (i + m) * sz := by rw [if_neg (by omega)]
  have e2 : (if c = i then o else o + i * sz) = o + i * sz := by rw [if_neg (by omega)]
  rw [e1, e2]
  refine bothK_step (copy_sl (m := l - i) hS hq (by show min _ _ = _; omega) (by omega) hcut hst) ?_
  refine Eq.trans checkK_true ?_
  refine bareK_step (sl_from (i := i) hS hq (by omega) (by omega)) ?_
  rw [e2]
  refine bothK_step (copy_sl (m := m) hS hq (by show min _ _ = _; omega) hm hcut2 hst2) ?_
  exact after_r rfl

/-- append(s[:i], make(S, k)...) where there is no room: a new row. -/
theorem app_zeros {tS tI el : TypeId} (hS : P.underlying tS = some (.slice el)) (hI : P.underlying tI = some (.int .i64)) {z : List Value} (hz : zrow P el = some z) {b o c i k : Nat} {old : List Value}
    (hk : k ≠ 0) (hno : c < i + k) (hb1 : (i + k) * P.bytesOf el ≤ 140737488355328) (hb2 : i + k ≤ 140737488355328) (h1 : (zeros z k).all one = true) (ho : oldOf z.length i H (some ⟨b, o, none⟩) = some old) :
    xappend P [tS, tI] (.slice (some ⟨b, o, none⟩) i (2 * c)) (.int .i64 k) H = some (.slice (some ⟨H.n, 0, none⟩) (i + k) (2 * (i + k) + 1), H.push (.cells (old ++ zeros z k) el true)) := by
  have h2 : 2 * c / 2 = c := by omega
  have h3 : 2 * c % 2 = 0 := by omega
  have h4 : k * P.bytesOf el ≤ 140737488355328 := Nat.le_trans (Nat.mul_le_mul_right _ (by omega)) hb1
  have h5 : ¬ (140737488355328 < (i + k) * P.bytesOf el ∨ 140737488355328 < i + k) := by omega
  have h6 : ¬ (i + k ≤ c) := by omega
  have h4' : (k : Int) * (P.bytesOf el : Int) ≤ 140737488355328 := by
    rw [← Int.natCast_mul]
    omega
  have h7 : (k : Int) ≤ 140737488355328 := by omega
  simp [xappend, hS, hz, app, srcOf, hI, srcZ, h4', h7, hk, h5, h2, h3, h6, ho]
  simpa using h1

/-- THERE IS NO ROOM: a new row. -/
theorem insK_new {C : CallF} {n : Nat} {tS tI el : TypeId} {fO fR : FuncId} {K0 : K} (hS : P.underlying tS = some (.slice el)) (hI : P.underlying tI = some (.int .i64)) {z : List Value} (hz : zrow P el = some z) (hq : sizeQ P el = some z.length)
    {b o l c i m bv ov cv : Nat} {old new tail : List Value} (hi : i < l) (hl : l ≤ c) (hm : m ≠ 0) (hno : c < l + m) (hb1 : (l + m) * P.bytesOf el ≤ 140737488355328) (hb2 : l + m ≤ 140737488355328)
    (h1 : (zeros z (l + m - i)).all one = true) (ho : oldOf z.length i H (some ⟨b, o, none⟩) = some old)
    {H1 H2 H3 : AHeap} (hH1 : H1 = H.push (.cells (old ++ zeros z (l + m - i)) el true))
    (hcut : cut H1 bv ov (m * z.length) = some new) (hst : stL H1 H.n (i * z.length) new = some H2)
    (hcut2 : cut H2 b (o + i * z.length) ((l - i) * z.length) = some tail) (hst2 : stL H2 H.n ((i + m) * z.length) tail = some H3) {xs2 : List Value} (hrow : H2.f H.n = .cells xs2 el true) :
    insK std P C n tS tI fO fR (.slice (some ⟨b, o, none⟩) l (2 * c)) (.int .i64 i) (.slice (some ⟨bv, ov, none⟩) m cv) H K0 = K0 .ret [(6, .slice (some ⟨H.n, 0, none⟩) (l + m) (2 * (l + m) + 1))] H3 := by
  have w1 : IntKind.wrap .i64 ((l : Int) + m) = ((l + m : Nat) : Int) := by rw [wrap64 (by omega) (by omega)]; simp
  have w2 : IntKind.wrap .i64 ((i : Int) + m) = ((i + m : Nat) : Int) := by rw [wrap64 (by omega) (by omega)]; simp
  have w3 : IntKind.wrap .i64 (((l + m : Nat) : Int) - i) = ((l + m - i : Nat) : Int) := by rw [wrap64 (by omega) (by omega)]; omega
  unfold insK
  refine bareK_step (sl_from hS hq (by omega) (by omega)) ?_
  refine bareK_step (len_sl hS) ?_
  refine bareK_step (v := .bool false) (by rw [goInt, xbin_eql]; simp; omega) ?_
  refine c_false ?_
  refine after_n ?_
  refine bareK_step (len_sl (l := l) (c := 2 * c) (a := some ⟨b, o, none⟩) hS) ?_
  refine bareK_step (v := .bool false) (by refine Eq.trans (xbin_eql (a := (i : Int)) (b := (l : Int))) ?_; simp; omega) ?_
  refine c_false ?_
  refine after_n ?_
  refine bareK_step (v := .int .i64 ((l + m : Nat) : Int)) (by refine Eq.trans (xbin_add (a := (l : Int)) (b := (m : Int))) ?_; rw [w1]) ?_
  refine Eq.trans (b := nextK C H (some (.val (goInt c) H)) _) (by
    have : xbuiltin P .cap [tS] [.slice (some ⟨b, o, none⟩) l (2 * c)] H = some (.val (goInt c) H) := by
      simp [xbuiltin, bare, xcap, hS]
    exact congrArg (fun x => nextK C H x _) this) ?_
  refine Eq.trans nextK_val ?_
  refine bareK_step (v := .bool true) (by refine Eq.trans (xbin_gtr (a := ((l + m : Nat) : Int)) (b := (c : Int))) ?_; simp; omega) ?_
  refine c_true ?_
  refine bareK_step (sl_to (l := l) (b := b) (o := o) (c := c) (h := i) hS hq (by omega) (by omega)) ?_
  refine bareK_step (v := .int .i64 ((l + m : Nat) : Int)) (by refine Eq.trans (xbin_add (a := (l : Int)) (b := (m : Int))) ?_; rw [w1]) ?_
  refine bareK_step (v := .int .i64 ((l + m - i : Nat) : Int)) (by refine Eq.trans (xbin_sub (a := ((l + m : Nat) : Int)) (b := (i : Int))) ?_; rw [w3]) ?_
  have e0 : i + (l + m - i) = l + m := by omega
  have happ := app_zeros (tS := tS) (tI := tI) (b := b) (o := o) (c := c) (i := i) (k := l + m - i) hS hI hz (by omega) (by omega) (by rw [e0]; exact hb1) (by omega) h1 ho
  rw [e0, ← hH1] at happ
  refine bothK_step happ ?_
  have hr1 : H1.f H.n = .cells (old ++ zeros z (l + m - i)) el true := by rw [hH1]; exact AHeap.push_new _ _
  refine bareK_step (sl_from' (i := i) hS hq (by omega) (by omega) hr1) ?_
  rw [Nat.zero_add]
  refine bothK_step (copy_sl (m := m) hS hq (by show min _ _ = _; omega) hm hcut hst) ?_
  refine bareK_step (v := .int .i64 ((i + m : Nat) : Int)) (by refine Eq.trans (xbin_add (a := (i : Int)) (b := (m : Int))) ?_; rw [w2]) ?_
  refine bareK_step (sl_from' (i := i + m) hS hq (by omega) (by omega) hrow) ?_
  refine bareK_step (sl_from (b := b) (o := o) (l := l) (c := c) (i := i) hS hq (by omega) (by omega)) ?_
  have e2 : (if c = i then o else o + i * z.length) = o + i * z.length := by rw [if_neg (by omega)]
  rw [e2, Nat.zero_add]
  refine bothK_step (copy_sl (m := l - i) hS hq (by show min _ _ = _; omega) (by omega) hcut2 hst2) ?_
  refine Eq.trans checkK_true ?_
  exact after_r rfl

end Go.Proofs.Ytlagijfkkpbbnaa.Eng
