/-
  8 texts in one (merge.py): Eng18 Eng19 Eng20 Eng21 Eng22 Hints Known Names.
  Conditions: none. By an AI agent.
-/
import Derived.Test.YtehnchfnhbmkdaaQa2
import Derived.Attr
import Derived.Test.YtehnchfnhbmkdaaChecked
import Derived.KernelRfl

/-
  The engine, part 18: laws of single operations and of the combinators, for reckoning with symbols.
  Conditions: none. By an AI agent.
-/
namespace Go.Proofs.Ytehnchfnhbmkdaa.Eng
open Go

variable {P : Program} {H H' : AHeap} {k : Value → AHeap → Res} {kk : K}

theorem bareK_some {v : Value} : bareK (some v) H k = k v H := rfl
theorem bothK_some {v : Value} : bothK (some (v, H)) k = k v H := rfl
theorem quietK_some : quietK (some H) k = k undef H := rfl
theorem checkK_true {r : Res} : checkK true r = r := rfl
theorem pickK_true {a b : Value} {k : Value → Res} : pickK (.bool true) a b k = k a := rfl
theorem pickK_false {a b : Value} {k : Value → Res} : pickK (.bool false) a b k = k b := rfl
theorem std_c_true {x y : K → Res} {keep : List Nat} : std.c (.bool true) x y keep kk = x (afterK keep kk) := rfl
theorem std_c_false {x y : K → Res} {keep : List Nat} : std.c (.bool false) x y keep kk = y (afterK keep kk) := rfl
theorem std_g_true {op : (Value → AHeap → Res) → Res} : std.g (.bool true) true op H k = op k := rfl
theorem std_g_false {op : (Value → AHeap → Res) → Res} : std.g (.bool false) false op H k = op k := rfl
theorem std_g_not {op : (Value → AHeap → Res) → Res} : std.g (.bool true) false op H k = k undef H := rfl
theorem std_g_not' {op : (Value → AHeap → Res) → Res} : std.g (.bool false) true op H k = k undef H := rfl
theorem std_g_undef {op : (Value → AHeap → Res) → Res} {b : Bool} : std.g undef b op H k = k undef H := rfl
theorem afterK_normal {keep : List Nat} {T : Env} : afterK keep kk .normal T H = kk .normal (clr keep T) H := rfl
theorem afterK_exit {keep : List Nat} {T : Env} {i : Nat} : afterK keep kk (.exit i) T H = kk (.exit i) T H := rfl
theorem afterK_ret {keep : List Nat} {T : Env} : afterK keep kk .ret T H = kk .ret T H := rfl
theorem seqK_normal {f : Env → AHeap → Res} {T : Env} : seqK f kk .normal T H = f T H := rfl
theorem seqK_exit {f : Env → AHeap → Res} {T : Env} {i : Nat} : seqK f kk (.exit i) T H = kk (.exit i) T H := rfl
theorem seqK_ret {f : Env → AHeap → Res} {T : Env} : seqK f kk .ret T H = kk .ret T H := rfl
theorem nextK_val {call : CallF} {H0 : AHeap} {v : Value} : nextK call H0 (some (.val v H)) k = k v H := rfl
theorem enterK_some {call : CallF} {g : FuncId} {args : List Value} {v : Value} (h : call g args H = some (v, H')) : enterK call g args H k = k v H' := by simp [enterK, h]

/-! Numbers -/
theorem xbin_add {t : TypeId} {ox oy : Operand} {q : IntKind} {a b : Int} : xbin P .add t ox oy (.int q a) (.int q b) = some (.int q (q.wrap (a + b))) := by
  simp [xbin, gr, pvg, pv, eqGuard, binOp, Op.intArith, Bind.bind, Sem.bind, Pure.pure]
theorem xbin_sub {t : TypeId} {ox oy : Operand} {q : IntKind} {a b : Int} : xbin P .sub t ox oy (.int q a) (.int q b) = some (.int q (q.wrap (a - b))) := by
  simp [xbin, gr, pvg, pv, eqGuard, binOp, Op.intArith, Bind.bind, Sem.bind, Pure.pure]
theorem xbin_mul {t : TypeId} {ox oy : Operand} {q : IntKind} {a b : Int} : xbin P .mul t ox oy (.int q a) (.int q b) = some (.int q (q.wrap (a * b))) := by
  simp [xbin, gr, pvg, pv, eqGuard, binOp, Op.intArith, Bind.bind, Sem.bind, Pure.pure]
theorem xbin_eql {t : TypeId} {ox oy : Operand} {q : IntKind} {a b : Int} : xbin P .eql t ox oy (.int q a) (.int q b) = some (.bool (a == b)) := by
  simp [xbin, gr, pvg, pv, eqGuard, binOp, Op.intCmp, Bind.bind, Sem.bind, Pure.pure]
theorem xbin_neq {t : TypeId} {ox oy : Operand} {q : IntKind} {a b : Int} : xbin P .neq t ox oy (.int q a) (.int q b) = some (.bool (a != b)) := by
  simp [xbin, gr, pvg, pv, eqGuard, binOp, Op.intCmp, Bind.bind, Sem.bind, Pure.pure]
theorem xbin_lss {t : TypeId} {ox oy : Operand} {q : IntKind} {a b : Int} : xbin P .lss t ox oy (.int q a) (.int q b) = some (.bool (decide (a < b))) := by
  simp [xbin, gr, pvg, pv, eqGuard, binOp, Op.intCmp, Bind.bind, Sem.bind, Pure.pure]
theorem xbin_leq {t : TypeId} {ox oy : Operand} {q : IntKind} {a b : Int} : xbin P .leq t ox oy (.int q a) (.int q b) = some (.bool (decide (a ≤ b))) := by
  simp [xbin, gr, pvg, pv, eqGuard, binOp, Op.intCmp, Bind.bind, Sem.bind, Pure.pure]
theorem xbin_gtr {t : TypeId} {ox oy : Operand} {q : IntKind} {a b : Int} : xbin P .gtr t ox oy (.int q a) (.int q b) = some (.bool (decide (a > b))) := by
  simp [xbin, gr, pvg, pv, eqGuard, binOp, Op.intCmp, Bind.bind, Sem.bind, Pure.pure]
theorem xbin_geq {t : TypeId} {ox oy : Operand} {q : IntKind} {a b : Int} : xbin P .geq t ox oy (.int q a) (.int q b) = some (.bool (decide (a ≥ b))) := by
  simp [xbin, gr, pvg, pv, eqGuard, binOp, Op.intCmp, Bind.bind, Sem.bind, Pure.pure]
theorem xun_not {b : Bool} : xun P .not (.bool b) = some (.bool !b) := rfl

theorem wrap64 {n : Int} (h1 : -9223372036854775808 ≤ n) (h2 : n < 9223372036854775808) : IntKind.wrap .i64 n = n := by
  unfold IntKind.wrap
  simp only [IntKind.bits, IntKind.signed, Bool.true_and]
  split <;> simp_all <;> omega

end Go.Proofs.Ytehnchfnhbmkdaa.Eng

/-
  The engine, part 19: slices.Insert: what the engine's run of its text comes to, where the capacity is known: room, or none.
  Conditions: none. By an AI agent.
-/
set_option linter.unusedVariables false
namespace Go.Proofs.Ytehnchfnhbmkdaa.Eng
open Go

variable {P : Program} {H H' : AHeap}

theorem bareK_step {x : Option Value} {v : Value} {k : Value → AHeap → Res} {r : Res} (h : x = some v) (hk : k v H = r) : bareK x H k = r := by rw [h]; exact hk
theorem bothK_step {x : Option (Value × AHeap)} {v : Value} {k : Value → AHeap → Res} {r : Res} (h : x = some (v, H')) (hk : k v H' = r) : bothK x k = r := by rw [h]; exact hk
theorem c_true {x y : K → Res} {keep : List Nat} {k : K} {r : Res} (h : x (afterK keep k) = r) : std.c (.bool true) x y keep k = r := h
theorem c_false {x y : K → Res} {keep : List Nat} {k : K} {r : Res} (h : y (afterK keep k) = r) : std.c (.bool false) x y keep k = r := h
theorem after_n {keep : List Nat} {T : Env} {f : Env → AHeap → Res} {k : K} {r : Res} (h : f (clr keep T) H = r) : afterK keep (seqK f k) .normal T H = r := h
theorem after_r {keep : List Nat} {T : Env} {f : Env → AHeap → Res} {k : K} {r : Res} (h : k .ret T H = r) : afterK keep (seqK f k) .ret T H = r := h

/-- x[i:] of a slice of known capacity. -/
theorem sl_from {t e : TypeId} {sz b o l c i : Nat} {q : IntKind} (hS : P.underlying t = some (.slice e)) (hq : sizeQ P e = some sz) (hi : i ≤ l) (hl : l ≤ c) :
    xslice P t (.slice (some ⟨b, o, none⟩) l (2 * c)) (some (.int q i)) none none H = some (.slice (some ⟨b, if c = i then o else o + i * sz, none⟩) (l - i) (2 * (c - i))) := by
  have h1 : 2 * c / 2 = c := by omega
  have h2 : 2 * c % 2 = 0 := by omega
  have h3 : (i : Int) ≤ l := by omega
  simp [xslice, hS, hq, slS, highOf, lowOf, bnd, h1, h2, hl, hi]

/-- x[:h]. -/
theorem sl_to {t e : TypeId} {sz b o l c h : Nat} {q : IntKind} (hS : P.underlying t = some (.slice e)) (hq : sizeQ P e = some sz) (hh : h ≤ c) (h0 : c ≠ 0) :
    xslice P t (.slice (some ⟨b, o, none⟩) l (2 * c)) none (some (.int q h)) none H = some (.slice (some ⟨b, o, none⟩) h (2 * c)) := by
  have h1 : 2 * c / 2 = c := by omega
  have h2 : 2 * c % 2 = 0 := by omega
  simp [xslice, hS, hq, slS, highOf, lowOf, bnd, h1, h2, h0, hh]

/-- x[i:] of a row that was appended to. -/
theorem sl_from' {t e : TypeId} {sz b o l c i : Nat} {q : IntKind} {xs : List Value} (hS : P.underlying t = some (.slice e)) (hq : sizeQ P e = some sz) (hi : i ≤ l) (hl : l ≤ c) (hb : H.f b = .cells xs e true) :
    xslice P t (.slice (some ⟨b, o, none⟩) l (2 * c + 1)) (some (.int q i)) none none H = some (.slice (some ⟨b, o + i * sz, none⟩) (l - i) (2 * (c - i) + 1)) := by
  have h1 : (2 * c + 1) / 2 = c := by omega
  have h2 : (2 * c + 1) % 2 = 1 := by omega
  have h3 : (i : Int) ≤ l := by omega
  simp [xslice, hS, hq, slS, highOf, lowOf, bnd, h1, h2, hl, hi, hb, rowOf]

theorem len_sl {t e : TypeId} {a : Option Addr} {l c : Nat} (hS : P.underlying t = some (.slice e)) {ts : List TypeId} {G : AHeap} : xlenM P (t :: ts) (.slice a l c) G = some (goInt l) := by
  simp [xlenM, xlen, hS]

theorem copy_sl {t e : TypeId} {sz b o dl dc b' o' sl sc m : Nat} {ts : List TypeId} {l : List Value} (hS : P.underlying t = some (.slice e)) (hq : sizeQ P e = some sz) (hm : Nat.min sl dl = m) (h0 : m ≠ 0)
    (hc : cut H b' o' (m * sz) = some l) (hs : stL H b o l = some H') : xcopy P (t :: ts) (.slice (some ⟨b, o, none⟩) dl dc) (.slice (some ⟨b', o', none⟩) sl sc) H = some (goInt m, H') := by
  simp [xcopy, hS, hq, cpy, hm, h0, hc, hs]

/-- slices.overlaps, as it stands in the program. -/
structure Ovl (P : Program) (tS : TypeId) (fO : FuncId) : Prop where
  fn : ∃ fn, P.funcs[fO]? = some fn ∧ fn.name ≠ "runtime.NumGoroutine" ∧ fn.body.isSome = false ∧ fn.origin = "slices.overlaps" ∧ noRow fn.name = true ∧ fn.params.toList = [tS, tS]

theorem ovl_call {C : CallF} {tS el ev : TypeId} {fO : FuncId} (hO : Ovl P tS fO) (hS : P.underlying tS = some (.slice el)) {sz : Nat} (hq : sizeQ P el = some sz) {b o l c b' o' l' c' : Nat} {xs ys : List Value} {e' : TypeId} {rw' : Bool}
    (hb : H.f b = .cells xs ev true) (hb' : H.f b' = .cells ys e' rw') (hy : ys ≠ []) (hne : b ≠ b') (ht : tailQ P ev = 1) (ho : o ≤ xs.length) (h0 : l ≠ 0) (h1 : l' ≠ 0) {k : Value → AHeap → Res} :
    callK P C (.func (.func fO) #[] #[]) [.slice (some ⟨b, o, none⟩) l c, .slice (some ⟨b', o', none⟩) l' c'] H k = k (.bool false) H := by
  obtain ⟨fn, h2, h3, h4, h5, h6, h7⟩ := hO.fn
  cases ys with
  | nil => exact absurd rfl hy
  | cons y ys =>
    simp [callK, h2, h3, h4, xext, h5, h6, h0, h1, hb, hb', h7, hS, hne, ht, hq, ho, bareK]

def insK (M : Comb) (P : Program) (C : CallF) (n : Nat) (tS tI : TypeId) (fO fR : FuncId) (a0 : Value) (a1 : Value) (a2 : Value) (H : AHeap) (K0 : K) : Res :=
bareK (xslice P tS a0 (some a1) none none H) H fun t12 h1 =>
bareK (xlenM P [tS] a2 h1) h1 fun t14 h2 =>
bareK (xbin P .eql tI (.tmp 15) (.const (.int .i64 0)) t14 (.int .i64 0)) h2 fun t16 h3 =>
M.c t16 (fun k1 => k1 .ret [(6, a0)] h3) (fun k1 => k1 .normal [(16, t16), (15, t14), (7, t14), (14, t14), (13, a2), (12, t12), (11, a1), (10, a0), (6, (.slice none 0 0)), (0, a0), (1, a1), (2, a2)] h3) [0, 1, 2, 7] (seqK (fun tT h4 =>
bareK (xlenM P [tS] (get tT 0) h4) h4 fun t19 h5 =>
bareK (xbin P .eql tI (.tmp 20) (.tmp 21) (get tT 1) t19) h5 fun t22 h6 =>
M.c t22 (fun k2 => bothK (xappend P [tS, tS] (get tT 0) (get tT 2) h6) fun t25 h7 =>
k2 .ret [(6, t25)] h7) (fun k2 => k2 .normal ((22, t22) :: (21, t19) :: (20, (get tT 1)) :: (8, t19) :: (19, t19) :: (18, (get tT 0)) :: tT) h6) [0, 1, 2, 7, 8] (seqK (fun tT_1 h8 =>
bareK (xbin P .add tI (.tmp 26) (.tmp 27) (get tT_1 8) (get tT_1 7)) h8 fun t28 h9 =>
nextK C h9 (xbuiltin P .cap [tS] [(get tT_1 0)] h9) fun t30 h10 =>
bareK (xbin P .gtr tI (.tmp 28) (.tmp 30) t28 t30) h10 fun t31 h11 =>
M.c t31 (fun k3 => bareK (xslice P tS (get tT_1 0) none (some (get tT_1 1)) none h11) h11 fun t34 h12 =>
bareK (xbin P .add tI (.tmp 35) (.tmp 36) (get tT_1 8) (get tT_1 7)) h12 fun t37 h13 =>
bareK (xbin P .sub tI (.tmp 37) (.tmp 38) t37 (get tT_1 1)) h13 fun t39 h14 =>
bothK (xappend P [tS, tI] t34 t39 h14) fun t40 h15 =>
bareK (xslice P tS t40 (some (get tT_1 1)) none none h15) h15 fun t43 h16 =>
bothK (xcopy P [tS, tS] t43 (get tT_1 2) h16) fun t45 h17 =>
bareK (xbin P .add tI (.tmp 47) (.tmp 48) (get tT_1 1) (get tT_1 7)) h17 fun t49 h18 =>
bareK (xslice P tS t40 (some t49) none none h18) h18 fun t50 h19 =>
bareK (xslice P tS (get tT_1 0) (some (get tT_1 1)) none none h19) h19 fun t53 h20 =>
bothK (xcopy P [tS, tS] t50 t53 h20) fun t54 h21 =>
checkK true <|
k3 .ret [(6, t40)] h21) (fun k3 => k3 .normal ((31, t31) :: (30, t30) :: (29, (get tT_1 0)) :: (28, t28) :: (27, (get tT_1 7)) :: (26, (get tT_1 8)) :: tT_1) h11) [0, 1, 2, 7, 8] (seqK (fun tT_2 h22 =>
bareK (xbin P .add tI (.tmp 57) (.tmp 58) (get tT_2 8) (get tT_2 7)) h22 fun t59 h23 =>
bareK (xslice P tS (get tT_2 0) none (some t59) none h23) h23 fun t60 h24 =>
bareK (xbin P .add tI (.tmp 63) (.tmp 64) (get tT_2 1) (get tT_2 7)) h24 fun t65 h25 =>
bareK (xslice P tS t60 (some t65) none none h25) h25 fun t66 h26 =>
callK P C (.func (.func fO) #[] #[]) [(get tT_2 2), t66] h26 fun t67 h27 =>
bareK (xun P .not t67) h27 fun t68 h28 =>
M.c t68 (fun k4 => bareK (xbin P .add tI (.tmp 70) (.tmp 71) (get tT_2 1) (get tT_2 7)) h28 fun t72 h29 =>
bareK (xslice P tS t60 (some t72) none none h29) h29 fun t73 h30 =>
bareK (xslice P tS t60 (some (get tT_2 1)) none none h30) h30 fun t76 h31 =>
bothK (xcopy P [tS, tS] t73 t76 h31) fun t77 h32 =>
checkK true <|
bareK (xslice P tS t60 (some (get tT_2 1)) none none h32) h32 fun t80 h33 =>
bothK (xcopy P [tS, tS] t80 (get tT_2 2) h33) fun t82 h34 =>
k4 .ret [(6, t60)] h34) (fun k4 => k4 .normal ((68, t68) :: (67, t67) :: (66, t66) :: (65, t65) :: (64, (get tT_2 7)) :: (63, (get tT_2 1)) :: (62, t60) :: (61, (get tT_2 2)) :: (0, t60) :: (60, t60) :: (59, t59) :: (58, (get tT_2 7)) :: (57, (get tT_2 8)) :: (56, (get tT_2 0)) :: tT_2) h28) [0, 1, 2, 7, 8] (seqK (fun tT_3 h35 =>
bareK (xslice P tS (get tT_3 0) (some (get tT_3 8)) none none h35) h35 fun t86 h36 =>
bothK (xcopy P [tS, tS] t86 (get tT_3 2) h36) fun t88 h37 =>
bareK (xslice P tS (get tT_3 0) (some (get tT_3 1)) none none h37) h37 fun t91 h38 =>
enterK C fR [t91, (get tT_3 7)] h38 fun t93 h39 =>
K0 .ret [(6, (get tT_3 0))] h39) K0)) K0)) K0)) K0)
/-- THERE IS ROOM: in place. -/
theorem insK_room {C : CallF} {n : Nat} {tS tI el ev : TypeId} {fO fR : FuncId} {K0 : K} (hS : P.underlying tS = some (.slice el)) {sz : Nat} (hq : sizeQ P el = some sz) (hO : Ovl P tS fO)
    {b o l c i m bv ov cv : Nat} {xs ys new old : List Value} (hi : i < l) (hm : m ≠ 0) (hroom : l + m ≤ c) (hbig : l + m < 4611686018427387904) (hH : H.f b = .cells xs el true) (hne : bv ≠ b)
    (hv : H.f bv = .cells ys ev true) (hov : ov ≤ ys.length) (htl : tailQ P ev = 1) (hxs : xs ≠ [])
    (hcut : cut H b (o + i * sz) ((l - i) * sz) = some old) (hst : stL H b (o + (i + m) * sz) old = some H')
    (hcut2 : cut H' bv ov (m * sz) = some new) {H2 : AHeap} (hst2 : stL H' b (o + i * sz) new = some H2) :
    insK std P C n tS tI fO fR (.slice (some ⟨b, o, none⟩) l (2 * c)) (.int .i64 i) (.slice (some ⟨bv, ov, none⟩) m cv) H K0 = K0 .ret [(6, .slice (some ⟨b, o, none⟩) (l + m) (2 * c))] H2 := by
  have w1 : IntKind.wrap .i64 ((l : Int) + m) = ((l + m : Nat) : Int) := by rw [wrap64 (by omega) (by omega)]; simp
  have w2 : IntKind.wrap .i64 ((i : Int) + m) = ((i + m : Nat) : Int) := by rw [wrap64 (by omega) (by omega)]; simp
  unfold insK
  refine bareK_step (sl_from hS hq (by omega) (by omega)) ?_
  refine bareK_step (len_sl hS) ?_
  refine bareK_step (v := .bool false) (by rw [goInt, xbin_eql]; simp; omega) ?_
  refine c_false ?_
  refine after_n ?_
  refine bareK_step (len_sl (l := l) (c := 2 * c) (a := some ⟨b, o, none⟩) hS) ?_
  refine bareK_step (v := .bool false) (by refine Eq.trans (xbin_eql (a := (i : Int)) (b := (l : Int))) ?_; simp; omega) ?_
  refine c_false ?_
  refine after_n ?_
  refine bareK_step (v := .int .i64 ((l + m : Nat) : Int)) (by refine Eq.trans (xbin_add (a := (l : Int)) (b := (m : Int))) ?_; rw [w1]) ?_
  refine Eq.trans (b := nextK C H (some (.val (goInt c) H)) _) (by
    have : xbuiltin P .cap [tS] [.slice (some ⟨b, o, none⟩) l (2 * c)] H = some (.val (goInt c) H) := by
      simp [xbuiltin, bare, xcap, hS]
    exact congrArg (fun x => nextK C H x _) this) ?_
  refine Eq.trans nextK_val ?_
  refine bareK_step (v := .bool false) (by refine Eq.trans (xbin_gtr (a := ((l + m : Nat) : Int)) (b := (c : Int))) ?_; simp; omega) ?_
  refine c_false ?_
  refine after_n ?_
  refine bareK_step (v := .int .i64 ((l + m : Nat) : Int)) (by refine Eq.trans (xbin_add (a := (l : Int)) (b := (m : Int))) ?_; rw [w1]) ?_
  refine bareK_step (sl_to (l := l) (b := b) (o := o) (c := c) (h := l + m) hS hq (by omega) (by omega)) ?_
  refine bareK_step (v := .int .i64 ((i + m : Nat) : Int)) (by refine Eq.trans (xbin_add (a := (i : Int)) (b := (m : Int))) ?_; rw [w2]) ?_
  refine bareK_step (sl_from hS hq (by omega) (by omega)) ?_
  refine Eq.trans (ovl_call hO hS hq hv hH hxs hne htl hov hm (by omega)) ?_
  refine bareK_step xun_not ?_
  refine c_true ?_
  refine bareK_step (v := .int .i64 ((i + m : Nat) : Int)) (by refine Eq.trans (xbin_add (a := (i : Int)) (b := (m : Int))) ?_; rw [w2]) ?_
  refine bareK_step (sl_from hS hq (by omega) (by omega)) ?_
  refine bareK_step (sl_from (i := i) hS hq (by omega) (by omega)) ?_
  have e1 : (if c = i + m then o else o + (i + m) * sz) = o + (i + m) * sz := by rw [if_neg (by omega)]
  have e2 : (if c = i then o else o + i * sz) = o + i * sz := by rw [if_neg (by omega)]
  rw [e1, e2]
  refine bothK_step (copy_sl (m := l - i) hS hq (by show min _ _ = _; omega) (by omega) hcut hst) ?_
  refine Eq.trans checkK_true ?_
  refine bareK_step (sl_from (i := i) hS hq (by omega) (by omega)) ?_
  rw [e2]
  refine bothK_step (copy_sl (m := m) hS hq (by show min _ _ = _; omega) hm hcut2 hst2) ?_
  exact after_r rfl

/-- append(s[:i], make(S, k)...) where there is no room: a new row. -/
theorem app_zeros {tS tI el : TypeId} (hS : P.underlying tS = some (.slice el)) (hI : P.underlying tI = some (.int .i64)) {z : List Value} (hz : zrow P el = some z) {b o c i k : Nat} {old : List Value}
    (hk : k ≠ 0) (hno : c < i + k) (hb1 : (i + k) * P.bytesOf el ≤ 140737488355328) (hb2 : i + k ≤ 140737488355328) (h1 : (zeros z k).all one = true) (ho : oldOf z.length i H (some ⟨b, o, none⟩) = some old) :
    xappend P [tS, tI] (.slice (some ⟨b, o, none⟩) i (2 * c)) (.int .i64 k) H = some (.slice (some ⟨H.n, 0, none⟩) (i + k) (2 * (i + k) + 1), H.push (.cells (old ++ zeros z k) el true)) := by
  have h2 : 2 * c / 2 = c := by omega
  have h3 : 2 * c % 2 = 0 := by omega
  have h4 : k * P.bytesOf el ≤ 140737488355328 := Nat.le_trans (Nat.mul_le_mul_right _ (by omega)) hb1
  have h5 : ¬ (140737488355328 < (i + k) * P.bytesOf el ∨ 140737488355328 < i + k) := by omega
  have h6 : ¬ (i + k ≤ c) := by omega
  have h4' : (k : Int) * (P.bytesOf el : Int) ≤ 140737488355328 := by
    rw [← Int.natCast_mul]
    omega
  have h7 : (k : Int) ≤ 140737488355328 := by omega
  simp [xappend, hS, hz, app, srcOf, hI, srcZ, h4', h7, hk, h5, h2, h3, h6, ho]
  simpa using h1

/-- THERE IS NO ROOM: a new row. -/
theorem insK_new {C : CallF} {n : Nat} {tS tI el : TypeId} {fO fR : FuncId} {K0 : K} (hS : P.underlying tS = some (.slice el)) (hI : P.underlying tI = some (.int .i64)) {z : List Value} (hz : zrow P el = some z) (hq : sizeQ P el = some z.length)
    {b o l c i m bv ov cv : Nat} {old new tail : List Value} (hi : i < l) (hl : l ≤ c) (hm : m ≠ 0) (hno : c < l + m) (hb1 : (l + m) * P.bytesOf el ≤ 140737488355328) (hb2 : l + m ≤ 140737488355328)
    (h1 : (zeros z (l + m - i)).all one = true) (ho : oldOf z.length i H (some ⟨b, o, none⟩) = some old)
    {H1 H2 H3 : AHeap} (hH1 : H1 = H.push (.cells (old ++ zeros z (l + m - i)) el true))
    (hcut : cut H1 bv ov (m * z.length) = some new) (hst : stL H1 H.n (i * z.length) new = some H2)
    (hcut2 : cut H2 b (o + i * z.length) ((l - i) * z.length) = some tail) (hst2 : stL H2 H.n ((i + m) * z.length) tail = some H3) {xs2 : List Value} (hrow : H2.f H.n = .cells xs2 el true) :
    insK std P C n tS tI fO fR (.slice (some ⟨b, o, none⟩) l (2 * c)) (.int .i64 i) (.slice (some ⟨bv, ov, none⟩) m cv) H K0 = K0 .ret [(6, .slice (some ⟨H.n, 0, none⟩) (l + m) (2 * (l + m) + 1))] H3 := by
  have w1 : IntKind.wrap .i64 ((l : Int) + m) = ((l + m : Nat) : Int) := by rw [wrap64 (by omega) (by omega)]; simp
  have w2 : IntKind.wrap .i64 ((i : Int) + m) = ((i + m : Nat) : Int) := by rw [wrap64 (by omega) (by omega)]; simp
  have w3 : IntKind.wrap .i64 (((l + m : Nat) : Int) - i) = ((l + m - i : Nat) : Int) := by rw [wrap64 (by omega) (by omega)]; omega
  unfold insK
  refine bareK_step (sl_from hS hq (by omega) (by omega)) ?_
  refine bareK_step (len_sl hS) ?_
  refine bareK_step (v := .bool false) (by rw [goInt, xbin_eql]; simp; omega) ?_
  refine c_false ?_
  refine after_n ?_
  refine bareK_step (len_sl (l := l) (c := 2 * c) (a := some ⟨b, o, none⟩) hS) ?_
  refine bareK_step (v := .bool false) (by refine Eq.trans (xbin_eql (a := (i : Int)) (b := (l : Int))) ?_; simp; omega) ?_
  refine c_false ?_
  refine after_n ?_
  refine bareK_step (v := .int .i64 ((l + m : Nat) : Int)) (by refine Eq.trans (xbin_add (a := (l : Int)) (b := (m : Int))) ?_; rw [w1]) ?_
  refine Eq.trans (b := nextK C H (some (.val (goInt c) H)) _) (by
    have : xbuiltin P .cap [tS] [.slice (some ⟨b, o, none⟩) l (2 * c)] H = some (.val (goInt c) H) := by
      simp [xbuiltin, bare, xcap, hS]
    exact congrArg (fun x => nextK C H x _) this) ?_
  refine Eq.trans nextK_val ?_
  refine bareK_step (v := .bool true) (by refine Eq.trans (xbin_gtr (a := ((l + m : Nat) : Int)) (b := (c : Int))) ?_; simp; omega) ?_
  refine c_true ?_
  refine bareK_step (sl_to (l := l) (b := b) (o := o) (c := c) (h := i) hS hq (by omega) (by omega)) ?_
  refine bareK_step (v := .int .i64 ((l + m : Nat) : Int)) (by refine Eq.trans (xbin_add (a := (l : Int)) (b := (m : Int))) ?_; rw [w1]) ?_
  refine bareK_step (v := .int .i64 ((l + m - i : Nat) : Int)) (by refine Eq.trans (xbin_sub (a := ((l + m : Nat) : Int)) (b := (i : Int))) ?_; rw [w3]) ?_
  have e0 : i + (l + m - i) = l + m := by omega
  have happ := app_zeros (tS := tS) (tI := tI) (b := b) (o := o) (c := c) (i := i) (k := l + m - i) hS hI hz (by omega) (by omega) (by rw [e0]; exact hb1) (by omega) h1 ho
  rw [e0, ← hH1] at happ
  refine bothK_step happ ?_
  have hr1 : H1.f H.n = .cells (old ++ zeros z (l + m - i)) el true := by rw [hH1]; exact AHeap.push_new _ _
  refine bareK_step (sl_from' (i := i) hS hq (by omega) (by omega) hr1) ?_
  rw [Nat.zero_add]
  refine bothK_step (copy_sl (m := m) hS hq (by show min _ _ = _; omega) hm hcut hst) ?_
  refine bareK_step (v := .int .i64 ((i + m : Nat) : Int)) (by refine Eq.trans (xbin_add (a := (i : Int)) (b := (m : Int))) ?_; rw [w2]) ?_
  refine bareK_step (sl_from' (i := i + m) hS hq (by omega) (by omega) hrow) ?_
  refine bareK_step (sl_from (b := b) (o := o) (l := l) (c := c) (i := i) hS hq (by omega) (by omega)) ?_
  have e2 : (if c = i then o else o + i * z.length) = o + i * z.length := by rw [if_neg (by omega)]
  rw [e2, Nat.zero_add]
  refine bothK_step (copy_sl (m := l - i) hS hq (by show min _ _ = _; omega) (by omega) hcut2 hst2) ?_
  refine Eq.trans checkK_true ?_
  exact after_r rfl

end Go.Proofs.Ytehnchfnhbmkdaa.Eng

/-
  The engine, part 20: slices.Insert, taken as a whole.
  Conditions: none. By an AI agent.
-/
namespace Go.Proofs.Ytehnchfnhbmkdaa.Eng
open Go
set_option linter.unusedVariables false
set_option linter.unusedSimpArgs false

/-- slices.Insert where the capacity is not known: in place if there is room for sure; else the row that comes of it is one that nobody else names. -/
def insS (P : Program) (el : TypeId) (z : List Value) (args : List Value) (H : AHeap) : Res :=
  match args with
  | [.slice (some ⟨b, o, none⟩) l code, .int .i64 (.ofNat i), .slice (some ⟨bv, ov, none⟩) m _] =>
    match H.f b, H.f bv with
    | .cells xs e true, .cells ys ev true =>
      if code % 2 = 1 ∧ e = el ∧ i < l ∧ l ≤ code / 2 ∧ m ≠ 0 ∧ (l + m) * P.bytesOf el ≤ 140737488355328 ∧ l + m ≤ 140737488355328 ∧ bv ≠ b ∧ tailQ P ev = 1 ∧ o + code / 2 * z.length = xs.length ∧
          ov + m * z.length ≤ ys.length ∧ 0 < xs.length ∧ ((ys.drop ov).take (m * z.length)).all one = true ∧ ((xs.drop (o + i * z.length)).take ((l - i) * z.length)).all one = true ∧ (zeros z (l + m - i)).all one = true then
        if l + m ≤ code / 2 then
          some (.slice (some ⟨b, o, none⟩) (l + m) code,
            (H.set b (.cells (spl xs (o + (i + m) * z.length) ((xs.drop (o + i * z.length)).take ((l - i) * z.length))) el true)).set b
              (.cells (spl (spl xs (o + (i + m) * z.length) ((xs.drop (o + i * z.length)).take ((l - i) * z.length))) (o + i * z.length) ((ys.drop ov).take (m * z.length))) el true))
        else some (.slice (some ⟨H.n, 0, none⟩) (l + m) (2 * (l + m) + 1),
            (H.set b .dead).push (.cells ((xs.drop o).take (i * z.length) ++ ((ys.drop ov).take (m * z.length) ++ (xs.drop (o + i * z.length)).take ((l - i) * z.length))) el true))
      else none
    | _, _ => none
  | _ => none

/-- The whole: first its text as it stands, where the engine can run it. -/
def insP (P : Program) (hints : Hints) (f : FuncId) (el : TypeId) (z : List Value) : List Value → AHeap → Res := fun args H =>
  match dBody P hints (fun _ _ _ => none) 1 f args H with
  | some r => some r
  | none => insS P el z args H

theorem spl_get : ∀ (vs xs : List Value) (o j : Nat), o + vs.length ≤ xs.length → (spl xs o vs)[j]? = if o ≤ j ∧ j < o + vs.length then vs[j - o]? else xs[j]?
  | [], xs, o, j, _ => by simp [spl]; intro h1 h2; omega
  | v :: vs, xs, o, j, h => by
    rw [spl, spl_get vs (xs.set o v) (o + 1) j (by simp at h ⊢; omega)]
    simp only [List.length_cons] at h ⊢
    by_cases h1 : o + 1 ≤ j ∧ j < o + 1 + vs.length
    · rw [if_pos h1, if_pos (by omega)]
      obtain ⟨d, hd⟩ : ∃ d, j - o = d + 1 := ⟨j - o - 1, by omega⟩
      rw [hd, show j - (o + 1) = d by omega]
      simp
    · rw [if_neg h1]
      by_cases h2 : j = o
      · subst h2
        rw [if_pos (by omega)]
        simp [show j < xs.length by omega]
      · rw [if_neg (by omega), List.getElem?_set_ne (by omega)]

/-- In place: what stands there then. -/
theorem ins_cells {xs new : List Value} {o A M T : Nat} (hx : o + A + M + T ≤ xs.length) (hM : new.length = M) {j : Nat} (hj : j < A + M + T) :
    (spl (spl xs (o + (A + M)) ((xs.drop (o + A)).take T)) (o + A) new)[o + j]? = ((xs.drop o).take A ++ (new ++ (xs.drop (o + A)).take T))[j]? := by
  have hT : ((xs.drop (o + A)).take T).length = T := by simp; omega
  have hA : ((xs.drop o).take A).length = A := by simp; omega
  rw [spl_get _ _ _ _ (by rw [spl_length]; omega), spl_get _ _ _ _ (by omega)]
  rw [List.getElem?_append, hA, List.getElem?_append, hM, hT]
  by_cases h1 : j < A
  · rw [if_neg (by omega), if_neg (by omega), if_pos h1, List.getElem?_take_of_lt h1, List.getElem?_drop]
  · by_cases h2 : j < A + M
    · rw [if_pos (by omega), if_neg h1, if_pos (by omega), show o + j - (o + A) = j - A by omega]
    · rw [if_neg (by omega), if_pos (by omega), if_neg h1, if_neg (by omega), show o + j - (o + (A + M)) = j - A - M by omega]

/-- In a new row. -/
theorem ins_row {old zs new tail : List Value} (hz : zs.length = new.length + tail.length) : spl (spl (old ++ zs) old.length new) (old.length + new.length) tail = old ++ (new ++ tail) := by
  apply List.ext_getElem?
  intro j
  rw [spl_get _ _ _ _ (by rw [spl_length]; simp; omega), spl_get _ _ _ _ (by simp; omega)]
  rw [List.getElem?_append (l₁ := old) (l₂ := new ++ tail), List.getElem?_append (l₁ := new) (l₂ := tail), List.getElem?_append (l₁ := old) (l₂ := zs)]
  by_cases h1 : j < old.length
  · rw [if_neg (by omega), if_neg (by omega), if_pos h1, if_pos h1]
  · by_cases h2 : j < old.length + new.length
    · rw [if_neg (by omega), if_pos (by omega), if_neg h1, if_pos (by omega)]
    · by_cases h3 : j < old.length + new.length + tail.length
      · rw [if_pos (by omega), if_neg h1, if_neg (by omega), show j - old.length - new.length = j - (old.length + new.length) by omega]
      · rw [if_neg (by omega), if_neg (by omega), if_neg h1, if_neg h1, if_neg (by omega), List.getElem?_eq_none (by omega), List.getElem?_eq_none (by omega)]

variable {P : Program} {B : Nat} {ι : Emb} {H : AHeap} {w : World}

/-- Blocks may be forgotten, and stamps turned. -/
theorem Rel.less {H' : AHeap} (r : Rel P B ι H w) (hn : H'.n = H.n) (hf : ∀ b, H'.f b = H.f b ∨ H'.f b = .dead) (hv : ∀ b, H'.ver b < H'.clk) : Rel P B ι H' w := by
  have hown : ∀ b, owned (H'.f b) = true → owned (H.f b) = true := fun b h => by
    rcases hf b with e | e
    · rwa [e] at h
    · rw [e] at h; simp [owned] at h
  have hal : ∀ b, alive (H'.f b) = true → alive (H.f b) = true := fun b h => by
    rcases hf b with e | e
    · rwa [e] at h
    · rw [e] at h; simp [alive] at h
  refine ⟨fun b L h => ?_, fun b L h => by rw [hn]; exact r.lt b L h, fun b c L M h1 h2 hne ho ha => r.inj b c L M h1 h2 hne (hown b ho) (hal c ha), r.base, hv, r.glob⟩
  rcases hf b with e | e
  · rw [e]; exact r.blk b L h
  · rw [e]; trivial

theorem Stp.less {ι' : Emb} {H1 H2 : AHeap} {w' : World} (s : Stp ι H w ι' H1 w') (hn : H2.n = H1.n) (hf : ∀ b, H2.f b = H1.f b ∨ H2.f b = .dead) (hv : VO H H2) : Stp ι H w ι' H2 w' :=
  ⟨s.ext, hv.n, s.wn, s.os, s.tape, s.output, s.fr, s.new, fun b L hb hl ho => s.own b L hb hl (by
    rcases hf b with e | e
    · rwa [e] at ho
    · rw [e] at ho; simp [owned] at ho), hv⟩

theorem cut_ok {b o n : Nat} {xs : List Value} {e : TypeId} {rw' : Bool} (h : H.f b = .cells xs e rw') (hf : o + n ≤ xs.length) : cut H b o n = some ((xs.drop o).take n) := by
  unfold cut
  simp [h, hf]

theorem stL_ok {b o : Nat} {xs vs : List Value} {e : TypeId} (h : H.f b = .cells xs e true) (hf : o + vs.length ≤ xs.length) (h1 : vs.all one = true) : stL H b o vs = some (H.set b (.cells (spl xs o vs) e true)) := by
  unfold stL
  simp only [h, hf, if_true, h1]

theorem insS_ad {el : TypeId} {z : List Value} {args : List Value} {v : Value} {H' : AHeap} (h : insS P el z args H = some (v, H')) (hc : Cl H) (ha : ADs H.n args) : OkV H H' v := by
  unfold insS at h
  split at h
  · rename_i b o l code i bv ov m cv
    split at h
    · rename_i xs e ys ev hf1 hf2
      split at h
      · rename_i hcond
        have hxs := hc.cells _ _ _ _ hf1
        have hys := hc.cells _ _ _ _ hf2
        have hb : b < H.n := by
          have := ha (.slice (some ⟨b, o, none⟩) l code) (by simp)
          cases this
          assumption
        split at h
        · cases h
          have h1 : Cl (H.set b (.cells (spl xs (o + (i + m) * z.length) ((xs.drop (o + i * z.length)).take ((l - i) * z.length))) el true)) :=
            hc.set b (fun _ _ _ hk => by cases hk; exact ADs.spl ((hxs.drop _).take _) hxs) (fun _ hk => by cases hk)
          refine ⟨h1.set b (fun _ _ _ hk => by cases hk; exact ADs.spl ((hys.drop _).take _) (ADs.spl ((hxs.drop _).take _) hxs)) (fun _ hk => by cases hk), .sl hb, ?_⟩
          exact (VO.set _ _ _ (by simp [hf1, alive])).trans (VO.set _ _ _ (by simp [alive]))
        · cases h
          have h1 : Cl (H.set b .dead) := hc.kill b
          refine ⟨h1.row ?_, .sl (by simp), (VO.set _ _ _ (by simp [alive])).trans (VO.push _ _)⟩
          have hm : H.n ≤ (H.set b .dead).n + 1 := by simp
          exact (((hxs.drop _).take _).append (((hys.drop _).take _).append ((hxs.drop _).take _))).mono hm
      · cases h
    · cases h
  · cases h

theorem none_ok : CallOK P fun _ _ _ => none := by intro f args H v H' h; cases h
theorem none_ad : CallAd fun _ _ _ => none := by intro f args H v H' h; cases h

/-- What is asked of the program. -/
structure InsOK (P : Program) (hints : Hints) (f : FuncId) (tS tI el : TypeId) (z : List Value) (fO fR : FuncId) : Prop where
  mixed : P.follows .mixedOrders = true
  body : ∀ (C : CallF) (n : Nat) (a0 a1 a2 : Value) (H : AHeap), dBodyK std P hints C n f [a0, a1, a2] H = insK std P C n tS tI fO fR a0 a1 a2 H (endK P [.tmp 6])
  hS : P.underlying tS = some (.slice el)
  hI : P.underlying tI = some (.int .i64)
  hz : zrow P el = some z
  hsz : sizeQ P el = some z.length
  ovl : Ovl P tS fO

theorem InsOK.run {hints : Hints} {f : FuncId} {tS tI el : TypeId} {z : List Value} {fO fR : FuncId} (I : InsOK P hints f tS tI el z fO fR) {n : Nat} {a0 a1 a2 v : Value} {H' : AHeap}
    (h : ∀ C K0, insK std P C n tS tI fO fR a0 a1 a2 H K0 = K0 .ret [(6, v)] H') : dBody P hints (fun _ _ _ => none) n f [a0, a1, a2] H = some (v, H') := by
  rw [← dBodyK_eq, I.body, h]
  rfl

theorem rv_even {ι : Emb} {b o l cc q : Nat} {v' : Value} (h : RV ι (.slice (some ⟨b, o, none⟩) l q) v') (hq : q = 2 * cc) (hl : l ≠ 0) : ∃ L, ι b = some L ∧ v' = .slice (some ⟨L.cb, L.base + o, none⟩) l cc ∧ l ≤ cc := by
  cases h with
  | sle h1 h2 =>
    have := Nat.eq_of_mul_eq_mul_left (by omega : 0 < 2) hq
    subst this
    exact ⟨_, h1, rfl, h2⟩
  | sli h1 _ _ _ => omega
  | sl0 h1 => exact absurd rfl hl

/-- THE PRIM. -/
theorem ins_prim {hints : Hints} {f : FuncId} {tS tI el : TypeId} {z : List Value} {fO fR : FuncId} (I : InsOK P hints f tS tI el z fO fR) :
    (CallAd fun _ args H => insP P hints f el z args H) ∧ CallOK P fun g args H => if g = f then insP P hints f el z args H else none := by
  constructor
  · intro g args H v H' h hl ha
    replace h : insP P hints f el z args H = some (v, H') := h
    unfold insP at h
    split at h
    · rename_i r hr
      cases h
      exact body_ad none_ad 1 f args H v H' hr hl ha
    · exact insS_ad h hl ha
  · intro g args H v H' h2 hl had B ι w args' r ha
    by_cases hg : g = f
    · subst hg
      simp only [if_true] at h2
      unfold insP at h2
      split at h2
      · rename_i r0 hr
        cases h2
        exact body_sound none_ok none_ad I.mixed 1 g args H v H' hr hl had B ι w args' r ha
      · have hOk := insS_ad h2 hl had
        unfold insS at h2
        split at h2
        · rename_i b o l code i bv ov m cv _
          split at h2
          · rename_i xs e ys ev hf1 hf2
            split at h2
            · rename_i hcond
              obtain ⟨hodd, rfl, hil, hlc, hm0, hb1, hb2, hne, htl, hend, hvfit, hx0, hn1, ht1, hz1⟩ := hcond
              cases ha with | cons ha1 t => cases t with | cons ha2 t => cases t with | cons ha3 t => cases t with | nil =>
              cases ha2
              cases ha1 with
              | sle hL hn => omega
              | sl0 hk => omega
              | sli hL hc hn ht =>
                rename_i c cc L _
                have hcode : (2 * c + 1) / 2 = c := by omega
                rw [hcode] at hlc hend h2
                have hblk := r.blk b L hL
                rw [hf1] at hblk
                obtain ⟨cs, e', fr, g1, g2, g3, g4, g5⟩ := hblk
                obtain ⟨gB, rfl, gsz, gfr⟩ := g5 rfl
                have hsz : L.sz = z.length := by rw [gsz]; exact sizeQ_cells I.hsz
                rw [hsz] at ht
                have hA : (i + m) * z.length = i * z.length + m * z.length := Nat.add_mul _ _ _
                have hT : (l - i) * z.length + i * z.length = l * z.length := by rw [← Nat.add_mul]; congr 1; omega
                have hlcz : l * z.length ≤ c * z.length := Nat.mul_le_mul_right _ hlc
                have hvl : ((ys.drop ov).take (m * z.length)).length = m * z.length := by simp; omega
                have htll : ((xs.drop (o + i * z.length)).take ((l - i) * z.length)).length = (l - i) * z.length := by simp; omega
                have hval : ∀ {Hx : AHeap}, Hx.n = H.n → ADs Hx.n [.slice (some ⟨b, o, none⟩) l (2 * cc), .int .i64 (.ofNat i), .slice (some ⟨bv, ov, none⟩) m cv] := by
                  intro Hx hn
                  rw [hn]
                  have k1 := had (.slice (some ⟨b, o, none⟩) l (2 * c + 1)) (by simp)
                  have k3 := had (.slice (some ⟨bv, ov, none⟩) m cv) (by simp)
                  refine ADs.cons ?_ (ADs.cons (.int _ _) (ADs.cons k3 ADs.nil))
                  cases k1; exact .sl (by assumption)
                have hargs : RVs ι [.slice (some ⟨b, o, none⟩) l (2 * cc), .int .i64 (.ofNat i), .slice (some ⟨bv, ov, none⟩) m cv] _ := .cons (.sle hL hn) (.cons (.int _ _) (.cons ha3 .nil))
                by_cases hroom : l + m ≤ cc
                · have hrm : (l + m) * z.length ≤ cc * z.length := Nat.mul_le_mul_right _ hroom
                  have hlm : (l + m) * z.length = l * z.length + m * z.length := Nat.add_mul _ _ _
                  by_cases hsure : l + m ≤ c
                  · rw [if_pos hsure] at h2
                    cases h2
                    have hrm' : (l + m) * z.length ≤ c * z.length := Nat.mul_le_mul_right _ hsure
                    have hrun := I.run (n := 1) (H := H) (fun C K0 => insK_room (C := C) (n := 1) (K0 := K0) (fR := fR) (tI := tI) (cv := cv) I.hS I.hsz I.ovl hil hm0 hroom (by omega) hf1 hne hf2 (by omega) htl (by intro h; subst h; simp at hx0)
                      (cut_ok hf1 (by omega)) (stL_ok hf1 (by rw [htll]; omega) ht1)
                      (cut_ok (xs := ys) (by rw [AHeap.set_other _ _ hne]; exact hf2) (by omega)) (stL_ok (AHeap.set_same _ _ _) (by rw [spl_length, hvl]; omega) hn1))
                    refine (body_sound none_ok none_ad I.mixed 1 g _ H _ _ hrun hl (hval rfl) B ι w _ r hargs).mono ?_
                    rintro e w' ⟨v', ι', rfl, k1, k2, k3⟩
                    refine ⟨v', ι', rfl, ?_, k2, k3⟩
                    have hL' : ι' b = some L := by rw [k3.ext b (r.dom b L hL)]; exact hL
                    obtain ⟨L', e1, rfl, _⟩ := rv_even k1 rfl (by omega)
                    rw [hL'] at e1
                    cases e1
                    exact .sli hL' hc hroom (by rw [hsz]; omega)
                  · rw [if_neg hsure] at h2
                    cases h2
                    have hbn : b < H.n := r.dom b L hL
                    have hcz : (cc - c) * z.length + c * z.length = cc * z.length := by rw [← Nat.add_mul]; congr 1; omega
                    have hxl : (xs ++ List.replicate ((cc - c) * z.length) top).length = o + cc * z.length := by rw [List.length_append, List.length_replicate]; omega
                    have hk : RB P B ι w L (.cells (xs ++ List.replicate ((cc - c) * z.length) top) e' true) := by
                      refine ⟨cs, e', fr, g1, g2, by rw [hxl]; omega, fun j u hj => ?_, fun _ => ⟨gB, rfl, gsz, gfr⟩⟩
                      by_cases hjx : j < xs.length
                      · rw [List.getElem?_append_left hjx] at hj
                        exact g4 j u hj
                      · have hjl := (List.getElem?_eq_some_iff.1 hj).1
                        rw [List.getElem?_append_right (by omega), List.getElem?_replicate] at hj
                        split at hj
                        · cases hj
                          exact ⟨_, Array.getElem?_eq_getElem (by omega), .unk _⟩
                        · cases hj
                    obtain ⟨rx, sx⟩ := r.turn hL (by rw [hf1]; rfl) _ (w' := w) hk rfl (fun _ _ => rfl) rfl rfl rfl
                    have htx : ((xs ++ List.replicate ((cc - c) * z.length) top).drop (o + i * z.length)).take ((l - i) * z.length) = (xs.drop (o + i * z.length)).take ((l - i) * z.length) := by
                      rw [List.drop_append_of_le_length (by omega), List.take_append_of_le_length (by rw [List.length_drop]; omega)]
                    have hclx : Cl (H.set b (.cells (xs ++ List.replicate ((cc - c) * z.length) top) e' true)) := by
                      refine hl.set b (fun _ _ _ hk => ?_) (fun _ hk => by cases hk)
                      cases hk
                      refine ADs.append (hl.cells _ _ _ _ hf1) fun u hu => ?_
                      rw [List.mem_replicate] at hu
                      rw [hu.2]
                      exact .unk
                    have hfit : o + i * z.length + (l - i) * z.length ≤ (xs ++ List.replicate ((cc - c) * z.length) top).length := by rw [hxl]; omega
                    have hfit2 : o + (i + m) * z.length + (l - i) * z.length ≤ (xs ++ List.replicate ((cc - c) * z.length) top).length := by rw [hxl]; omega
                    have hrun := I.run (n := 1) (H := H.set b (.cells (xs ++ List.replicate ((cc - c) * z.length) top) e' true)) (fun C K0 => insK_room (C := C) (n := 1) (K0 := K0) (fR := fR) (tI := tI) (cv := cv) I.hS I.hsz I.ovl hil hm0 hroom (by omega)
                      (AHeap.set_same _ _ _) hne (by rw [AHeap.set_other _ _ hne]; exact hf2) (by omega) htl (by intro h; rw [h] at hxl; simp at hxl; omega)
                      (cut_ok (AHeap.set_same _ _ _) hfit) (stL_ok (AHeap.set_same _ _ _) (by rw [htx, htll]; exact hfit2) (by rw [htx]; exact ht1))
                      (cut_ok (xs := ys) (by rw [AHeap.set_other _ _ hne, AHeap.set_other _ _ hne]; exact hf2) (by omega)) (stL_ok (AHeap.set_same _ _ _) (by rw [spl_length, hvl, hxl]; omega) hn1))
                    refine (body_sound none_ok none_ad I.mixed 1 g _ _ _ _ hrun hclx (hval rfl) B ι w _ rx hargs).mono ?_
                    rintro en w' ⟨v', ι', rfl, k1, k2, k3⟩
                    have k3 := sx.trans k3
                    have hL' : ι' b = some L := by rw [k3.ext b hbn]; exact hL
                    obtain ⟨L', e1, rfl, _⟩ := rv_even k1 rfl (by omega)
                    rw [hL'] at e1
                    cases e1
                    have hblk2 := k2.blk b L hL'
                    rw [AHeap.set_same] at hblk2
                    obtain ⟨cs2, e2, fr2, q1, q2, q3, q4, q5⟩ := hblk2
                    have q5 := q5 rfl
                    rw [spl_length, spl_length, hxl] at q3
                    have hnone : ι' H.n = none := by
                      cases hq : ι' H.n with
                      | none => rfl
                      | some M =>
                        have := (k2.lt _ M hq).1
                        simp at this
                    have hup : ∀ x M, ι' x = some M → up ι' H.n ⟨L.cb, L.base + o, L.sz, L.total⟩ x = some M := by
                      intro x M hx
                      have : x ≠ H.n := by rintro rfl; rw [hnone] at hx; cases hx
                      simp [up, this, hx]
                    have hnew : up ι' H.n ⟨L.cb, L.base + o, L.sz, L.total⟩ H.n = some ⟨L.cb, L.base + o, L.sz, L.total⟩ := by simp [up]
                    have hoth : ∀ x, x ≠ H.n → up ι' H.n ⟨L.cb, L.base + o, L.sz, L.total⟩ x = ι' x := fun x hx => by simp [up, hx]
                    have hfold : ∀ {k : Blk} {x : Nat}, x ≠ H.n → x ≠ b → ((H.set b .dead).push k).f x = H.f x := by
                      intro k x hx hxb
                      rw [AHeap.push_old (H.set b .dead) _ (show x ≠ (H.set b .dead).n from hx), AHeap.set_other _ _ hxb]
                    have hfb : ∀ {k : Blk}, ((H.set b .dead).push k).f b = .dead := by
                      intro k
                      rw [AHeap.push_old (H.set b .dead) _ (show b ≠ (H.set b .dead).n from Nat.ne_of_lt hbn), AHeap.set_same]
                    have hfn : ∀ {k : Blk}, ((H.set b .dead).push k).f H.n = k := fun {k} => AHeap.push_new (H.set b .dead) k
                    refine ⟨_, up ι' H.n ⟨L.cb, L.base + o, L.sz, L.total⟩, rfl, ?_, ⟨fun x M hx => ?_, fun x M hx => ?_, fun x y M M' hx hy hxy hox hay => ?_, k2.base, hOk.1.ver, k2.glob⟩,
                      ⟨fun x hx => ?_, hOk.2.2.n, k3.wn, k3.os, k3.tape, k3.output, k3.fr, fun x M hx hM => ?_, fun x M hx hM ho => ?_, hOk.2.2⟩⟩
                    · have := RV.sli (ι := up ι' H.n ⟨L.cb, L.base + o, L.sz, L.total⟩) (o := 0) (n := l + m) (c := l + m) (cc := cc) hnew hroom hroom (by simp only [hsz]; omega)
                      simpa using this
                    · by_cases hxn : x = H.n
                      · subst hxn
                        rw [hnew] at hx
                        cases hx
                        rw [hfn]
                        refine ⟨cs2, e2, fr2, q1, q2, ?_, fun j u hj => ?_, fun _ => q5⟩
                        · have holdl : ((xs.drop o).take (i * z.length)).length = i * z.length := by rw [List.length_take, List.length_drop]; omega
                          rw [List.length_append, List.length_append, hvl, htll, holdl]
                          show L.base + o + _ ≤ _
                          omega
                        · have hjl := (List.getElem?_eq_some_iff.1 hj).1
                          have holdl : ((xs.drop o).take (i * z.length)).length = i * z.length := by rw [List.length_take, List.length_drop]; omega
                          rw [List.length_append, List.length_append, hvl, htll, holdl] at hjl
                          have hic := ins_cells (xs := xs ++ List.replicate ((cc - c) * z.length) top) (new := (ys.drop ov).take (m * z.length)) (o := o) (A := i * z.length) (M := m * z.length) (T := (l - i) * z.length) (by rw [hxl]; omega) hvl (j := j) (by omega)
                          rw [htx, show ((xs ++ List.replicate ((cc - c) * z.length) top).drop o).take (i * z.length) = (xs.drop o).take (i * z.length) by
                            rw [List.drop_append_of_le_length (by omega), List.take_append_of_le_length (by rw [List.length_drop]; omega)]] at hic
                          rw [← hA] at hic
                          rw [← hic] at hj
                          obtain ⟨u', c1, c2⟩ := q4 (o + j) u (by rw [htx]; exact hj)
                          exact ⟨u', by rw [Nat.add_assoc]; exact c1, c2.mono hup⟩
                      · rw [hoth x hxn] at hx
                        by_cases hxb : x = b
                        · subst hxb
                          rw [hfb]
                          trivial
                        · rw [hfold hxn hxb]
                          have := k2.blk x M hx
                          rw [AHeap.set_other _ _ hxb, AHeap.set_other _ _ hxb, AHeap.set_other _ _ hxb] at this
                          exact this.mono hup
                    · by_cases hxn : x = H.n
                      · subst hxn
                        rw [hnew] at hx
                        cases hx
                        exact ⟨by simp, (k2.lt b L hL').2⟩
                      · rw [hoth x hxn] at hx
                        have := k2.lt x M hx
                        exact ⟨by have := this.1; simp at this ⊢; omega, this.2⟩
                    · have hob : owned (.cells (spl (spl (xs ++ List.replicate ((cc - c) * z.length) top) (o + (i + m) * z.length) (((xs ++ List.replicate ((cc - c) * z.length) top).drop (o + i * z.length)).take ((l - i) * z.length))) (o + i * z.length) ((ys.drop ov).take (m * z.length))) e' true) = true := rfl
                      by_cases hxn : x = H.n
                      · have hyn : y ≠ H.n := by rintro rfl; exact hxy hxn
                        subst hxn
                        rw [hnew] at hx
                        cases hx
                        rw [hoth y hyn] at hy
                        have hyb : y ≠ b := by rintro rfl; rw [hfb] at hay; simp [alive] at hay
                        rw [hfold hyn hyb] at hay
                        exact k2.inj b y L M' hL' hy (Ne.symm hyb) (by rw [AHeap.set_same]; rfl) (by rw [AHeap.set_other _ _ hyb, AHeap.set_other _ _ hyb, AHeap.set_other _ _ hyb]; exact hay)
                      · rw [hoth x hxn] at hx
                        have hxb : x ≠ b := by rintro rfl; rw [hfb] at hox; simp [owned] at hox
                        rw [hfold hxn hxb] at hox
                        by_cases hyn : y = H.n
                        · subst hyn
                          rw [hnew] at hy
                          cases hy
                          exact k2.inj x b M L hx hL' hxb (by rw [AHeap.set_other _ _ hxb, AHeap.set_other _ _ hxb, AHeap.set_other _ _ hxb]; exact hox) (by rw [AHeap.set_same]; rfl)
                        · rw [hoth y hyn] at hy
                          have hyb : y ≠ b := by rintro rfl; rw [hfb] at hay; simp [alive] at hay
                          rw [hfold hyn hyb] at hay
                          exact k2.inj x y M M' hx hy hxy (by rw [AHeap.set_other _ _ hxb, AHeap.set_other _ _ hxb, AHeap.set_other _ _ hxb]; exact hox) (by rw [AHeap.set_other _ _ hyb, AHeap.set_other _ _ hyb, AHeap.set_other _ _ hyb]; exact hay)
                    · rw [hoth x (Nat.ne_of_lt hx)]; exact k3.ext x hx
                    · by_cases hxn : x = H.n
                      · subst hxn
                        rw [hnew] at hM
                        cases hM
                        exact .inr ⟨b, L, hbn, hL, by rw [hf1]; rfl, rfl⟩
                      · rw [hoth x hxn] at hM
                        have := (k2.lt x M hM).1
                        simp at this
                        omega
                    · have hxn : x ≠ H.n := Nat.ne_of_lt hx
                      have hxb : x ≠ b := by rintro rfl; rw [hfb] at ho; simp [owned] at ho
                      rwa [hfold hxn hxb] at ho
                · have hsure : ¬ l + m ≤ c := by omega
                  rw [if_neg hsure] at h2
                  cases h2
                  have hbn : b < H.n := r.dom b L hL
                  have hbvn : bv < H.n := by
                    have k3 := had (.slice (some ⟨bv, ov, none⟩) m cv) (by simp)
                    cases k3
                    assumption
                  have holdl : ((xs.drop o).take (i * z.length)).length = i * z.length := by rw [List.length_take, List.length_drop]; omega
                  have hkk : (l + m - i) * z.length = (l - i) * z.length + m * z.length := by rw [← Nat.add_mul]; congr 1; omega
                  have hzl : (zeros z (l + m - i)).length = (l + m - i) * z.length := zeros_length _ _
                  have ho : oldOf z.length i H (some ⟨b, o, none⟩) = some ((xs.drop o).take (i * z.length)) := by
                    unfold oldOf
                    split
                    · rename_i h0; subst h0; simp
                    · exact cut_ok hf1 (by omega)
                  have hrun := I.run (n := 1) (H := H) (fun C K0 => insK_new (C := C) (n := 1) (K0 := K0) (fO := fO) (fR := fR) (cv := cv) I.hS I.hI I.hz I.hsz hil hn hm0 (by omega) hb1 hb2 hz1 ho rfl
                    (cut_ok (xs := ys) (by rw [AHeap.push_old _ _ (Nat.ne_of_lt hbvn)]; exact hf2) (by omega)) (stL_ok (AHeap.push_new _ _) (by rw [List.length_append, holdl, hzl, hvl]; omega) hn1)
                    (cut_ok (xs := xs) (by rw [AHeap.set_other _ _ (Nat.ne_of_lt hbn), AHeap.push_old _ _ (Nat.ne_of_lt hbn)]; exact hf1) (by omega))
                    (stL_ok (AHeap.set_same _ _ _) (by rw [spl_length, List.length_append, holdl, hzl, htll]; omega) ht1) (AHeap.set_same _ _ _))
                  refine (body_sound none_ok none_ad I.mixed 1 g _ H _ _ hrun hl (hval rfl) B ι w _ r hargs).mono ?_
                  rintro en w' ⟨v', ι', rfl, k1, k2, k3⟩
                  have hrow := ins_row (old := (xs.drop o).take (i * z.length)) (zs := zeros z (l + m - i)) (new := (ys.drop ov).take (m * z.length)) (tail := (xs.drop (o + i * z.length)).take ((l - i) * z.length)) (by rw [hzl, hvl, htll]; omega)
                  rw [holdl, hvl, ← hA] at hrow
                  refine ⟨v', ι', rfl, k1, k2.less rfl (fun x => ?_) hOk.1.ver, k3.less rfl (fun x => ?_) hOk.2.2⟩
                  all_goals
                    by_cases hx : x = H.n
                    · left
                      subst hx
                      rw [AHeap.set_same, ← hrow]
                      exact AHeap.push_new (H.set b .dead) _
                    · by_cases hxb : x = b
                      · right
                        subst hxb
                        rw [AHeap.push_old (H.set x .dead) _ (show x ≠ (H.set x .dead).n from hx), AHeap.set_same]
                      · left
                        rw [AHeap.set_other _ _ hx, AHeap.set_other _ _ hx, AHeap.push_old H _ hx, AHeap.push_old (H.set b .dead) _ (show x ≠ (H.set b .dead).n from hx), AHeap.set_other _ _ hxb]
            · cases h2
          · cases h2
        · cases h2
    · simp [hg] at h2

end Go.Proofs.Ytehnchfnhbmkdaa.Eng

/-
  The engine, part 21: without fuel: what a call gives from some number of rounds on ('D'), code and loops in the limit, and the equations by which it is reckoned.
  Conditions: none. By an AI agent.
-/
namespace Go.Proofs.Ytehnchfnhbmkdaa.Eng
open Go

/-- From some number on it is r. -/
def Evt {α : Type} (g : Nat → Option α) (r : α) : Prop := ∃ n0, ∀ n, n0 ≤ n → g n = some r

theorem Evt.uniq {α : Type} {g : Nat → Option α} {r s : α} (a : Evt g r) (b : Evt g s) : r = s := by
  obtain ⟨n, hn⟩ := a
  obtain ⟨m, hm⟩ := b
  have h := (hn (n + m) (by omega)).symm.trans (hm (n + m) (by omega))
  cases h
  rfl

theorem Evt.of_eq {α : Type} {x : Option α} {r : α} (h : x = some r) : Evt (fun _ => x) r := ⟨0, fun _ _ => h⟩

theorem Evt.bind {α β : Type} {g : Nat → Option α} {f : Nat → α → Option β} {a : α} {b : β} (h : Evt g a) (k : Evt (fun n => f n a) b) : Evt (fun n => (g n).bind (f n)) b := by
  obtain ⟨n, hn⟩ := h
  obtain ⟨m, hm⟩ := k
  refine ⟨n + m, fun i hi => ?_⟩
  dsimp only
  rw [hn i (by omega)]
  exact hm i (by omega)

theorem Evt.congr {α : Type} {g g' : Nat → Option α} {r : α} (h : Evt g r) (e : ∀ n, g' n = g n) : Evt g' r := by
  obtain ⟨n, hn⟩ := h
  exact ⟨n, fun i hi => (e i).trans (hn i hi)⟩

theorem Evt.succ {α : Type} {g : Nat → Option α} {r : α} (h : Evt (fun n => g (n + 1)) r) : Evt g r := by
  obtain ⟨n, hn⟩ := h
  refine ⟨n + 1, fun i hi => ?_⟩
  obtain ⟨j, rfl⟩ : ∃ j, i = j + 1 := ⟨i - 1, by omega⟩
  exact hn j (by omega)

open Classical in
noncomputable def lim {α : Type} (g : Nat → Option α) : Option α := if h : ∃ r, Evt g r then some h.choose else none

theorem lim_some {α : Type} {g : Nat → Option α} {r : α} : lim g = some r ↔ Evt g r := by
  unfold lim
  constructor
  · intro h
    split at h
    · rename_i hx
      cases h
      exact hx.choose_spec
    · cases h
  · intro h
    have hx : ∃ r, Evt g r := ⟨r, h⟩
    rw [dif_pos hx]
    exact congrArg some (hx.choose_spec.uniq h)

theorem lim_none {α : Type} {g : Nat → Option α} (h : ∀ r, ¬ Evt g r) : lim g = none := by
  unfold lim
  rw [dif_neg]
  rintro ⟨r, hr⟩
  exact h r hr

/-! ### Loops and code in the limit -/

theorem dLoop_mono {body : Env → AHeap → DRes} {keep : List Nat} : ∀ {m m' : Nat} {T : Env} {H : AHeap} {r : DExit × Env × AHeap}, m ≤ m' → dLoop body keep m T H = some r → dLoop body keep m' T H = some r
  | 0, _, _, _, _, _, h => by simp [dLoop] at h
  | m + 1, 0, _, _, _, hm, _ => by omega
  | m + 1, m' + 1, T, H, r, hm, h => by
    rw [dLoop] at h ⊢
    cases hb : body (clr keep T) H with
    | none => rw [hb] at h; cases h
    | some x =>
      rw [hb] at h
      obtain ⟨e, T', H'⟩ := x
      cases e with
      | normal => exact dLoop_mono (by omega) h
      | exit i => exact h
      | ret => exact h

noncomputable def loopI (body : Env → AHeap → DRes) (keep : List Nat) (T : Env) (H : AHeap) : DRes := lim fun m => dLoop body keep m T H

theorem loopI_some {body : Env → AHeap → DRes} {keep : List Nat} {T : Env} {H : AHeap} {r : DExit × Env × AHeap} : loopI body keep T H = some r ↔ ∃ m, dLoop body keep m T H = some r := by
  unfold loopI
  rw [lim_some]
  constructor
  · rintro ⟨n, hn⟩
    exact ⟨n, hn n (Nat.le_refl _)⟩
  · rintro ⟨m, hm⟩
    exact ⟨m, fun i hi => dLoop_mono hi hm⟩

noncomputable def dCodeI (P : Program) (N : Nat) (call : CallF) : DCode → Env → AHeap → DRes
  | .skip, T, H => some (.normal, T, H)
  | .region _ ops draw, T, H => (if draw then dDraw P N call ops T H else dOps P N call ops ops.toList T H).map fun r => (.normal, r.1, r.2)
  | .seq a b, T, H => (dCodeI P N call a T H).bind fun r =>
    match r.1 with
    | .normal => dCodeI P N call b r.2.1 r.2.2
    | e => some (e, r.2.1, r.2.2)
  | .cond keep c x y, T, H =>
    match ev T c with
    | .bool b => (if b then dCodeI P N call x T H else dCodeI P N call y T H).map fun r => match r.1 with | .normal => (.normal, clr keep r.2.1, r.2.2) | e => (e, r.2.1, r.2.2)
    | _ => none
  | .block keep id b, T, H => (dCodeI P N call b T H).map fun r =>
    match r.1 with
    | .normal => (.normal, clr keep r.2.1, r.2.2)
    | .exit j => if j = id then (.normal, clr keep r.2.1, r.2.2) else (.exit j, r.2.1, r.2.2)
    | .ret => (.ret, r.2.1, r.2.2)
  | .loop keep b, T, H => loopI (dCodeI P N call b) keep T H
  | .exit id, T, H => some (.exit id, T, H)
  | .ret keep, T, H => some (.ret, clr keep T, H)
  | .bad _, _, _ => none

/-! ### What is so in the limit is so from some number on -/

def CApx (C : CallF) (c : Nat → CallF) : Prop := ∀ f args H r, C f args H = some r → Evt (fun n => c n f args H) r

theorem step_apx {P : Program} {N : Nat} {C : CallF} {c : Nat → CallF} (hc : CApx C c) {ops : Array Oper} {o : Oper} {T : Env} {H : AHeap} {r : Value × AHeap}
    (h : dStep P N C ops o T H = some r) : Evt (fun n => dStep P N (c n) ops o T H) r := by
  unfold dStep at h ⊢
  split at h
  · rename_i hd
    simp only [hd, if_true]
    split at h
    · rename_i hg
      split at h
      · rename_i ho; exact Evt.of_eq h
      · rename_i ho; exact hc _ _ _ _ h
      · cases h
    · exact Evt.of_eq h
    · cases h
  · cases h

theorem ops_apx {P : Program} {N : Nat} {C : CallF} {c : Nat → CallF} (hc : CApx C c) {ops : Array Oper} : ∀ (l : List Oper) {T : Env} {H : AHeap} {r : Env × AHeap},
    dOps P N C ops l T H = some r → Evt (fun n => dOps P N (c n) ops l T H) r
  | [], _, _, _, h => Evt.of_eq h
  | o :: l, T, H, r, h => by
    rw [dOps] at h
    obtain ⟨x, h1, h2⟩ := Option.bind_eq_some_iff.1 h
    exact Evt.bind (step_apx hc h1) (ops_apx hc l h2)

theorem trace_apx {P : Program} {N : Nat} {C : CallF} {c : Nat → CallF} (hc : CApx C c) {ops : Array Oper} : ∀ (l : List Oper) {T : Env} {H : AHeap} {r : List (Env × AHeap)},
    dTrace P N C ops l T H = some r → Evt (fun n => dTrace P N (c n) ops l T H) r
  | [], _, _, _, h => Evt.of_eq h
  | o :: l, T, H, r, h => by
    rw [dTrace] at h
    obtain ⟨x, h1, h2⟩ := Option.bind_eq_some_iff.1 h
    obtain ⟨y, h3, h4⟩ := Option.map_eq_some_iff.1 h2
    refine Evt.bind (step_apx hc h1) ?_
    obtain ⟨n, hn⟩ := trace_apx hc l h3
    exact ⟨n, fun i hi => by dsimp only at hn ⊢; rw [hn i hi]; exact congrArg some h4⟩

theorem draw_apx {P : Program} {N : Nat} {C : CallF} {c : Nat → CallF} (hc : CApx C c) {ops : Array Oper} {T : Env} {H : AHeap} {r : Env × AHeap}
    (h : dDraw P N C ops T H = some r) : Evt (fun n => dDraw P N (c n) ops T H) r := by
  unfold dDraw at h ⊢
  split at h
  · rename_i hd
    simp only [hd, if_true]
    obtain ⟨x, h1, h2⟩ := Option.bind_eq_some_iff.1 h
    exact Evt.bind (trace_apx hc _ h1) (Evt.of_eq h2)
  · cases h

theorem loop_apx {body : Env → AHeap → DRes} {bodies : Nat → Env → AHeap → DRes} (hb : ∀ T H r, body T H = some r → Evt (fun n => bodies n T H) r) (keep : List Nat) :
    ∀ (m : Nat) {T : Env} {H : AHeap} {r : DExit × Env × AHeap}, dLoop body keep m T H = some r → ∃ n0, ∀ n, n0 ≤ n → ∀ m', m ≤ m' → dLoop (bodies n) keep m' T H = some r
  | 0, _, _, _, h => by simp [dLoop] at h
  | m + 1, T, H, r, h => by
    rw [dLoop] at h
    obtain ⟨x, h1, h2⟩ := Option.bind_eq_some_iff.1 h
    obtain ⟨n1, hn1⟩ := hb _ _ _ h1
    dsimp only at hn1
    obtain ⟨e, T', H'⟩ := x
    cases e with
    | normal =>
      obtain ⟨n2, hn2⟩ := loop_apx hb keep m h2
      refine ⟨n1 + n2, fun n hn m' hm => ?_⟩
      obtain ⟨j, rfl⟩ : ∃ j, m' = j + 1 := ⟨m' - 1, by omega⟩
      rw [dLoop, hn1 n (by omega)]
      exact hn2 n (by omega) j (by omega)
    | exit i =>
      refine ⟨n1, fun n hn m' hm => ?_⟩
      obtain ⟨j, rfl⟩ : ∃ j, m' = j + 1 := ⟨m' - 1, by omega⟩
      rw [dLoop, hn1 n (by omega)]
      exact h2
    | ret =>
      refine ⟨n1, fun n hn m' hm => ?_⟩
      obtain ⟨j, rfl⟩ : ∃ j, m' = j + 1 := ⟨m' - 1, by omega⟩
      rw [dLoop, hn1 n (by omega)]
      exact h2

theorem code_apx {P : Program} {N : Nat} {C : CallF} {c : Nat → CallF} (hc : CApx C c) : ∀ (x : DCode) {T : Env} {H : AHeap} {r : DExit × Env × AHeap},
    dCodeI P N C x T H = some r → Evt (fun n => dCode P N (c n) n x T H) r
  | .skip, _, _, _, h => Evt.of_eq h
  | .region id ops draw, T, H, r, h => by
    rw [dCodeI] at h
    obtain ⟨y, h1, h2⟩ := Option.map_eq_some_iff.1 h
    have key : Evt (fun n => if draw then dDraw P N (c n) ops T H else dOps P N (c n) ops ops.toList T H) y := by
      cases draw with
      | true => simp only [if_true] at h1 ⊢; exact draw_apx hc h1
      | false => simp only [Bool.false_eq_true, if_false] at h1 ⊢; exact ops_apx hc _ h1
    obtain ⟨n, hn⟩ := key
    dsimp only at hn
    exact ⟨n, fun i hi => by dsimp only; rw [dCode, hn i hi]; exact congrArg some h2⟩
  | .seq a b, T, H, r, h => by
    rw [dCodeI] at h
    obtain ⟨y, h1, h2⟩ := Option.bind_eq_some_iff.1 h
    obtain ⟨n1, hn1⟩ := code_apx hc a h1
    dsimp only at hn1
    obtain ⟨e, T', H'⟩ := y
    cases e with
    | normal =>
      obtain ⟨n2, hn2⟩ := code_apx hc b h2
      dsimp only at hn2
      exact ⟨n1 + n2, fun i hi => by dsimp only; rw [dCode, hn1 i (by omega)]; exact hn2 i (by omega)⟩
    | exit j => exact ⟨n1, fun i hi => by dsimp only; rw [dCode, hn1 i hi]; exact h2⟩
    | ret => exact ⟨n1, fun i hi => by dsimp only; rw [dCode, hn1 i hi]; exact h2⟩
  | .cond keep q a b, T, H, r, h => by
    rw [dCodeI] at h
    split at h
    · rename_i v hv
      obtain ⟨y, h1, h2⟩ := Option.map_eq_some_iff.1 h
      have key : Evt (fun n => if v then dCode P N (c n) n a T H else dCode P N (c n) n b T H) y := by
        cases v with
        | true => simp only [if_true] at h1 ⊢; exact code_apx hc a h1
        | false => simp only [Bool.false_eq_true, if_false] at h1 ⊢; exact code_apx hc b h1
      obtain ⟨n, hn⟩ := key
      dsimp only at hn
      exact ⟨n, fun i hi => by dsimp only; rw [dCode, hv]; simp only; rw [hn i hi]; exact congrArg some h2⟩
    · cases h
  | .block keep id b, T, H, r, h => by
    rw [dCodeI] at h
    obtain ⟨y, h1, h2⟩ := Option.map_eq_some_iff.1 h
    obtain ⟨n, hn⟩ := code_apx hc b h1
    dsimp only at hn
    exact ⟨n, fun i hi => by dsimp only; rw [dCode, hn i hi]; exact congrArg some h2⟩
  | .loop keep b, T, H, r, h => by
    rw [dCodeI, loopI_some] at h
    obtain ⟨m, hm⟩ := h
    obtain ⟨n0, hn⟩ := loop_apx (fun T H r h => code_apx hc b h) keep m hm
    exact ⟨n0 + m, fun i hi => by dsimp only; rw [dCode]; exact hn i (by omega) i (by omega)⟩
  | .exit id, _, _, _, h => Evt.of_eq h
  | .ret keep, _, _, _, h => Evt.of_eq h
  | .bad _, _, _, _, h => by cases h

/-! ### The same with continuations, loops as a parameter -/

abbrev LoopH := (Env → AHeap → K → Res) → List Nat → Env → AHeap → K → Res

/-- An if; the arms know what is kept behind it. -/
def condL (c : Value) (x y : K → Res) (k : K) : Res :=
  match c with
  | .bool b => if b then x k else y k
  | _ => none

def shareL (f : K → Res) (k : K) : Res := f k

/-- What comes behind a block. -/
def blkK (keep : List Nat) (id : Nat) (k : K) : K := fun e T H => match e with
  | .normal => k .normal (clr keep T) H
  | .exit j => if j = id then k .normal (clr keep T) H else k (.exit j) T H
  | .ret => k .ret T H

/-- The combinators, as variables. -/
structure CombL where
  b : Comb
  c : Value → (K → Res) → (K → Res) → K → Res
  s : (K → Res) → K → Res

abbrev GT := Value → Bool → ((Value → AHeap → Res) → Res) → AHeap → (Value → AHeap → Res) → Res
abbrev CT := Value → (K → Res) → (K → Res) → K → Res
abbrev ST := (K → Res) → K → Res

def stdL : CombL := ⟨std, condL, shareL⟩

theorem stdL_b : stdL.b = std := rfl
theorem stdL_g : stdL.b.g = guardK := rfl
theorem stdL_c : stdL.c = condL := rfl
theorem stdL_s : stdL.s = shareL := rfl

def dCodeL (M : CombL) (P : Program) (N : Nat) (call : CallF) (LP : LoopH) : DCode → Env → AHeap → K → Res
  | .skip, T, H, k => k .normal T H
  | .region _ ops draw, T, H, k => if draw then dDrawK M.b P N call ops T H (k .normal) else dOpsK M.b P N call ops ops.toList T H (k .normal)
  | .seq a b, T, H, k => dCodeL M P N call LP a T H (seqK (fun T' H' => dCodeL M P N call LP b T' H' k) k)
  | .cond keep c x y, T, H, k => M.c (ev T c) (fun k => dCodeL M P N call LP x T H (afterK keep k)) (fun k => dCodeL M P N call LP y T H (afterK keep k)) k
  | .block keep id b, T, H, k => M.s (fun k => dCodeL M P N call LP b T H (blkK keep id k)) k
  | .loop keep b, T, H, k => LP (dCodeL M P N call LP b) keep (clr keep T) H k
  | .exit id, T, H, k => k (.exit id) T H
  | .ret keep, T, H, k => k .ret (clr keep T) H
  | .bad _, _, _, _ => none

noncomputable def limLP : LoopH := fun body keep T H k => lim fun m => dLoopK body keep m T H k

theorem limLP_eq {body : Env → AHeap → DRes} {bodyK : Env → AHeap → K → Res} (hb : PieceK body bodyK) (keep : List Nat) (T : Env) (H : AHeap) (k : K) :
    limLP bodyK keep (clr keep T) H k = (loopI body keep T H).bind fun r => k r.1 r.2.1 r.2.2 := by
  unfold limLP
  have e : (fun m => dLoopK bodyK keep m (clr keep T) H k) = fun m => (dLoop body keep m T H).bind fun r => k r.1 r.2.1 r.2.2 := funext fun m => dLoopK_eq hb keep m T H k
  rw [e]
  cases h : loopI body keep T H with
  | none =>
    refine lim_none fun r ⟨n, hn⟩ => ?_
    obtain ⟨x, hx, _⟩ := Option.bind_eq_some_iff.1 (hn n (Nat.le_refl _))
    rw [loopI_some.2 ⟨n, hx⟩] at h
    cases h
  | some x =>
    obtain ⟨m, hm⟩ := loopI_some.1 h
    simp only [Option.bind_some]
    cases hk : k x.1 x.2.1 x.2.2 with
    | none =>
      refine lim_none fun r ⟨n, hn⟩ => ?_
      have := hn (n + m) (by omega)
      dsimp only at this
      rw [dLoop_mono (by omega) hm] at this
      simp only [Option.bind_some, hk] at this
      cases this
    | some r => exact lim_some.2 ⟨m, fun i hi => by dsimp only; rw [dLoop_mono hi hm]; exact hk⟩

theorem loopI_unfold {body : Env → AHeap → DRes} {keep : List Nat} {T : Env} {H : AHeap} : loopI body keep T H = (body (clr keep T) H).bind fun r =>
    match r.1 with
    | .normal => loopI body keep r.2.1 r.2.2
    | e => some (e, r.2.1, r.2.2) := by
  cases hb : body (clr keep T) H with
  | none =>
    cases h : loopI body keep T H with
    | none => rfl
    | some x =>
      obtain ⟨m, hm⟩ := loopI_some.1 h
      cases m with
      | zero => simp [dLoop] at hm
      | succ m => rw [dLoop, hb] at hm; cases hm
  | some y =>
    obtain ⟨e, T', H'⟩ := y
    cases e with
    | normal =>
      simp only [Option.bind_some]
      cases h : loopI body keep T' H' with
      | none =>
        cases h' : loopI body keep T H with
        | none => rfl
        | some x =>
          obtain ⟨m, hm⟩ := loopI_some.1 h'
          cases m with
          | zero => simp [dLoop] at hm
          | succ m =>
            rw [dLoop, hb] at hm
            rw [loopI_some.2 ⟨m, hm⟩] at h
            cases h
      | some x =>
        obtain ⟨m, hm⟩ := loopI_some.1 h
        exact loopI_some.2 ⟨m + 1, by rw [dLoop, hb]; exact hm⟩
    | exit i => exact loopI_some.2 ⟨1, by rw [dLoop, hb]; rfl⟩
    | ret => exact loopI_some.2 ⟨1, by rw [dLoop, hb]; rfl⟩

theorem dCodeL_eq {P : Program} {N : Nat} {call : CallF} : ∀ (c : DCode), PieceK (dCodeI P N call c) (dCodeL stdL P N call limLP c)
  | .skip => fun _ _ _ => rfl
  | .region id ops draw => fun T H k => by
    rw [dCodeL, dCodeI]
    cases draw with
    | false =>
      simp only [Bool.false_eq_true, if_false, stdL_b]
      rw [dOpsK_eq]
      cases dOps P N call ops ops.toList T H <;> rfl
    | true =>
      simp only [if_true, stdL_b]
      rw [dDrawK_eq]
      cases dDraw P N call ops T H <;> rfl
  | .seq a b => fun T H k => by
    rw [dCodeL, dCodeI, dCodeL_eq a]
    cases dCodeI P N call a T H with
    | none => rfl
    | some r =>
      obtain ⟨e, T', H'⟩ := r
      cases e with
      | normal => simp only [Option.bind_some, seqK]; exact dCodeL_eq b T' H' k
      | exit i => rfl
      | ret => rfl
  | .cond keep c x y => fun T H k => by
    rw [dCodeL, dCodeI, stdL_c]
    unfold condL
    cases ev T c with
    | bool b =>
      cases b with
      | true =>
        have hx := dCodeL_eq (P := P) (N := N) (call := call) x T H (afterK keep k)
        simp only [if_true]
        rw [hx]
        cases dCodeI P N call x T H with
        | none => rfl
        | some r => obtain ⟨e, T', H'⟩ := r; cases e <;> rfl
      | false =>
        have hy := dCodeL_eq (P := P) (N := N) (call := call) y T H (afterK keep k)
        simp only [Bool.false_eq_true, if_false]
        rw [hy]
        cases dCodeI P N call y T H with
        | none => rfl
        | some r => obtain ⟨e, T', H'⟩ := r; cases e <;> rfl
    | _ => rfl
  | .block keep id b => fun T H k => by
    rw [dCodeL, dCodeI, stdL_s]
    unfold shareL
    dsimp only
    rw [dCodeL_eq b]
    cases dCodeI P N call b T H with
    | none => rfl
    | some r =>
      obtain ⟨e, T', H'⟩ := r
      cases e with
      | normal => rfl
      | exit j => simp only [Option.bind_some, Option.map_some, blkK]; split <;> rfl
      | ret => rfl
  | .loop keep b => fun T H k => by
    rw [dCodeL, dCodeI]
    exact limLP_eq (dCodeL_eq b) keep T H k
  | .exit id => fun _ _ _ => rfl
  | .ret keep => fun _ _ _ => rfl
  | .bad c => fun _ _ _ => rfl

/-- What comes behind a round. -/
def roundK (loop : Env → AHeap → K → Res) (keep : List Nat) (k : K) : K := fun e T H => match e with
  | .normal => loop (clr keep T) H k
  | .exit i => k (.exit i) T H
  | .ret => k .ret T H

theorem limLP_round {P : Program} {N : Nat} {call : CallF} (c : DCode) (keep : List Nat) {T : Env} (hT : clr keep T = T) (H : AHeap) (k : K) :
    limLP (dCodeL stdL P N call limLP c) keep T H k = dCodeL stdL P N call limLP c T H (roundK (limLP (dCodeL stdL P N call limLP c) keep) keep k) := by
  have e1 := limLP_eq (dCodeL_eq (P := P) (N := N) (call := call) c) keep T H k
  rw [hT] at e1
  rw [e1, loopI_unfold, hT, dCodeL_eq c]
  cases dCodeI P N call c T H with
  | none => rfl
  | some r =>
    obtain ⟨e, T', H'⟩ := r
    cases e with
    | normal => simp only [Option.bind_some, roundK]; exact (limLP_eq (dCodeL_eq (P := P) (N := N) (call := call) c) keep T' H' k).symm
    | exit i => rfl
    | ret => rfl

def dBodyL (M : CombL) (P : Program) (hints : Hints) (call : CallF) (LP : LoopH) (f : FuncId) (args : List Value) (H : AHeap) : Res :=
  match P.funcs[f]? with
  | some fn => match fn.body with
    | some c => dCodeL M P fn.ntmps call LP (note c (hints f)).1 (argEnv 0 args) H (endK P fn.results.toList)
    | none => none
  | none => none

/-- The body of the i-th loop, and the loop. -/
def bodyL (M : CombL) (P : Program) (hints : Hints) (call : CallF) (LP : LoopH) (f : FuncId) (i : Nat) : Env → AHeap → K → Res := dCodeL M P (tmpsOf P f) call LP (loopOf P hints f i).2
def loopL (M : CombL) (P : Program) (hints : Hints) (call : CallF) (LP : LoopH) (f : FuncId) (i : Nat) : Env → AHeap → K → Res := LP (bodyL M P hints call LP f i) (loopOf P hints f i).1

theorem loopL_round {P : Program} {hints : Hints} {call : CallF} {f : FuncId} {i : Nat} {keep : List Nat} (hk : (loopOf P hints f i).1 = keep) {T : Env} (hT : clr keep T = T) (H : AHeap) (k : K) :
    loopL stdL P hints call limLP f i T H k = bodyL stdL P hints call limLP f i T H (roundK (loopL stdL P hints call limLP f i) keep k) := by
  subst hk
  exact limLP_round _ _ hT H k

theorem roundK_eq (loop : Env → AHeap → K → Res) (keep : List Nat) (k : K) : roundK loop keep k = afterK keep (seqK (fun T H => loop T H k) k) := by
  funext e T H
  cases e <;> rfl

theorem loopL_next {P : Program} {hints : Hints} {call : CallF} {f : FuncId} {i : Nat} {keep : List Nat} (hk : (loopOf P hints f i).1 = keep) {T : Env} (hT : clr keep T = T) (H : AHeap) (k : K) :
    loopL stdL P hints call limLP f i T H k = bodyL stdL P hints call limLP f i T H (afterK keep (seqK (fun T H => loopL stdL P hints call limLP f i T H k) k)) := by
  rw [loopL_round hk hT, roundK_eq]

/-! ### Calls in the limit -/

noncomputable def D (P : Program) (prims : Prims) (hints : Hints) : CallF := fun f args H => lim fun n => dCall P prims hints n f args H

theorem D_apx (P : Program) (prims : Prims) (hints : Hints) : CApx (D P prims hints) (dCall P prims hints) := fun _ _ _ _ h => lim_some.1 h

theorem D_body {P : Program} {prims : Prims} {hints : Hints} {f : FuncId} {args : List Value} {H : AHeap} {r : Value × AHeap} (hp : prims f = none)
    (h : dBodyL stdL P hints (D P prims hints) limLP f args H = some r) : D P prims hints f args H = some (tidy H r) := by
  refine lim_some.2 (Evt.succ ?_)
  have key : Evt (fun n => dBody P hints (dCall P prims hints n) n f args H) r := by
    unfold dBodyL at h
    unfold dBody
    cases hf : P.funcs[f]? with
    | none => rw [hf] at h; cases h
    | some fn =>
      rw [hf] at h
      simp only at h ⊢
      cases hb : fn.body with
      | none => rw [hb] at h; cases h
      | some c =>
        rw [hb] at h
        simp only at h ⊢
        rw [dCodeL_eq] at h
        obtain ⟨x, h1, h2⟩ := Option.bind_eq_some_iff.1 h
        refine Evt.bind (code_apx (D_apx P prims hints) _ h1) (Evt.of_eq ?_)
        obtain ⟨e, T, H1⟩ := x
        cases e with
        | exit i => cases h2
        | normal =>
          simp only [endK, resValsK_eq] at h2
          obtain ⟨l, hl, h3⟩ := Option.bind_eq_some_iff.1 h2
          simp only [hl, Option.map_some]
          exact h3
        | ret =>
          simp only [endK, resValsK_eq] at h2
          obtain ⟨l, hl, h3⟩ := Option.bind_eq_some_iff.1 h2
          simp only [hl, Option.map_some]
          exact h3
  obtain ⟨n, hn⟩ := key
  dsimp only at hn
  refine ⟨n, fun i hi => ?_⟩
  simp only [dCall, hp]
  rw [hn i hi]
  rfl

theorem D_prim {P : Program} {prims : Prims} {hints : Hints} {f : FuncId} {p : List Value → AHeap → Res} {args : List Value} {H : AHeap} {r : Value × AHeap} (hp : prims f = some p)
    (h : p args H = some r) : D P prims hints f args H = some r := by
  refine lim_some.2 ⟨1, fun n hn => ?_⟩
  obtain ⟨m, rfl⟩ : ∃ m, n = m + 1 := ⟨n - 1, by omega⟩
  simp only [dCall, hp]
  exact h

theorem D_run {P : Program} {prims : Prims} {hints : Hints} {f : FuncId} {args : List Value} {H : AHeap} {r : Value × AHeap} (h : D P prims hints f args H = some r) :
    ∃ n, dCall P prims hints n f args H = some r := by
  obtain ⟨n, hn⟩ := lim_some.1 h
  exact ⟨n, hn n (Nat.le_refl _)⟩

end Go.Proofs.Ytehnchfnhbmkdaa.Eng

/-
  The engine, part 22: laws of single operations, of the combinators and of the abstract heap, as rewrite rules for reckoning with symbols.
  Conditions: none. By an AI agent.
-/
namespace Go.Proofs.Ytehnchfnhbmkdaa.Eng
open Go

variable {P : Program} {H H' : AHeap} {k : Value → AHeap → Res} {kk : K}

/-! ### What comes later is looked at later -/
@[congr] theorem bareK_congr {x x' : Option Value} {H : AHeap} {k : Value → AHeap → Res} (h : Unit → x = x') : bareK x H k = bareK x' H k := by rw [h ()]
@[congr] theorem bothK_congr {x x' : Option (Value × AHeap)} {k : Value → AHeap → Res} (h : Unit → x = x') : bothK x k = bothK x' k := by rw [h ()]
@[congr] theorem quietK_congr {x x' : Option AHeap} {k : Value → AHeap → Res} (h : Unit → x = x') : quietK x k = quietK x' k := by rw [h ()]
@[congr] theorem enterK_congr {C : CallF} {g : FuncId} {a a' : List Value} {H : AHeap} {k : Value → AHeap → Res} (h : Unit → a = a') : enterK C g a H k = enterK C g a' H k := by rw [h ()]
@[congr] theorem callK_congr {C : CallF} {g g' : Value} {a a' : List Value} {H : AHeap} {k : Value → AHeap → Res} (h0 : Unit → g = g') (h : Unit → a = a') : callK P C g a H k = callK P C g' a' H k := by rw [h (), h0 ()]
@[congr] theorem nextK_congr {C : CallF} {x x' : Option DNext} {H : AHeap} {k : Value → AHeap → Res} (h : Unit → x = x') : nextK C H x k = nextK C H x' k := by rw [h ()]
@[congr] theorem pickK_congr {c c' a b : Value} {k : Value → Res} (h : Unit → c = c') : pickK c a b k = pickK c' a b k := by rw [h ()]
@[congr] theorem guardK_congr {g g' : Value} {w : Bool} {op : (Value → AHeap → Res) → Res} {H : AHeap} {k : Value → AHeap → Res} (h : Unit → g = g') : guardK g w op H k = guardK g' w op H k := by rw [h ()]
@[congr] theorem condL_congr {c c' : Value} {x y : K → Res} {k : K} (h : Unit → c = c') : condL c x y k = condL c' x y k := by rw [h ()]
@[congr] theorem checkK_congr {b b' : Bool} {r : Res} (h : Unit → b = b') : checkK b r = checkK b' r := by rw [h ()]

@[go_sem] theorem bareK_some' {v : Value} : bareK (some v) H k = k v H := _root_.id rfl
@[go_sem] theorem bothK_some' {v : Value} : bothK (some (v, H)) k = k v H := _root_.id rfl
@[go_sem] theorem quietK_some' : quietK (some H) k = k undef H := _root_.id rfl
@[go_sem] theorem checkK_true' {r : Res} : checkK true r = r := _root_.id rfl
@[go_sem] theorem pickK_t {a b : Value} {k : Value → Res} : pickK (.bool true) a b k = k a := _root_.id rfl
@[go_sem] theorem pickK_f {a b : Value} {k : Value → Res} : pickK (.bool false) a b k = k b := _root_.id rfl
@[go_sem] theorem condL_t {x y : K → Res} : condL (.bool true) x y kk = x kk := _root_.id rfl
@[go_sem] theorem condL_f {x y : K → Res} : condL (.bool false) x y kk = y kk := _root_.id rfl
@[go_sem ↓] theorem shareL_go {f : K → Res} : shareL f kk = f kk := _root_.id rfl
@[go_sem] theorem guardK_tt {op : (Value → AHeap → Res) → Res} : guardK (.bool true) true op H k = op k := _root_.id rfl
@[go_sem] theorem guardK_ff {op : (Value → AHeap → Res) → Res} : guardK (.bool false) false op H k = op k := _root_.id rfl
@[go_sem] theorem guardK_tf {op : (Value → AHeap → Res) → Res} : guardK (.bool true) false op H k = k undef H := _root_.id rfl
@[go_sem] theorem guardK_ft {op : (Value → AHeap → Res) → Res} : guardK (.bool false) true op H k = k undef H := _root_.id rfl
@[go_sem] theorem guardK_un {op : (Value → AHeap → Res) → Res} {b : Bool} : guardK (.tuple #[]) b op H k = k undef H := _root_.id rfl
@[go_sem] theorem undef_eq : undef = .tuple #[] := _root_.id rfl
attribute [go_sem] stdL_g stdL_c stdL_s
@[go_sem ↓] theorem afterK_n {keep : List Nat} {T : Env} : afterK keep kk .normal T H = kk .normal (clr keep T) H := _root_.id rfl
@[go_sem ↓] theorem afterK_e {keep : List Nat} {T : Env} {i : Nat} : afterK keep kk (.exit i) T H = kk (.exit i) T H := _root_.id rfl
@[go_sem ↓] theorem afterK_r {keep : List Nat} {T : Env} : afterK keep kk .ret T H = kk .ret T H := _root_.id rfl
@[go_sem ↓] theorem blkK_n {keep : List Nat} {id : Nat} {T : Env} : blkK keep id kk .normal T H = kk .normal (clr keep T) H := _root_.id rfl
@[go_sem ↓] theorem blkK_e {keep : List Nat} {T : Env} {i id : Nat} : blkK keep id kk (.exit i) T H = if i = id then kk .normal (clr keep T) H else kk (.exit i) T H := _root_.id rfl
@[go_sem ↓] theorem blkK_r {keep : List Nat} {id : Nat} {T : Env} : blkK keep id kk .ret T H = kk .ret T H := _root_.id rfl
@[go_sem ↓] theorem seqK_n {f : Env → AHeap → Res} {T : Env} : seqK f kk .normal T H = f T H := _root_.id rfl
@[go_sem ↓] theorem seqK_e {f : Env → AHeap → Res} {T : Env} {i : Nat} : seqK f kk (.exit i) T H = kk (.exit i) T H := _root_.id rfl
@[go_sem ↓] theorem seqK_r {f : Env → AHeap → Res} {T : Env} : seqK f kk .ret T H = kk .ret T H := _root_.id rfl
@[go_sem] theorem nextK_v {call : CallF} {H0 : AHeap} {v : Value} : nextK call H0 (some (.val v H)) k = k v H := _root_.id rfl
@[go_sem] theorem nextK_bare {call : CallF} {H0 : AHeap} {v : Value} : nextK call H0 (bare (some v) H) k = k v H := _root_.id rfl
@[go_sem] theorem nextK_both {call : CallF} {H0 : AHeap} {v : Value} : nextK call H0 (both (some (v, H))) k = k v H := _root_.id rfl
@[go_sem] theorem nextK_quiet {call : CallF} {H0 : AHeap} : nextK call H0 (quiet (some H)) k = k undef H := _root_.id rfl
attribute [go_sem ↓] bareK_some' bothK_some' quietK_some' checkK_true' pickK_t pickK_f condL_t condL_f guardK_tt guardK_ff guardK_tf guardK_ft guardK_un nextK_v nextK_bare nextK_both nextK_quiet
theorem enterK_eq {call : CallF} {g : FuncId} {args : List Value} {v : Value} (h : call g args H = some (v, H')) : enterK call g args H k = k v H' := by simp [enterK, h]

/-! ### Temporaries, results -/
@[go_sem] theorem get_c {a : Nat} {v : Value} {T : Env} {t : Nat} : get ((a, v) :: T) t = if t = a then v else get T t := get_cons a v T t
@[go_sem ↓] theorem get_hd {v : Value} {T : Env} {t : Nat} : get ((t, v) :: T) t = v := by rw [get_cons]; simp
@[go_sem] theorem clr_nil {T : Env} : clr [] T = [] := _root_.id rfl
@[go_sem] theorem clr_cons {t : Nat} {l : List Nat} {T : Env} : clr (t :: l) T = (t, get T t) :: clr l T := _root_.id rfl
@[go_sem ↓] theorem endK_ret {rs : List ResultVar} {T : Env} : endK P rs .ret T H = resValsK P H T rs fun l => some (resultOf l, H) := _root_.id rfl
@[go_sem ↓] theorem endK_normal {rs : List ResultVar} {T : Env} : endK P rs .normal T H = resValsK P H T rs fun l => some (resultOf l, H) := _root_.id rfl
@[go_sem] theorem resValsK_nil {T : Env} {k : List Value → Res} : resValsK P H T [] k = k [] := _root_.id rfl
@[go_sem] theorem resValsK_tmp {T : Env} {t : Nat} {rs : List ResultVar} {k : List Value → Res} : resValsK P H T (.tmp t :: rs) k = resValsK P H T rs fun l => k (get T t :: l) := _root_.id rfl
@[go_sem] theorem resValsK_cell {T : Env} {a : Nat} {t : TypeId} {rs : List ResultVar} {k : List Value → Res} : resValsK P H T (.cell a t :: rs) k = bareK (xload P t (get T a) H) H fun v _ => resValsK P H T rs fun l => k (v :: l) := _root_.id rfl
@[go_sem] theorem resultOf_0 : resultOf [] = .tuple #[] := _root_.id rfl
@[go_sem] theorem resultOf_1 {v : Value} : resultOf [v] = v := _root_.id rfl
@[go_sem] theorem resultOf_2 {v w : Value} {l : List Value} : resultOf (v :: w :: l) = .tuple (v :: w :: l).toArray := _root_.id rfl

/-! ### Numbers -/
attribute [go_sem] xbin_lss xbin_leq
@[go_sem] theorem not_b {b : Bool} : xun P .not (.bool b) = some (.bool !b) := _root_.id rfl
@[go_sem] theorem int_eq {t : TypeId} {ox oy : Operand} {q : IntKind} {a b : Int} : xbin P .eql t ox oy (.int q a) (.int q b) = some (.bool (decide (a = b))) := xbin_eql
@[go_sem] theorem int_ne {t : TypeId} {ox oy : Operand} {q : IntKind} {a b : Int} : xbin P .neq t ox oy (.int q a) (.int q b) = some (.bool (!decide (a = b))) := xbin_neq
@[go_sem] theorem int_gt {t : TypeId} {ox oy : Operand} {q : IntKind} {a b : Int} : xbin P .gtr t ox oy (.int q a) (.int q b) = some (.bool (decide (b < a))) := xbin_gtr
@[go_sem] theorem int_ge {t : TypeId} {ox oy : Operand} {q : IntKind} {a b : Int} : xbin P .geq t ox oy (.int q a) (.int q b) = some (.bool (decide (b ≤ a))) := xbin_geq
attribute [go_sem] ne_eq gt_iff_lt ge_iff_le Bool.or_self Bool.false_eq_true Int.cast_ofNat_Int decide_true decide_false Bool.not_true Bool.not_false Int.natCast_zero Int.natCast_one Int.natCast_add not_true_eq_false not_false_eq_true Bool.or_true Bool.or_false Bool.and_false Bool.true_or Bool.false_or Bool.false_and
theorem wrap_i64 {n : Int} (h : -9223372036854775808 ≤ n ∧ n < 9223372036854775808) : IntKind.wrap .i64 n = n := wrap64 h.1 h.2
@[go_sem] theorem add_i64 {t : TypeId} {ox oy : Operand} {a b : Int} (h : -9223372036854775808 ≤ a + b ∧ a + b < 9223372036854775808) : xbin P .add t ox oy (.int .i64 a) (.int .i64 b) = some (.int .i64 (a + b)) := by
  rw [xbin_add, wrap_i64 h]
@[go_sem] theorem sub_i64 {t : TypeId} {ox oy : Operand} {a b : Int} (h : -9223372036854775808 ≤ a - b ∧ a - b < 9223372036854775808) : xbin P .sub t ox oy (.int .i64 a) (.int .i64 b) = some (.int .i64 (a - b)) := by
  rw [xbin_sub, wrap_i64 h]
@[go_sem] theorem mul_i64 {t : TypeId} {ox oy : Operand} {a b : Int} (h : -9223372036854775808 ≤ a * b ∧ a * b < 9223372036854775808) : xbin P .mul t ox oy (.int .i64 a) (.int .i64 b) = some (.int .i64 (a * b)) := by
  rw [xbin_mul, wrap_i64 h]
theorem pvg_some {s : Sem Value} {v : Value} (h : pv P s = some v) (g : gr 9 v = true) : pvg P s = some v := by unfold pvg; rw [h]; simp only [g, if_true]
@[go_sem] theorem min_int {ts : List TypeId} {q : IntKind} {a b : Int} : xbuiltin P .min ts [.int q a, .int q b] H = some (.val (.int q (min a b)) H) := by
  have h : pvg P (Builtin.min_ #[] 0 #[.int q a, .int q b]) = some (.int q (if b < a then b else a)) := pvg_some rfl rfl
  have e : xbuiltin P .min ts [.int q a, .int q b] H = bare (pvg P (Builtin.min_ #[] 0 #[.int q a, .int q b])) H := rfl
  rw [e, h, show min a b = if b < a then b else a by rw [Int.min_def]; split <;> split <;> omega]
  rfl
@[go_sem] theorem max_int {ts : List TypeId} {q : IntKind} {a b : Int} : xbuiltin P .max ts [.int q a, .int q b] H = some (.val (.int q (max a b)) H) := by
  have h : pvg P (Builtin.max_ #[] 0 #[.int q a, .int q b]) = some (.int q (if a < b then b else a)) := pvg_some rfl rfl
  have e : xbuiltin P .max ts [.int q a, .int q b] H = bare (pvg P (Builtin.max_ #[] 0 #[.int q a, .int q b])) H := rfl
  rw [e, h, show max a b = if a < b then b else a by rw [Int.max_def]; split <;> split <;> omega]
  rfl
theorem xconv_int {s t : TypeId} {a b : IntKind} {n : Int} (hs : P.underlying s = some (.int a)) (ht : P.underlying t = some (.int b)) : xconv P s t (.int a n) H = some (.int b (b.wrap n), H) := by
  have h : pv P (convert s t (.int a n)) = some (.int b (b.wrap n)) := by
    simp [convert, underlying, program, pv, Bind.bind, Sem.bind, Pure.pure, hs, ht, Conv.intToInt]
  have g : pvg P (convert s t (.int a n)) = some (.int b (b.wrap n)) := pvg_some h rfl
  unfold xconv
  rw [hs, ht]
  simp only [g, Option.map_some]
  rfl

/-! ### Strings -/
attribute [go_sem] bl_mk mk_bl
@[go_sem] theorem str_eq {t : TypeId} {ox oy : Operand} {a b : ByteArray} : xbin P .eql t ox oy (.string a) (.string b) = some (.bool (decide (bl a = bl b))) := by
  have h : xbin P .eql t ox oy (.string a) (.string b) = some (.bool (bl a == bl b)) := rfl
  rw [h, Bool.beq_eq_decide_eq]
@[go_sem] theorem str_ne {t : TypeId} {ox oy : Operand} {a b : ByteArray} : xbin P .neq t ox oy (.string a) (.string b) = some (.bool (!decide (bl a = bl b))) := by
  have h : xbin P .neq t ox oy (.string a) (.string b) = some (.bool !(bl a == bl b)) := rfl
  rw [h, Bool.beq_eq_decide_eq]
@[go_sem] theorem str_lt {t : TypeId} {ox oy : Operand} {a b : ByteArray} : xbin P .lss t ox oy (.string a) (.string b) = some (.bool (Op.bytesLess (bl a) (bl b))) := _root_.id rfl
@[go_sem] theorem str_le {t : TypeId} {ox oy : Operand} {a b : ByteArray} : xbin P .leq t ox oy (.string a) (.string b) = some (.bool (Op.bytesLess (bl a) (bl b) || bl a == bl b)) := _root_.id rfl
@[go_sem] theorem str_gt {t : TypeId} {ox oy : Operand} {a b : ByteArray} : xbin P .gtr t ox oy (.string a) (.string b) = some (.bool !(Op.bytesLess (bl a) (bl b) || bl a == bl b)) := _root_.id rfl
@[go_sem] theorem str_ge {t : TypeId} {ox oy : Operand} {a b : ByteArray} : xbin P .geq t ox oy (.string a) (.string b) = some (.bool !(Op.bytesLess (bl a) (bl b))) := _root_.id rfl

/-! ### Lengths -/
def lenT : Value → Option Value | .string s => some (goInt (bl s).length) | _ => none
def lenS : Value → Option Value | .slice _ n _ => some (goInt n) | _ => none
@[go_sem] theorem lenT_s {s : ByteArray} : lenT (.string s) = some (.int .i64 (bl s).length) := _root_.id rfl
@[go_sem] theorem lenS_s {a : Option Addr} {n c : Nat} : lenS (.slice a n c) = some (.int .i64 n) := _root_.id rfl

/-! ### Pointers, structs -/
@[go_sem] theorem fad_s {b o f : Nat} : fad f (.pointer (some ⟨b, o, none⟩)) = some (.pointer (some ⟨b, o + f, none⟩)) := _root_.id rfl
@[go_sem] theorem nilCheck_s {a : Addr} : xnilCheck (.pointer (some a)) = some (.pointer (some a)) := _root_.id rfl
@[go_sem] theorem nilCheck_f {f : FuncId} {x c : Array Value} : xnilCheck (.func (.func f) x c) = some (.func (.func f) x c) := _root_.id rfl
@[go_sem] theorem prt1_s {o : Nat} {l : List Value} : prt1 o (.agg ⟨l⟩) = l[o]? := by simp [prt1]
@[go_sem] theorem prtN_s {n o : Nat} {l : List Value} : prtN n o (.agg ⟨l⟩) = some (.agg ⟨(l.drop o).take n⟩) := by simp [prtN, List.extract_toArray]
@[go_sem] theorem extract_s {i : Nat} {l : List Value} : xextract (.tuple ⟨l⟩) i = l[i]? := by simp [xextract]
theorem nil_ptr_eq {t : TypeId} {ox oy : Operand} {d : TypeId} {a : Addr} (h : P.underlying t = some (.pointer d)) : xbin P .eql t ox oy (.pointer (some a)) (.pointer none) = some (.bool false) := by
  have g : nilTest P t (.pointer (some a)) (.pointer none) = some false := by unfold nilTest; rw [h]
  show (nilTest P t (.pointer (some a)) (.pointer none)).map Value.bool = _
  rw [g]; rfl
theorem nil_ptr_ne {t : TypeId} {ox oy : Operand} {d : TypeId} {a : Addr} (h : P.underlying t = some (.pointer d)) : xbin P .neq t ox oy (.pointer (some a)) (.pointer none) = some (.bool true) := by
  have g : nilTest P t (.pointer (some a)) (.pointer none) = some false := by unfold nilTest; rw [h]
  show (nilTest P t (.pointer (some a)) (.pointer none)).map (fun b => Value.bool !b) = _
  rw [g]; rfl

/-! ### The heap -/
@[go_sem] theorem push_n' {k : Blk} : (H.push k).n = H.n + 1 := _root_.id rfl
@[go_sem] theorem set_n' {b : Nat} {k : Blk} : (H.set b k).n = H.n := _root_.id rfl
@[go_sem] theorem push_f_eq {b : Nat} {k : Blk} (h : b = H.n) : (H.push k).f b = k := by subst h; simp
@[go_sem] theorem push_f_ne {b : Nat} {k : Blk} (h : b ≠ H.n) : (H.push k).f b = H.f b := H.push_old k h
@[go_sem] theorem set_f_eq {b : Nat} {k : Blk} : (H.set b k).f b = k := by simp
@[go_sem] theorem set_f_ne {b c : Nat} {k : Blk} (h : c ≠ b) : (H.set b k).f c = H.f c := H.set_other k h
theorem push_v_ne {b : Nat} {k : Blk} (h : b ≠ H.n) : (H.push k).ver b = H.ver b := H.push_ver k h
theorem set_v_eq {b : Nat} {k : Blk} : (H.set b k).ver b = H.clk := by simp
theorem set_v_ne {b c : Nat} {k : Blk} (h : c ≠ b) : (H.set b k).ver c = H.ver c := H.set_ver k h

def cellB : Blk → Nat → Option Value | .cells xs _ _, o => xs[o]? | _, _ => none
def cutB : Blk → Nat → Nat → Option (List Value) | .cells xs _ _, o, n => if o + n ≤ xs.length then some ((xs.drop o).take n) else none | _, _, _ => none
def wr1 : Blk → Nat → Value → Option Blk | .cells xs e true, o, v => if o < xs.length then (if one v then some (.cells (xs.set o v) e true) else none) else none | _, _, _ => none
def wrL : Blk → Nat → List Value → Option Blk | .cells xs e true, o, vs => if o + vs.length ≤ xs.length then (if vs.all one then some (.cells (spl xs o vs) e true) else none) else none | _, _, _ => none
def setB (H : AHeap) (b : Nat) (k : Option Blk) : Option AHeap := k.map (H.set b)

@[go_sem] theorem ld1_b {b o : Nat} : ld1 H (.pointer (some ⟨b, o, none⟩)) = cellB (H.f b) o := by
  unfold ld1 cellB; simp only; cases H.f b <;> rfl
theorem cut_b {b o n : Nat} : cut H b o n = cutB (H.f b) o n := by unfold cut cutB; cases H.f b <;> rfl
@[go_sem] theorem ldN_b {b o n : Nat} : ldN n H (.pointer (some ⟨b, o, none⟩)) = (cutB (H.f b) o n).map fun l => .agg ⟨l⟩ := by
  unfold ldN; simp only [cut_b]
@[go_sem] theorem st1_b {b o : Nat} {v : Value} : st1 H (.pointer (some ⟨b, o, none⟩)) v = setB H b (wr1 (H.f b) o v) := by
  simp only [st1, setB, wr1]
  generalize H.f b = q
  cases q with
  | cells xs e rw =>
    cases rw with
    | true => by_cases h1 : o < xs.length <;> by_cases h2 : one v = true <;> simp [h1, h2]
    | false => rfl
  | _ => rfl
theorem stL_b {b o : Nat} {vs : List Value} : stL H b o vs = setB H b (wrL (H.f b) o vs) := by
  simp only [stL, setB, wrL]
  generalize H.f b = q
  cases q with
  | cells xs e rw =>
    cases rw with
    | true => by_cases h1 : o + vs.length ≤ xs.length <;> by_cases h2 : vs.all one = true <;> simp only [h1, h2, if_true, if_false] <;> rfl
    | false => rfl
  | _ => rfl
@[go_sem] theorem stN_b {b o n : Nat} {l : List Value} (h : l.length = n) : stN n H (.pointer (some ⟨b, o, none⟩)) (.agg ⟨l⟩) = setB H b (wrL (H.f b) o l) := by
  unfold stN
  simp only [List.size_toArray, h, if_true, stL_b]
@[go_sem] theorem cellB_c {xs : List Value} {e : TypeId} {rw : Bool} {o : Nat} : cellB (.cells xs e rw) o = xs[o]? := _root_.id rfl
@[go_sem] theorem cutB_c {xs : List Value} {e : TypeId} {rw : Bool} {o n : Nat} (h : o + n ≤ xs.length) : cutB (.cells xs e rw) o n = some ((xs.drop o).take n) := by
  unfold cutB; simp only; rw [if_pos h]
@[go_sem] theorem wr1_c {xs : List Value} {e : TypeId} {o : Nat} {v : Value} (h : o < xs.length) (hv : one v = true) : wr1 (.cells xs e true) o v = some (.cells (xs.set o v) e true) := by
  unfold wr1; simp only; rw [if_pos h, if_pos hv]
@[go_sem] theorem wrL_c {xs : List Value} {e : TypeId} {o : Nat} {vs : List Value} (h : o + vs.length ≤ xs.length) (hv : vs.all one = true) : wrL (.cells xs e true) o vs = some (.cells (spl xs o vs) e true) := by
  unfold wrL; simp only; rw [if_pos h, if_pos hv]
@[go_sem] theorem one_i {q : IntKind} {n : Int} : one (.int q n) = true := _root_.id rfl
@[go_sem] theorem one_b {b : Bool} : one (.bool b) = true := _root_.id rfl
@[go_sem] theorem one_s {b : ByteArray} : one (.string b) = true := _root_.id rfl
@[go_sem] theorem one_p {b : Option Addr} : one (.pointer b) = true := _root_.id rfl
@[go_sem] theorem one_sl {b : Option Addr} {n c : Nat} : one (.slice b n c) = true := _root_.id rfl
@[go_sem] theorem one_m {b : Option Nat} : one (.map b) = true := _root_.id rfl
@[go_sem] theorem one_f {f : Fn} {x c : Array Value} : one (.func f x c) = true := _root_.id rfl
attribute [go_sem] List.all_cons List.all_nil Bool.and_self
@[go_sem] theorem setB_s {b : Nat} {k : Blk} : setB H b (some k) = some (H.set b k) := _root_.id rfl
attribute [go_sem] spl
@[go_sem] theorem omap_some {α β : Type} {f : α → β} {a : α} : Option.map f (some a) = some (f a) := _root_.id rfl
@[go_sem] theorem obind_some {α β : Type} {f : α → Option β} {a : α} : Option.bind (some a) f = f a := _root_.id rfl
attribute [go_sem] List.getElem?_cons_zero List.getElem?_cons_succ List.length_cons List.length_nil List.drop_zero List.drop_succ_cons List.take_zero List.take_succ_cons List.take_nil List.drop_nil List.set_cons_zero List.set_cons_succ Nat.zero_add Nat.add_zero
  List.nil_append List.cons_append List.map_cons List.map_nil List.size_toArray List.getElem_cons_zero List.getElem_cons_succ

@[go_sem] theorem newv_agg {t : TypeId} {l : List Value} : newv t (.agg ⟨l⟩) H = some (.pointer (some ⟨H.n, 0, none⟩), H.push (.cells l t true)) := _root_.id rfl
@[go_sem] theorem newv_int {t : TypeId} {q : IntKind} {i : Int} : newv t (.int q i) H = some (.pointer (some ⟨H.n, 0, none⟩), H.push (.cells [.int q i] t true)) := _root_.id rfl
@[go_sem] theorem newv_bool {t : TypeId} {b : Bool} : newv t (.bool b) H = some (.pointer (some ⟨H.n, 0, none⟩), H.push (.cells [.bool b] t true)) := _root_.id rfl
@[go_sem] theorem newv_str {t : TypeId} {s : ByteArray} : newv t (.string s) H = some (.pointer (some ⟨H.n, 0, none⟩), H.push (.cells [.string s] t true)) := _root_.id rfl
@[go_sem] theorem newv_ptr {t : TypeId} {a : Option Addr} : newv t (.pointer a) H = some (.pointer (some ⟨H.n, 0, none⟩), H.push (.cells [.pointer a] t true)) := _root_.id rfl
@[go_sem] theorem newv_sl {t : TypeId} {a : Option Addr} {n c : Nat} : newv t (.slice a n c) H = some (.pointer (some ⟨H.n, 0, none⟩), H.push (.cells [.slice a n c] t true)) := _root_.id rfl
@[go_sem] theorem newv_map {t : TypeId} {a : Option Nat} : newv t (.map a) H = some (.pointer (some ⟨H.n, 0, none⟩), H.push (.cells [.map a] t true)) := _root_.id rfl
@[go_sem] theorem newv_fn {t : TypeId} {f : FuncId} {x c : Array Value} : newv t (.func (.func f) x c) H = some (.pointer (some ⟨H.n, 0, none⟩), H.push (.cells [.func (.func f) x c] t true)) := _root_.id rfl

/-! ### Structs out of parts -/
@[go_sem] theorem bldS_nil {z : Array Value} {pl : List (Nat × Nat)} : bldS z pl [] = some (.agg z) := _root_.id rfl
attribute [go_sem] bldS bldA bldL zeros fillX flat List.zipIdx_cons List.zipIdx_nil List.foldl_cons List.foldl_nil List.setIfInBounds_toArray List.toList_toArray

/-! ### What a call leaves as it was -/
/-- Blocks that are not in S, and were there, are as they were. -/
structure Fr (S : Nat → Prop) (H H' : AHeap) : Prop where
  n : H.n ≤ H'.n
  clk : H.clk ≤ H'.clk
  old : ∀ b, b < H.n → (H'.ver b = H.ver b ∧ H'.f b = H.f b) ∨ (H.clk ≤ H'.ver b ∧ S b)
  ok : (∀ b, H.ver b < H.clk) → ∀ b, H'.ver b < H'.clk

theorem Fr.refl {S : Nat → Prop} (H : AHeap) : Fr S H H := ⟨Nat.le_refl _, Nat.le_refl _, fun _ _ => .inl ⟨rfl, rfl⟩, fun h => h⟩
theorem Fr.trans {S : Nat → Prop} {H H1 H2 : AHeap} (a : Fr S H H1) (b : Fr S H1 H2) : Fr S H H2 :=
  ⟨Nat.le_trans a.n b.n, Nat.le_trans a.clk b.clk, fun c hc => by
    rcases b.old c (Nat.lt_of_lt_of_le hc a.n) with ⟨h1, h2⟩ | ⟨h1, h2⟩
    · rcases a.old c hc with ⟨h3, h4⟩ | ⟨h3, h4⟩
      · exact .inl ⟨h1.trans h3, h2.trans h4⟩
      · exact .inr ⟨by omega, h4⟩
    · exact .inr ⟨Nat.le_trans a.clk h1, h2⟩, fun h => b.ok (a.ok h)⟩
theorem Fr.push {S : Nat → Prop} {H H1 : AHeap} (a : Fr S H H1) (k : Blk) : Fr S H (H1.push k) :=
  ⟨by have := a.n; simp; omega, a.clk, fun c hc => by
    have h := a.old c hc
    have hn : c ≠ H1.n := by have := a.n; omega
    rwa [H1.push_ver k hn, H1.push_old k hn], fun h b => by
    by_cases hb : b = H1.n
    · subst hb; simp; exact Nat.lt_of_le_of_lt (Nat.zero_le _) (a.ok h 0)
    · rw [H1.push_ver k hb]; exact a.ok h b⟩
theorem Fr.set {S : Nat → Prop} {H H1 : AHeap} (a : Fr S H H1) (b : Nat) (k : Blk) (hb : b < H.n → S b) : Fr S H (H1.set b k) :=
  ⟨by simpa using a.n, by have := a.clk; simp; omega, fun c hc => by
    by_cases h : c = b
    · subst h; exact .inr ⟨by simpa using a.clk, hb hc⟩
    · rw [H1.set_ver k h, H1.set_other k h]; exact a.old c hc, fun h c => by
    by_cases hcb : c = b
    · subst hcb; simp
    · rw [H1.set_ver k hcb]; have := a.ok h c; simp; omega⟩
theorem Fr.mono {S S' : Nat → Prop} {H H1 : AHeap} (a : Fr S H H1) (h : ∀ b, b < H.n → S b → S' b) : Fr S' H H1 :=
  ⟨a.n, a.clk, fun b hb => (a.old b hb).imp id fun ⟨h1, h2⟩ => ⟨h1, h b hb h2⟩, a.ok⟩
theorem Fr.f {S : Nat → Prop} {H H1 : AHeap} (a : Fr S H H1) {b : Nat} (hb : b < H.n) (hs : ¬ S b) : H1.f b = H.f b := (a.old b hb).elim (·.2) fun h => absurd h.2 hs
theorem Fr.ver {S : Nat → Prop} {H H1 : AHeap} (a : Fr S H H1) {b : Nat} (hb : b < H.n) (hs : ¬ S b) : H1.ver b = H.ver b := (a.old b hb).elim (·.1) fun h => absurd h.2 hs

abbrev Still (H H' : AHeap) : Prop := Fr (fun _ => False) H H'
theorem Fr.still {S : Nat → Prop} {H H1 : AHeap} (a : Still H H1) : Fr S H H1 := a.mono fun _ _ h => h.elim
/-- A call in the midst: what it may turn is new, or may be turned. -/
theorem Fr.then {S S' : Nat → Prop} {H H1 H2 : AHeap} (a : Fr S H H1) (b : Fr S' H1 H2) (h : ∀ b, b < H.n → S' b → S b) : Fr S H H2 :=
  ⟨Nat.le_trans a.n b.n, Nat.le_trans a.clk b.clk, fun c hc => by
    rcases b.old c (Nat.lt_of_lt_of_le hc a.n) with ⟨h1, h2⟩ | ⟨h1, h2⟩
    · rcases a.old c hc with ⟨h3, h4⟩ | ⟨h3, h4⟩
      · exact .inl ⟨h1.trans h3, h2.trans h4⟩
      · exact .inr ⟨by omega, h4⟩
    · exact .inr ⟨Nat.le_trans a.clk h1, h c hc h2⟩, fun h => b.ok (a.ok h)⟩

theorem tidy_same {H H' : AHeap} {v : Value} (hv : gr 9 v = true) (h : Still H H') : tidy H (v, H') = (v, H) := by
  have hs : still H H' = true := List.all_eq_true.2 fun b hb => by
    rw [h.ver (by simpa using hb) (fun h => h)]; exact beq_self_eq_true _
  unfold tidy
  simp [hv, hs]
/-- The result of a function that turns nothing and makes nothing that is seen. -/
theorem pure_res {H H' : AHeap} {v : Value} {x : Res} (hx : x = some (tidy H (v, H'))) (hv : gr 9 v = true) (h : Still H H') : x = some (v, H) := by rw [hx, tidy_same hv h]
theorem tidy_turned {H H' : AHeap} {v : Value} {b : Nat} (hb : b < H.n) (h1 : H.ver b < H.clk) (h2 : H.clk ≤ H'.ver b) : tidy H (v, H') = (v, H') := by
  have hs : still H H' = false := by
    cases hq : still H H' with
    | false => rfl
    | true =>
      have := List.all_eq_true.1 hq b (by simpa using hb)
      simp at this
      omega
  unfold tidy
  simp [hs]
theorem tidy_mem {H H' : AHeap} {v : Value} (hv : gr 9 v = false) : tidy H (v, H') = (v, H') := by unfold tidy; simp [hv]
theorem tidy_fr {S : Nat → Prop} {H H' : AHeap} {v : Value} (h : Fr S H H') : ∃ H'', tidy H (v, H') = (v, H'') ∧ Fr S H H'' := by
  unfold tidy
  split
  · exact ⟨H, rfl, Fr.refl H⟩
  · exact ⟨H', rfl, h⟩

theorem pure_of {H H' : AHeap} {v : Value} {s x : Res} (hs : s = some (v, H')) (hd : s = some (v, H') → x = some (tidy H (v, H'))) (hv : gr 9 v = true) (h : Still H H') : x = some (v, H) := pure_res (hd hs) hv h

/-! ### Regions in any order -/
@[go_sem] theorem okV_same {go : Option Bool} {rd : Option Nat} {a b b' : AHeap} : okV go rd a a b b' = true := by
  unfold okV
  simp only [beq_self_eq_true, Bool.or_true, Bool.and_true]
  split
  · rfl
  · split <;> rfl
@[go_sem] theorem okV_none {go : Option Bool} {a a' b b' : AHeap} (h : a.n ≤ b.n ∨ b'.n ≤ b.n) : okV go none a a' b b' = true := by
  unfold okV
  have e : (decide (a.n ≤ b.n) || decide (b'.n ≤ b.n) || a'.ver b.n == a.ver b.n) = true := by
    rcases h with h | h <;> simp [h]
  rw [e]
  split <;> rfl
@[go_sem] theorem okV_some {go : Option Bool} {k : Nat} {a a' b b' : AHeap} (h1 : a.n ≤ k ∨ a'.ver k = a.ver k) (h : a.n ≤ b.n ∨ b'.n ≤ b.n) : okV go (some k) a a' b b' = true := by
  unfold okV
  have e : (decide (a.n ≤ b.n) || decide (b'.n ≤ b.n) || a'.ver b.n == a.ver b.n) = true := by
    rcases h with h | h <;> simp [h]
  have e1 : (decide (a.n ≤ k) || a'.ver k == a.ver k) = true := by
    rcases h1 with h | h <;> simp [h]
  rw [e]
  split
  · rfl
  · simp only [e1]; rfl
attribute [go_sem] Bool.true_and Bool.and_true blockOf

end Go.Proofs.Ytehnchfnhbmkdaa.Eng

/-
  The hints: which temporaries are asked for behind each if, block, loop head, return of each function (a program of ours printed it).
  Conditions: none. By an AI agent.
-/
namespace Go.Proofs.Ytehnchfnhbmkdaa
open Go Eng

def hintList : List (List (List Nat)) := [
  [],
  [],
  [],
  [[0,1,2],[6],[0,1,2],[6],[0,2,7],[6],[0,7],[0,2,7,9],[0,2,7,9],[0,2,7,9],[0,2,7,9],[6]],
  [[0,1,2,3,4,5],[12],[0,1,2,3,4,5],[0,1,2,3,4,5,13],[0,1,2,3,4,5,13],[0,1,2,3,4,5,13],[0,1,2,3,4,5,13],[12],[1,2,3,4,5],[12],[4,5,16,17],[12],[12]],
  [[0,1],[4],[1,5,8],[1,5,8],[4],[1,5,8],[4],[1,5],[4],[1,5,7,9],[4],[4]],
  [[0,1],[4],[4]],
  [[0,1,2,3,4],[10],[10]],
  [[0,1,2,3,4],[10],[2,3,4,13],[10],[4],[10],[],[10],[10]],
  [[],[0],[0]],
  [[8]],
  [[6],[0,1,5,6,7],[0,1,5,6,7],[0,1,5,6,7],[4]],
  [[6]],
  [[0],[0,4],[0,4],[0,4],[0,4],[2,3],[0],[2,3],[0,10,12],[0,10,12,15],[0,10,12,15],[0,10,12,15],[0,10,12,15,17,19],[2,3],[0,10,12,15],[0,10,12,15,17,19,21],[0,10,12,15,17,19,21],[0,10,12,15,17,19,21],[0,10,12,15,17,19,21],[2,3],[10,27],[0,10,12,27,28],[0,10,12,27,28],[0,10,12,27,28],[0,10,12,27,28,29],[0,10,12,27,28,29,30],[0,10,12,27,28,29,30],[0,10,12,27,28,29,30],[0,10,12,27,28,29,30],[0,10,12,27,28],[2,3],[27],[2,3],[2,3]],
  [[0,1],[0,1],[4,5],[0,1],[4,5],[0,6],[4,5],[0,6],[8],[6,7,8,37,38,39],[6,7,8,37,38,39],[6,7,8,37,38,39],[4,5]],
  [[1,7],[6],[6]],
  [[0],[0,3],[0,3],[0,3],[0,3],[2],[2]],
  [[3],[0,3,4],[0,3,4],[0,3,4],[2]],
  [[3],[0,3,4],[0,3,4],[0,3,4],[0,3,4,5],[0,3,4,5],[0,3,4,5],[0,3,4,5],[2]],
  [[0],[2],[2]],
  [[3,4],[3,4,7,8,9],[3,4,7,8,9],[3,4,7,8,9],[2]],
  [[3,4],[0,3,4,5],[0,3,4,5],[0,3,4,5],[2]],
  [[6]],
  [[5],[0,5,6],[0,5,6],[0,5,6],[4]],
  [[0,3,4],[2],[2]],
  [[0],[2,3],[5],[5,6,20,21,22],[5,6,20,21,22],[5,6,20,21,22],[2,3]],
  [[0,1],[4],[4]],
  [[0],[2,3],[0],[2,3],[0,4],[0,4,5,6,26,27],[0,4,5,6,26,27],[0,4,5,6,26,27],[0,4,5,6,26,27],[2,3],[0,4,7,8,9,26,27],[2,3],[0,4,7,8,9,26,27],[2,3],[4],[2,3],[2,3]],
  [[0],[0,7,8,9],[0,7,8,9],[0,7,8,9],[0,4,5,7,8,9],[2,3],[0,7,8,9],[2,3],[0],[2,3],[2,3]],
  [[0,1],[4],[],[0,1,5],[0,1,5],[0,1,5],[0,1,5],[4],[4]],
  [[0],[2,3],[0,4],[0,4,20,21,22],[0,4,20,21,22],[0,4,20,21,22],[0],[2,3],[0],[0,35,36,37],[0,35,36,37],[0,35,36,37],[0,35,36,37],[2,3],[0],[2,3],[0,9],[0,9,58,59,60],[0,9,58,59,60],[0,9,58,59,60],[0,9,11,12,58,59,60],[2,3],[0,9],[2,3],[0,15],[0,9,15,118,119],[0,9,15,118,119],[0,9,15,118,119],[15],[2,3],[2,3]],
  [[0],[2,3,4,5,6],[2,3,4,5,6]],
  [[2]],
  [[2,3],[4]],
  [[2]],
  [[0],[2],[2]],
  [[0,1,2,7,8],[6],[6]],
  [[0],[2],[2]],
  [[0],[2,3],[0,4],[0,4,5],[0,4,5],[0,4,5],[0,4],[2,3],[0,6],[0,4,6,7,8],[0,4,6,7,8],[0,4,6,7,8],[0,4,6,7,8,9],[0,4,6,7,8],[0,4,6,7,8,9,10],[0,4,6,7,8,9,10],[0,4,6,7,8,9,10],[0,4,6,7,8,9,10],[2,3],[0,4,6,7,8,9,10],[6],[2,3],[2,3]],
  [[5],[0,1,5],[0,1,5],[0,1,5],[4]],
  [[0],[2],[2]],
  [[0,1],[4],[],[0,1,12,13],[0,1,12,13],[0,1,12,13],[0,1,12,13],[4],[4]],
  [[3],[3,6,7,8],[3,6,7,8],[3,6,7,8],[2]],
  [[0],[2,3,4],[2,3,4]],
  [[0,1,2,7],[0,1,2,7],[6],[0,1,2,7],[6],[6]],
  [[4]],
  [[],[],[4],[],[4],[4]],
  [[4]],
  [[2],[4]],
  [[],[0,1,2,4],[0,1,2,4],[0,1,2,4],[0,1,2,4],[]],
  [[0,1,2],[6,7,8],[0,1],[6,7,8],[6,7,8]],
  [[],[],[],[8],[8]],
  [[4]],
  [[2]],
  [[4]],
  [[4,5]],
  [[0,1,2,7],[6],[0,1,2,7,8],[6],[0,1,2,7,8],[6],[0,1,2,7,8],[6],[6]],
  [[],[0,1,7,8],[0,1,7,8],[0,1,7,8],[0,1,7,8],[4],[4]],
  [[4]],
  [[0,1,2,8,9],[0,1,2,8,9,10],[0,1,2,8,9,10],[0,1,2,8,9,10],[0,1,2,8,9,10],[6,7]],
  [[4]],
  [],
  [],
  [],
  [],
  [[],[0,2,3],[0,2,3],[0,2,3]],
  [],
  [],
  [],
  [],
  [],
  [],
  [],
  [],
  [],
  [],
  [],
  [],
  [],
  [],
  [],
  []
]

def hints : Hints := fun f => (hintList[f]?).getD []

end Go.Proofs.Ytehnchfnhbmkdaa

/-
  Chapter 48: slices.Insert as a Prim; known() returns true.
  Conditions: none. By an AI agent.
-/
namespace Go.Proofs.Ytehnchfnhbmkdaa
open Go Eng

theorem mixed : Try.prog.follows .mixedOrders = true := by kernel_rfl

def zIns0 : List Value := [(.string (mk [])), (.string (mk []))]
theorem insOK0 : InsOK Try.prog hints 56 37 3 60 zIns0 61 62 where
  mixed := mixed
  body := fun C n a0 a1 a2 H => by kernel_rfl
  hS := Try.underlying37
  hI := Try.underlying3
  hz := by kernel_rfl
  hsz := by kernel_rfl
  ovl := ⟨Try.f61, by kernel_rfl, by decide, by kernel_rfl, by kernel_rfl, by kernel_rfl, by kernel_rfl⟩

noncomputable def prims0 : Prims := fun f => if f = 56 then some (insP Try.prog hints 56 60 zIns0) else if f = 32 then some chunkP else none

theorem prims0_ok : PrimsOK Try.prog prims0 := by
  intro f p h
  unfold prims0 at h
  split at h
  · rename_i hf
    have e := Option.some.inj h
    subst hf
    rw [← e]
    exact ins_prim insOK0
  · skip
    split at h
    · rename_i hf
      have e := Option.some.inj h
      subst hf
      rw [← e]
      exact chunk_prim
    · skip
      cases h

theorem known_run : dCall Try.prog prims0 hints 60 9 [] H0 = some (.bool true, H0) := by kernel_rfl

noncomputable def prims1 : Prims := fun f => if f = 9 then some trueP else prims0 f

theorem prims1_ok : PrimsOK Try.prog prims1 := by
  intro f p h
  unfold prims1 at h
  split at h
  · rename_i hf
    have e := Option.some.inj h
    subst hf
    rw [← e]
    exact true_prim prims0_ok mixed ⟨60, _, known_run⟩
  · exact prims0_ok f p h

/-- What a call gives. -/
noncomputable def CC : CallF := D Try.prog prims1 hints

end Go.Proofs.Ytehnchfnhbmkdaa

/-
  Names of the seat's functions and types (a program of ours printed it).
  Conditions: none. By an AI agent.
-/
namespace Go.Proofs.Ytehnchfnhbmkdaa
open Go
def F.main_main : FuncId := 0
def F.gosem_cut : FuncId := 1
def F.gosem_cut_init : FuncId := 2
def F.law_BackupCuts : FuncId := 3
def F.law_BackupJoins : FuncId := 4
def F.law_BackupLongs : FuncId := 5
def F.law_BackupEncodes : FuncId := 6
def F.law_BackupDecodes : FuncId := 7
def F.law_BackupHolds : FuncId := 8
def F.law_known : FuncId := 9
def F.law_cuts : FuncId := 10
def F.law_pieces : FuncId := 11
def F.law_joins : FuncId := 12
def F.law_joined : FuncId := 13
def F.backup_Cut : FuncId := 14
def F.law_decodes : FuncId := 15
def F.law_small : FuncId := 16
def F.law_filled : FuncId := 17
def F.law_bytesOf : FuncId := 18
def F.model_Model_Pairs : FuncId := 19
def F.backup_Check : FuncId := 20
def F.law_check : FuncId := 21
def F.law_encodes : FuncId := 22
def F.law_many : FuncId := 23
def F.law_right : FuncId := 24
def F.backup_Encode : FuncId := 25
def F.model_Equal : FuncId := 26
def F.backup_Decode : FuncId := 27
def F.model_Of : FuncId := 28
def F.law_same : FuncId := 29
def F.backup_Join : FuncId := 30
def F.law_part : FuncId := 31
def F.slices_Collect_byte : FuncId := 32
def F.slices_Chunk_byte : FuncId := 33
def F.backup_four : FuncId := 34
def F.slices_Clone_byte : FuncId := 35
def F.model_Model_Put : FuncId := 36
def F.slices_Clone_Pair : FuncId := 37
def F.law_read : FuncId := 38
def F.keys_Prefix : FuncId := 39
def F.model_Model_Len : FuncId := 40
def F.slices_Equal_Pair : FuncId := 41
def F.backup_number : FuncId := 42
def F.backup_take : FuncId := 43
def F.model_Model_Insert : FuncId := 44
def F.bytes_Equal : FuncId := 45
def F.model_check : FuncId := 46
def F.keys_Compare : FuncId := 47
def F.slices_AppendSeq_bytes : FuncId := 48
def F.slices_Chunk_byte_1 : FuncId := 49
def F.model_Model_at : FuncId := 50
def F.model_Model_set : FuncId := 51
def F.slices_ContainsFunc_string : FuncId := 52
def F.model_check_1 : FuncId := 53
def F.strings_Compare : FuncId := 54
def F.model_Model_place : FuncId := 55
def F.slices_Insert_Pair : FuncId := 56
def F.slices_IndexFunc_string : FuncId := 57
def F.internal_bytealg_CompareString : FuncId := 58
def F.slices_BinarySearchFunc_string : FuncId := 59
def F.model_Model_place_1 : FuncId := 60
def F.slices_overlaps_Pair : FuncId := 61
def F.slices_rotateRight_Pair : FuncId := 62
def F.internal_bytealg_abigen_runtime_cmpstring : FuncId := 63
def F.slices_rotateLeft_Pair : FuncId := 64
def F.slices_Reverse_Pair : FuncId := 65
def F.runtime_boundsError_Error : FuncId := 66
def F.runtime_boundsError_RuntimeError : FuncId := 67
def F.runtime_errorString_Error : FuncId := 68
def F.runtime_errorString_RuntimeError : FuncId := 69
def F.runtime_plainError_Error : FuncId := 70
def F.runtime_plainError_RuntimeError : FuncId := 71
def F.runtime_errorAddressString_Error : FuncId := 72
def F.runtime_errorAddressString_RuntimeError : FuncId := 73
def F.runtime_TypeAssertionError_Error : FuncId := 74
def F.runtime_TypeAssertionError_RuntimeError : FuncId := 75
def F.runtime_PanicNilError_Error : FuncId := 76
def F.runtime_PanicNilError_RuntimeError : FuncId := 77
def F.internal_abi_Type_Align : FuncId := 78
def F.internal_runtime_maps_unhashableTypeError_Error : FuncId := 79
def F.internal_runtime_maps_unhashableTypeError_RuntimeError : FuncId := 80
def F.internal_abi_Kind_String : FuncId := 81
def T.tuple : TypeId := 0
def T.func : TypeId := 1
def T.int64 : TypeId := 2
def T.int : TypeId := 3
def T.bool : TypeId := 4
def T.uint8 : TypeId := 5
def T.internal_abi_BoundsErrorCode : TypeId := 6
def T.struct_x_int64_y_int_signed_bool_code_abi_BoundsErrorCode : TypeId := 7
def T.runtime_boundsError : TypeId := 8
def T.string : TypeId := 9
def T.runtime_errorString : TypeId := 10
def T.runtime_plainError : TypeId := 11
def T.uintptr : TypeId := 12
def T.struct_msg_string_addr_uintptr : TypeId := 13
def T.runtime_errorAddressString : TypeId := 14
def T.p_runtime_TypeAssertionError : TypeId := 15
def T.p_runtime_PanicNilError : TypeId := 16
def T.p_abi_Type : TypeId := 17
def T.struct_typ_abi_Type : TypeId := 18
def T.internal_runtime_maps_unhashableTypeError : TypeId := 19
def T.interface : TypeId := 20
def T.int32 : TypeId := 21
def T.sl_uint8 : TypeId := 22
def T.func_1 : TypeId := 23
def T.func_2 : TypeId := 24
def T.sl_sl_uint8 : TypeId := 25
def T.func_3 : TypeId := 26
def T.func_4 : TypeId := 27
def T.func_5 : TypeId := 28
def T.tuple_1 : TypeId := 29
def T.func_6 : TypeId := 30
def T.func_7 : TypeId := 31
def T.api_Errno : TypeId := 32
def T.tuple_2 : TypeId := 33
def T.func_8 : TypeId := 34
def T.func_9 : TypeId := 35
def T.func_10 : TypeId := 36
def T.sl_api_Pair : TypeId := 37
def T.func_11 : TypeId := 38
def T.p_model_Model : TypeId := 39
def T.func_12 : TypeId := 40
def T.func_13 : TypeId := 41
def T.func_14 : TypeId := 42
def T.uint32 : TypeId := 43
def T.func_15 : TypeId := 44
def T.func_16 : TypeId := 45
def T.func_17 : TypeId := 46
def T.func_18 : TypeId := 47
def T.uint16 : TypeId := 48
def T.func_19 : TypeId := 49
def T.func_20 : TypeId := 50
def T.func_21 : TypeId := 51
def T.tuple_3 : TypeId := 52
def T.func_22 : TypeId := 53
def T.func_23 : TypeId := 54
def T.tuple_4 : TypeId := 55
def T.func_24 : TypeId := 56
def T.func_25 : TypeId := 57
def T.func_26 : TypeId := 58
def T.struct_Key_string_Value_string : TypeId := 59
def T.api_Pair : TypeId := 60
def T.struct_list_api_Pair : TypeId := 61
def T.model_Model : TypeId := 62
def T.func_27 : TypeId := 63
def T.func_28 : TypeId := 64
def T.tuple_5 : TypeId := 65
def T.func_29 : TypeId := 66
def T.func_30 : TypeId := 67
def T.func_31 : TypeId := 68
def T.iter_Seq_byte : TypeId := 69
def T.func_32 : TypeId := 70
def T.func_33 : TypeId := 71
def T.func_34 : TypeId := 72
def T.uint : TypeId := 73
def T.func_35 : TypeId := 74
def T.func_36 : TypeId := 75
def T.tuple_6 : TypeId := 76
def T.func_37 : TypeId := 77
def T.func_38 : TypeId := 78
def T.func_39 : TypeId := 79
def T.func_40 : TypeId := 80
def T.func_41 : TypeId := 81
def T.tuple_7 : TypeId := 82
def T.func_42 : TypeId := 83
def T.func_43 : TypeId := 84
def T.func_44 : TypeId := 85
def T.map_uint32_uint8 : TypeId := 86
def T.tuple_8 : TypeId := 87
def T.func_45 : TypeId := 88
def T.tuple_9 : TypeId := 89
def T.func_46 : TypeId := 90
def T.func_47 : TypeId := 91
def T.sl_string : TypeId := 92
def T.func_48 : TypeId := 93
def T.func_49 : TypeId := 94
def T.func_50 : TypeId := 95
def T.tuple_10 : TypeId := 96
def T.func_51 : TypeId := 97
def T.func_52 : TypeId := 98
def T.func_53 : TypeId := 99
def T.func_54 : TypeId := 100
def T.func_55 : TypeId := 101
def T.func_56 : TypeId := 102
def T.func_57 : TypeId := 103
def T.struct_interface_abi_Type_concrete_abi_Type_asserted_abi_Typ : TypeId := 104
def T.runtime_TypeAssertionError : TypeId := 105
def T.n0_runtime_PanicNilError : TypeId := 106
def T.struct_0_runtime_PanicNilError : TypeId := 107
def T.runtime_PanicNilError : TypeId := 108
def T.internal_abi_TFlag : TypeId := 109
def T.internal_abi_Kind : TypeId := 110
def T.func_58 : TypeId := 111
def T.p_uint8 : TypeId := 112
def T.internal_abi_NameOff : TypeId := 113
def T.internal_abi_TypeOff : TypeId := 114
def T.struct_Size_uintptr_PtrBytes_uintptr_Hash_uint32_TFlag_abi_T : TypeId := 115
def T.internal_abi_Type : TypeId := 116
def T.unsafe_Pointer : TypeId := 117
end Go.Proofs.Ytehnchfnhbmkdaa
