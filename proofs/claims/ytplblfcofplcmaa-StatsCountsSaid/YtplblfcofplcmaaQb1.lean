/-
  5 texts in one (merge.py): Shelf Nm Nd Ir Na.
  Conditions: none. By an AI agent.
-/
import Derived.Shelf.Sort.Plain
import Derived.Shelf.Slices.In.SortNone
import Derived.Shelf.Strings.Search1
import Derived.Shelf.Strings.FuncGrows
import Derived.Shelf.Unicode.DecodeAny
import Derived.Shelf.Strings.IndexAny
import Derived.Ground.GgwProg
import Derived.Test.YtplblfcofplcmaaProg
import Derived.Test.YtplblfcofplcmaaChecked
import Derived.KernelRfl
import Derived.Maps.RangeWalk
import Derived.Maps.AppendAt
import Derived.Sort.KeysCollected
import Derived.Sort.OwnSorted
import Derived.WalkKit
import Derived.OwnWalk
import Derived.LoopN
import Derived.Laws.Runes
import Derived.WalkMore
import Derived.Deep.QuietTactic
import Derived.BigQuiet
import Derived.WalkSmall
import Derived.Lib.QuoteLoop
import Derived.Lib.RuneCount

/-
  The kit's contracts of library functions, laid at this program (printed by the kit's tools lay-shelf and lay-plain, cut down by us).
  Conditions: none. By an AI agent.
-/
namespace Go.Proofs
open Go.Shelf Go.RowKit Go.Lib Go.Sort
def Try.lays119_ren : Go.Shelf.Ren := ⟨fun | 119 => 72 | n => n, fun | 21 => 21 | 4 => 4 | n => n, fun | n => n⟩
theorem Try.lays119 : Go.Proofs.Lays.n119 Try.prog Try.lays119_ren := {
  mixed := by kernel_rfl
  f119 := Try.func72.trans (congrArg some (by kernel_rfl))
  t4 := Try.underlying4
  a4 := Try.isAgg4
  z4 := Try.sizeOf4
  v4 := Try.zeroValue4
  t21 := Try.underlying21
  a21 := Try.isAgg21
  z21 := Try.sizeOf21
  v21 := Try.zeroValue21 }
/-- utf8.ValidRune: "ValidRune reports whether r can be legally encoded as UTF-8. Code points that are out of range or a surrogate half are illegal.": IT RETURNS 'Lib.validRune r'; the world is as it was. (LAID: no walk: one application.) -/
theorem Try.utf8_ValidRune (r : Int) (w : World) :
    Calls Try.prog 72 #[.int .i32 r] w fun e w' => e = .returned (.bool (Lib.validRune r)) ∧ w' = w := Any.utf8_ValidRune Try.lays119 r w
def Try.lays137_ren : Go.Shelf.Ren := ⟨fun | 137 => 71 | 217 => 82 | 266 => 84 | n => n, fun | 9 => 9 | 5 => 5 | 3 => 3 | n => n, fun | n => n⟩
theorem Try.lays137 : Go.Proofs.Lays.n137 Try.prog Try.lays137_ren := {
  mixed := by kernel_rfl
  f137 := Try.func71.trans (congrArg some (by kernel_rfl))
  f217 := Try.func82.trans (congrArg some (by kernel_rfl))
  f266 := Try.func84.trans (congrArg some (by kernel_rfl))
  t3 := Try.underlying3
  a3 := Try.isAgg3
  z3 := Try.sizeOf3
  v3 := Try.zeroValue3
  t5 := Try.underlying5
  a5 := Try.isAgg5
  z5 := Try.sizeOf5
  v5 := Try.zeroValue5
  t9 := Try.underlying9
  a9 := Try.isAgg9
  z9 := Try.sizeOf9
  v9 := Try.zeroValue9 }
theorem Try.strings_IndexByte (s : ByteArray) (c : Int) (w : World) :
    Calls Try.prog 71 #[.string s, .int .u8 c] w fun e w' => e = .returned (.int .i64 (Lib.indexByte s.data.toList c.toNat.toUInt8)) ∧ w' = w := Any.strings_IndexByte Try.lays137 s c w
def Try.lays217_ren : Go.Shelf.Ren := ⟨fun | 217 => 82 | 266 => 84 | n => n, fun | 9 => 9 | 5 => 5 | 3 => 3 | n => n, fun | n => n⟩
theorem Try.lays217 : Go.Proofs.Lays.n217 Try.prog Try.lays217_ren := {
  mixed := by kernel_rfl
  f217 := Try.func82.trans (congrArg some (by kernel_rfl))
  f266 := Try.func84.trans (congrArg some (by kernel_rfl))
  t3 := Try.underlying3
  a3 := Try.isAgg3
  z3 := Try.sizeOf3
  v3 := Try.zeroValue3
  t5 := Try.underlying5
  a5 := Try.isAgg5
  z5 := Try.sizeOf5
  v5 := Try.zeroValue5
  t9 := Try.underlying9
  a9 := Try.isAgg9
  z9 := Try.sizeOf9
  v9 := Try.zeroValue9 }
theorem Try.stringslite_IndexByte (s : ByteArray) (c : Int) (w : World) :
    Calls Try.prog 82 #[.string s, .int .u8 c] w fun e w' => e = .returned (.int .i64 (Lib.indexByte s.data.toList c.toNat.toUInt8)) ∧ w' = w := Any.stringslite_IndexByte Try.lays217 s c w
def Try.lays190_ren : Go.Shelf.Ren := ⟨fun | 190 => 41 | 125 => 51 | 258 => 55 | 128 => 58 | 129 => 59 | 302 => 62 | 303 => 63 | 304 => 64 | 305 => 65 | 306 => 66 | 307 => 67 | 308 => 68 | 309 => 69 | 310 => 70 | 333 => 76 | 329 => 77 | 330 => 78 | 334 => 79 | 335 => 80 | 336 => 81 | 344 => 83 | n => n, fun | 31 => 38 | 9 => 9 | 3 => 3 | 46 => 94 | 0 => 0 | 51 => 101 | 53 => 48 | 4 => 4 | 183 => 107 | 182 => 106 | 131 => 83 | 5 => 5 | 218 => 116 | 222 => 120 | 228 => 122 | 229 => 27 | n => n, fun | n => n⟩
theorem Try.lays190 : Go.Proofs.Lays.n190 Try.prog Try.lays190_ren := {
  mixed := by kernel_rfl
  f125 := Try.func51.trans (congrArg some (by kernel_rfl))
  f128 := Try.func58.trans (congrArg some (by kernel_rfl))
  f129 := Try.func59.trans (congrArg some (by kernel_rfl))
  f190 := Try.func41.trans (congrArg some (by kernel_rfl))
  f258 := Try.func55.trans (congrArg some (by kernel_rfl))
  f302 := Try.func62.trans (congrArg some (by kernel_rfl))
  f303 := Try.func63.trans (congrArg some (by kernel_rfl))
  f304 := Try.func64.trans (congrArg some (by kernel_rfl))
  f305 := Try.func65.trans (congrArg some (by kernel_rfl))
  f306 := Try.func66.trans (congrArg some (by kernel_rfl))
  f307 := Try.func67.trans (congrArg some (by kernel_rfl))
  f308 := Try.func68.trans (congrArg some (by kernel_rfl))
  f309 := Try.func69.trans (congrArg some (by kernel_rfl))
  f310 := Try.func70.trans (congrArg some (by kernel_rfl))
  f329 := Try.func77.trans (congrArg some (by kernel_rfl))
  f330 := Try.func78.trans (congrArg some (by kernel_rfl))
  f333 := Try.func76.trans (congrArg some (by kernel_rfl))
  f334 := Try.func79.trans (congrArg some (by kernel_rfl))
  f335 := Try.func80.trans (congrArg some (by kernel_rfl))
  f336 := Try.func81.trans (congrArg some (by kernel_rfl))
  f344 := Try.func83.trans (congrArg some (by kernel_rfl))
  t0 := Try.underlying0
  a0 := Try.isAgg0
  z0 := Try.sizeOf0
  v0 := Try.zeroValue0
  t3 := Try.underlying3
  a3 := Try.isAgg3
  z3 := Try.sizeOf3
  v3 := Try.zeroValue3
  t4 := Try.underlying4
  a4 := Try.isAgg4
  z4 := Try.sizeOf4
  v4 := Try.zeroValue4
  t5 := Try.underlying5
  a5 := Try.isAgg5
  z5 := Try.sizeOf5
  v5 := Try.zeroValue5
  t9 := Try.underlying9
  a9 := Try.isAgg9
  z9 := Try.sizeOf9
  v9 := Try.zeroValue9
  t31 := Try.underlying38
  a31 := Try.isAgg38
  z31 := Try.sizeOf38
  v31 := Try.zeroValue38
  t46 := Try.underlying94
  a46 := Try.isAgg94
  z46 := Try.sizeOf94
  v46 := Try.zeroValue94
  t51 := Try.underlying101
  a51 := Try.isAgg101
  z51 := Try.sizeOf101
  v51 := Try.zeroValue101
  t53 := Try.underlying48
  a53 := Try.isAgg48
  z53 := Try.sizeOf48
  v53 := Try.zeroValue48
  t131 := Try.underlying83
  a131 := Try.isAgg83
  z131 := Try.sizeOf83
  v131 := Try.zeroValue83
  t182 := Try.underlying106
  a182 := Try.isAgg106
  z182 := Try.sizeOf106
  v182 := Try.zeroValue106
  t183 := Try.underlying107
  a183 := Try.isAgg107
  z183 := Try.sizeOf107
  v183 := Try.zeroValue107
  t218 := Try.underlying116
  a218 := Try.isAgg116
  z218 := Try.sizeOf116
  v218 := Try.zeroValue116
  t222 := Try.underlying120
  a222 := Try.isAgg120
  z222 := Try.sizeOf120
  v222 := Try.zeroValue120
  t228 := Try.underlying122
  a228 := Try.isAgg122
  z228 := Try.sizeOf122
  v228 := Try.zeroValue122
  t229 := Try.underlying27
  a229 := Try.isAgg27
  z229 := Try.sizeOf27
  v229 := Try.zeroValue27 }
theorem Try.slices_Sort_string (blk off cap : Nat) (ss : List (List UInt8)) (w : World) (hH : Holds encStr w blk off ss.toArray) (hblk : blk < w.heap.size) (hsz : ss.length < 4611686018427387904) :
    Calls Try.prog 41 #[.slice (some ⟨blk, off, none⟩) ss.length cap] w fun e w' =>
      e = .returned (.tuple #[]) ∧ ∃ n os, w' = grow (putRow encStr (Sort.ahead w n) blk off (ss.mergeSort fun x y => decide (x ≤ y)).toArray) os := Any.slices_Sort_string Try.lays190 blk off cap ss w hH hblk hsz
def Try.laysGw17_ren : Go.Shelf.Ren := ⟨fun | 17 => 54 | 15 => 61 | 20 => 75 | n => n, fun | 9 => 9 | 23 => 96 | 4 => 4 | 3 => 3 | 0 => 0 | 21 => 21 | n => n, fun | n => n⟩
theorem Try.laysGw17 : Go.Proofs.LaysGw.n17 Try.prog Try.laysGw17_ren := {
  mixed := by kernel_rfl
  f15 := Try.func61.trans (congrArg some (by kernel_rfl))
  f17 := Try.func54.trans (congrArg some (by kernel_rfl))
  f20 := Try.func75.trans (congrArg some (by kernel_rfl))
  t0 := Try.underlying0
  a0 := Try.isAgg0
  z0 := Try.sizeOf0
  v0 := Try.zeroValue0
  i0 := by kernel_rfl
  t3 := Try.underlying3
  a3 := Try.isAgg3
  z3 := Try.sizeOf3
  v3 := Try.zeroValue3
  i3 := by kernel_rfl
  t4 := Try.underlying4
  a4 := Try.isAgg4
  z4 := Try.sizeOf4
  v4 := Try.zeroValue4
  i4 := by kernel_rfl
  t9 := Try.underlying9
  a9 := Try.isAgg9
  z9 := Try.sizeOf9
  v9 := Try.zeroValue9
  i9 := by kernel_rfl
  t21 := Try.underlying21
  a21 := Try.isAgg21
  z21 := Try.sizeOf21
  v21 := Try.zeroValue21
  i21 := by kernel_rfl
  t23 := Try.underlying96
  a23 := Try.isAgg96
  z23 := Try.sizeOf96
  v23 := Try.zeroValue96
  i23 := by kernel_rfl }
def Try.lays151_ren : Go.Shelf.Ren := ⟨fun | 151 => 53 | 152 => 60 | 137 => 71 | 119 => 72 | 224 => 73 | 225 => 74 | 217 => 82 | 266 => 84 | n => n, fun | 9 => 9 | 21 => 21 | 4 => 4 | 3 => 3 | 5 => 5 | 0 => 0 | 46 => 94 | n => n, fun | n => n⟩
theorem Try.lays151 : Go.Proofs.Lays.n151 Try.prog Try.lays151_ren := {
  mixed := by kernel_rfl
  f119 := Try.func72.trans (congrArg some (by kernel_rfl))
  f137 := Try.func71.trans (congrArg some (by kernel_rfl))
  f151 := Try.func53.trans (congrArg some (by kernel_rfl))
  f152 := Try.func60.trans (congrArg some (by kernel_rfl))
  f217 := Try.func82.trans (congrArg some (by kernel_rfl))
  f224 := Try.func73.trans (congrArg some (by kernel_rfl))
  f225 := Try.func74.trans (congrArg some (by kernel_rfl))
  f266 := Try.func84.trans (congrArg some (by kernel_rfl))
  t0 := Try.underlying0
  a0 := Try.isAgg0
  z0 := Try.sizeOf0
  v0 := Try.zeroValue0
  t3 := Try.underlying3
  a3 := Try.isAgg3
  z3 := Try.sizeOf3
  v3 := Try.zeroValue3
  t4 := Try.underlying4
  a4 := Try.isAgg4
  z4 := Try.sizeOf4
  v4 := Try.zeroValue4
  t5 := Try.underlying5
  a5 := Try.isAgg5
  z5 := Try.sizeOf5
  v5 := Try.zeroValue5
  t9 := Try.underlying9
  a9 := Try.isAgg9
  z9 := Try.sizeOf9
  v9 := Try.zeroValue9
  t21 := Try.underlying21
  a21 := Try.isAgg21
  z21 := Try.sizeOf21
  v21 := Try.zeroValue21
  t46 := Try.underlying94
  a46 := Try.isAgg94
  z46 := Try.sizeOf94
  v46 := Try.zeroValue94 }
theorem Try.strings_ContainsRune_ascii (s : ByteArray) (r : Int) (w : World) (h0 : 0 ≤ r) (h1 : r < 128) :
    Calls Try.prog 53 #[.string s, .int .i32 r] w fun e w' => e = .returned (.bool (decide (0 ≤ Lib.indexByte s.data.toList r.toNat.toUInt8))) ∧ w' = w := Any.strings_ContainsRune_ascii Try.lays151 s r w h0 h1
theorem Try.strings_ContainsFunc_grows (g : Nat) (lb : Array Value) (eg : ∀ args w, (callFunc g args).run Try.prog w = .ok (.enter g args) w) (p : Nat → Bool) (s : ByteArray) (w : World) (hp : PredGrows Try.prog g lb p w) :
    Calls Try.prog 54 #[.string s, .func (.func g) #[] lb] w fun e w' => e = .returned (.bool (decide (0 ≤ Lib.idxFunc p true s))) ∧ Below w.heap.size w w' := Any.strings_ContainsFunc_grows Try.laysGw17 g lb eg p s w hp
theorem Try.slices_Sort_string_none (p : Option Addr) (cap : Nat) (w : World) :
    Calls Try.prog 41 #[.slice p 0 cap] w fun e w' => e = .returned (.tuple #[]) ∧ w' = w := Any.slices_Sort_string_none Try.lays190 p cap w
end Go.Proofs

/-
  Chapter 26: the names of a counter, walked: the keys of the map, sorted.
  Conditions: none. By an AI agent.
-/
namespace Go.Proofs.Ytplblfcofplcmaa
open Go Go.RowKit Go.Maps Go.Sort

theorem law9 : Keyed Try.prog 9 := string_keyed Try.underlying9
theorem info9 : (Try.prog.info? 9).map (fun i => (i.zero, i.size, i.bytes)) = some (some (.string ⟨#[]⟩), 1, 16) := by kernel_rfl

def RU (_ : Value) : Option (DataW Unit × List MemPlace) := some (.lit (.bool true), [])

theorem row_ne_low {w : World} {base : Nat} {e : TypeId} {v : Value} {k : Nat} {xs : List Value} {b : Nat} (h : w.ownsRow base e 1 v k xs) (hb : b < base) : some b ≠ v.ownBlock := by
  rcases h.2 with ⟨rfl, _⟩ | ⟨g, cap, cur, rfl, h1, _⟩
  · simp [Value.ownBlock]
  · intro e; have := Option.some.inj e; simp only at this; omega
theorem row_ne_iter {w : World} {base : Nat} {e : TypeId} {v : Value} {k n : Nat} {xs : List Value} {P : Program} {kt : TypeId} {H : Type} {R : Value → Option (DataW H × List MemPlace)} {b r cnt : Nat} {D : DataW H} {left : Lit → Bool}
    (h : w.ownsRow base e 1 v k xs) (hr : w.ranges P kt R b r n D left cnt) : some r ≠ v.ownBlock := by
  obtain ⟨es, clock, since, seen, c0, _, _, _, _, hri, _⟩ := hr
  rcases h.2 with ⟨rfl, _⟩ | ⟨g, cap, cur, rfl, h1, hg, _⟩
  · simp [Value.ownBlock]
  · intro e
    have := Option.some.inj e
    simp only at this
    subst this
    rw [hri] at hg
    cases hg

set_option maxRecDepth 100000 in
set_option maxHeartbeats 1000000 in
theorem names_any (pb po b n : Nat) (D0 : DataW Unit) (w : World) (hc : w.cell? ⟨pb, po, none⟩ = some (.map (some b))) (hown : w.ownsMap Try.prog 9 RU b n D0) (hmax : Maps.size D0 ≤ 1000000) :
    Calls Try.prog 17 #[.pointer (some ⟨pb, po, none⟩)] w fun e w' => ∃ (v : Value) (ss : List (List UInt8)), e = .returned v ∧ ss.Perm (strKeys D0) ∧
      w'.ownsRow w.heap.size 9 1 v ss.length ((ss.mergeSort (fun x y => decide (x ≤ y))).map encStr) ∧ (v = .slice none 0 0 ↔ ss = []) ∧ Below w.heap.size w w' := by
  obtain ⟨i0, hi, hz0, hz1, hz2⟩ := info_parts info9
  have hbl := hown.lt
  go_enter Try.func17, Try.ntmps17
  go_wp2_with (first
    | (at_range; refine wpList_range_own _ rfl _ 32 rfl 9 3 law9 Try.underlying32 _ b n _ rfl hown ?_; intro w0 hrg0 hg0 hs0)
    | go_in)
  go_frame
  go_loopw [3] (fun v wr => ∃ (left : Lit → Bool) (cnt : Nat) (ss : List (List UInt8)), wr.ranges Try.prog 9 RU b w.heap.size n D0 left cnt ∧ ss.length + cnt ≤ Maps.size D0 ∧
      wr.ownsRow w.heap.size 9 1 v ss.length (ss.map encStr) ∧ (v = .slice none 0 0 ↔ ss = []) ∧ Collected D0 left ss ∧ Below w.heap.size w wr)
    (fun _ wr => wr.rangeLeft b w.heap.size)
  case atStart =>
    exact ⟨_, _, [], hrg0, by simp, ⟨by simp, .inl ⟨rfl, rfl⟩⟩, by simp, Collected.start D0, (Below.refl _ _).grown hg0 (Nat.le_refl _) (fun j hj => by cases hj)⟩
  case round =>
    obtain ⟨left, cnt, ss, hrg, hcs, hrow, hnn, hC, hnx⟩ := hrel
    go_wp2_with (first
      | (at_next; refine wpList_next_ranges _ rfl _ rfl 9 law9 RU encStr _root_.id (fun key kl hk => by obtain ⟨x, hx, _⟩ := Maps.keyOf_str Try.underlying9 hk; exact ⟨x, hx⟩) (fun v y hv => ⟨v, rfl⟩) b w.heap.size n _ _ _ rfl hrg ?_ ?_)
      | go_in)
    · intro hc0 hl0
      by_cases hss : ss = []
      · have hv0 := hnn.2 hss
        subst hv0 hss
        have hcs := Try.slices_Sort_string_none none 0
        go_wp2_with (go_at_call 41; refine (hcs _).mono ?_; rintro e w' ⟨rfl, rfl⟩)
        go_ret
        exact ⟨_, [], rfl, hC.perm hown law9 Try.underlying9 hl0, ⟨by simp, .inl ⟨rfl, rfl⟩⟩, by simp, hnx⟩
      · rcases hrow.2 with ⟨hnil, _⟩ | ⟨g, cap, cur, rfl, hbase, hb, h1, h2, h3, h4⟩
        · exact absurd (hnn.1 hnil) hss
        have hH : Holds encStr _ g 0 ss.toArray := holds_of_block hb (by simpa using h4)
        have hgl := (Array.getElem?_eq_some_iff.1 hb).1
        have hcs := Try.slices_Sort_string g 0 cap ss _ hH hgl (by omega)
        go_wp2_with (go_at_call 41; refine hcs.mono ?_; rintro e w' ⟨rfl, nn, os, rfl⟩)
        go_ret
        exact ⟨_, ss, rfl, hC.perm hown law9 Try.underlying9 hl0, ownsRow_sorted (by simp) hbase hb h1 h2 h3, ⟨fun h => (by cases h), fun h => absurd h hss⟩, hnx.grown (grownBy_sorted _) hnx.size (fun j hj => by cases hj; exact hbase)⟩
    · intro x c kl yd yp w2 cnt2 hkey hlk hv hat hrg2 hlt hg2 hs2 hen
      obtain ⟨x', ex, rfl, _⟩ := Maps.keyOf_str Try.underlying9 hkey
      obtain rfl : x = x' := encStr_inj ex
      have hrow2 := hrow.kept hg2 (Or.inr (row_ne_iter hrow hrg).symm)
      clear hs2
      go_wp2_with (first
        | (at_builtin; refine wpList_append_own _ rfl _ _ 38 rfl w.heap.size 9 i0 (.string ⟨#[]⟩) 1 16 Try.underlying38 hi hz0 hz1 hz2 rfl (by decide) _ _ _ rfl (hrow2.alloc _) ⟨w2.heap.size, 0, none⟩ 1 1 [encStr x] rfl rfl (cell_one_new _ _ _) (by simp [Value.oneCell', encStr]) (by unfold maxLen at *; omega) (by omega) (by have := hnx.size; have := hg2.size; simp; omega) ?_; intro v' w3 hown' hg3 hnil3)
        | go_in)
      have hrg3 := (hrg2.alloc _).kept hg3 (row_ne_low hrow2 hbl) (row_ne_iter hrow2 hrg2)
      go_roundw
      case rel =>
        refine ⟨_, cnt2, ss ++ [x], hrg3, by simp; omega, by simpa using hown', ⟨fun hv' => (by have := (hnil3.1 hv').2; omega), fun h => (by simp at h)⟩, hC.step hlk hat, ?_⟩
        exact ((hnx.grown hg2 hnx.size (fun j hj => by cases hj; exact Nat.le_refl _)).alloc (by have := hnx.size; have := hg2.size; omega) _).grown hg3 (by have := hnx.size; have := hg2.size; simp; omega) (fun j hj => (hrow2.lt j hj).1)
      case measure => rw [hrg3.left_eq, hrg.left_eq]; exact hlt

set_option maxRecDepth 100000 in
theorem names_nilptr (w : World) : Calls Try.prog 17 #[.pointer none] w fun e w' => e = .returned (.slice none 0 0) ∧ w' = w := by
  go_enter Try.func17, Try.ntmps17
  go_wp2
  go_ret
  exact ⟨rfl, rfl⟩

set_option maxRecDepth 100000 in
set_option maxHeartbeats 1000000 in
theorem names_nilmap (pb po : Nat) (w : World) (hc : w.cell? ⟨pb, po, none⟩ = some (.map none)) : Calls Try.prog 17 #[.pointer (some ⟨pb, po, none⟩)] w fun e w' => e = .returned (.slice none 0 0) ∧ Below w.heap.size w w' := by
  have hrg := run_range_nilMap (P := Try.prog) w 32 9 3 Try.underlying32
  have hnx : ∀ ty, (Instr.next (.pointer (some ⟨w.heap.size, 0, none⟩)) false ty).run Try.prog (w.alloc (.mapIter none 0 #[] 0)) = _ := fun ty => run_next_nilMap _ ty 0 0 #[]
  have hcs := Try.slices_Sort_string_none none 0
  go_enter Try.func17, Try.ntmps17
  go_wp2
  refine wp_loop_rounds 1 ?_
  rw [rounds_succ]
  go_wp2_with (go_at_call 41; refine (hcs _).mono ?_; rintro e w' ⟨rfl, rfl⟩)
  go_ret
  exact ⟨rfl, (Below.refl _ _).alloc (Nat.le_refl _) _⟩

end Go.Proofs.Ytplblfcofplcmaa

/-
  Chapter 26: named, walked.
  Conditions: none. By an AI agent.
-/
namespace Go.Proofs.Ytplblfcofplcmaa
open Go Go.RowKit Go.Maps Go.Sort

def LET : ByteArray := ⟨#[97, 98, 99, 100, 101, 102, 103, 104, 105, 106, 107, 108, 109, 110, 111, 112, 113, 114, 115, 116, 117, 118, 119, 120, 121, 122, 48, 49, 50, 51, 52, 53, 54, 55, 56, 57, 45]⟩
theorem ib_none {c : UInt8} : ∀ {l : List UInt8}, (∀ b ∈ l, b ≠ c) → Lib.indexByte l c = -1
  | [], _ => rfl
  | b :: l, h => by
    have h1 : (b == c) = false := by rw [beq_eq_false_iff_ne]; exact h b (by simp)
    have h2 := ib_none (l := l) (c := c) fun x hx => h x (by simp [hx])
    simp [Lib.indexByte, h1, h2]
theorem let_low : ∀ b ∈ LET.data.toList, b.toNat < 128 := by decide

set_option maxRecDepth 100000 in
set_option maxHeartbeats 2000000 in
theorem ir_err (w : World) : Calls Try.prog 60 #[.string LET, .int .i32 65533] w fun e w' => e = .returned (.int .i64 (-1)) ∧ Below w.heap.size w w' := by
  go_enter Try.func60, Try.ntmps60
  go_wp2
  go_loopg [] 37 (fun gf wx => ∃ pos : Nat, wx.heap[w.heap.size]? = some (.stringIter LET pos) ∧ Below w.heap.size w wx ∧ 37 ≤ pos + gf)
  case atStart => exact ⟨0, World.iter_heap w LET 0, (Below.refl _ w).alloc (Nat.le_refl _) _, by omega⟩
  case round =>
    obtain ⟨pos, hit, hbw, hfu⟩ := hrel
    by_cases hps : pos < LET.size
    · obtain ⟨g', rfl⟩ : ∃ g', gk = g' + 1 := ⟨gk - 1, by have : LET.size = 37 := rfl; omega⟩
      have hnx : ∀ ty, (Instr.next (.pointer (some ⟨w.heap.size, 0, none⟩)) true ty).run Try.prog wr = _ := fun ty => Lib.run_next_any_at wr w.heap.size LET pos ty hit hps
      have hps' : pos < 37 := hps
      have hdec : ∃ R, Utf8.decode LET pos = (R, 1) ∧ R < 128 := by
        have : ∀ p : Fin 37, Utf8.decode LET p.val = ((Utf8.decode LET p.val).1, 1) ∧ (Utf8.decode LET p.val).1 < 128 := by decide +kernel
        exact ⟨_, (this ⟨pos, hps'⟩).1, (this ⟨pos, hps'⟩).2⟩
      obtain ⟨R, hR, hR2⟩ := hdec
      rw [hR] at hnx
      have hit2 := Lib.iterAt_heap wr w.heap.size LET pos (pos + 1) hit
      have hbw2 := Lib.below_iterAt hbw (k := w.heap.size) (Nat.le_refl _) LET (pos + 1)
      obtain ⟨W, hWd⟩ : ∃ W, wr.iterAt w.heap.size LET (pos + 1) = W := ⟨_, rfl⟩
      dsimp only at hnx
      rw [hWd] at hnx hit2 hbw2
      have hne : ¬ ((R : Int) = 65533) := by omega
      go_wp2
      go_roundg g'
      case measure => omega
      case rel => exact ⟨pos + 1, hit2, hbw2, by omega⟩
    · have hnx : ∀ ty, (Instr.next (.pointer (some ⟨w.heap.size, 0, none⟩)) true ty).run Try.prog wr = _ := fun ty => Lib.run_next_end_at wr w.heap.size LET pos ty hit hps
      go_wp2
      go_ret
      exact ⟨rfl, hbw⟩

set_option maxRecDepth 100000 in
set_option maxHeartbeats 2000000 in
theorem ir_bad (x : Nat) (h1 : 128 ≤ x) (h2 : x ≤ 1114111) (h3 : x ≠ 65533) (hv : Lib.validRune (x : Int) = false) (w : World) : Calls Try.prog 60 #[.string LET, .int .i32 (x : Int)] w fun e w' => e = .returned (.int .i64 (-1)) ∧ Below w.heap.size w w' := by
  have c1 := Try.utf8_ValidRune (x : Int)
  have e1 : ¬ ((x : Int) < 128) := by omega
  have e2 : ¬ ((x : Int) = 65533) := by omega
  have e0 : (0 : Int) ≤ (x : Int) := by omega
  rw [hv] at c1
  clear h1 h2 h3 hv
  generalize (x : Int) = X at *
  go_enter Try.func60, Try.ntmps60
  go_wp2_with (go_at_call 72; refine (c1 _).mono ?_; rintro e w' ⟨rfl, rfl⟩)
  go_ret
  exact ⟨rfl, Below.refl _ _⟩

theorem enc_some (x : Nat) (h1 : 128 ≤ x) (h2 : x ≤ 1114111) (hv : Utf8.valid (x : Int) = true) : ∃ (c : UInt8), 128 ≤ c.toNat ∧ ((∃ a, Utf8.encode (x : Int) = ⟨#[a, c]⟩) ∨ (∃ a b, Utf8.encode (x : Int) = ⟨#[a, b, c]⟩) ∨ (∃ a b d, Utf8.encode (x : Int) = ⟨#[a, b, d, c]⟩)) := by
  refine ⟨UInt8.ofNat (128 + x % 64), by rw [UInt8.toNat_ofNat']; omega, ?_⟩
  unfold Utf8.encode
  simp only [hv, if_true, Int.toNat_natCast]
  rw [if_neg (show ¬ x < 128 by omega)]
  by_cases a1 : x < 2048
  · rw [if_pos a1]; exact .inl ⟨_, rfl⟩
  · rw [if_neg a1]
    by_cases a2 : x < 65536
    · rw [if_pos a2]; exact .inr (.inl ⟨_, _, rfl⟩)
    · rw [if_neg a2]; exact .inr (.inr ⟨_, _, _, rfl⟩)

/-! ### names of ASCII letters -/
def pOdd (x : Nat) : Bool := !decide (0 ≤ Lib.indexByte LET.data.toList (x : Int).toNat.toUInt8)
set_option maxRecDepth 100000 in
theorem odd_ascii (x : Nat) (h : x < 128) (w : World) : Calls Try.prog 52 #[.int .i32 (x : Int)] w fun e w' => e = .returned (.bool (pOdd x)) ∧ w' = w := by
  have c1 := Try.strings_ContainsRune_ascii LET (x : Int) w (by omega) (by omega)
  unfold pOdd
  generalize decide (0 ≤ Lib.indexByte LET.data.toList (x : Int).toNat.toUInt8) = b at c1 ⊢
  clear h
  generalize (x : Int) = X at *
  go_enter Try.func52, Try.ntmps52
  go_wp2_with (go_at_call 53; refine c1.mono ?_; rintro e w' ⟨rfl, rfl⟩)
  go_ret
  exact ⟨rfl, rfl⟩

def asciiB (s : ByteArray) : Bool := s.data.toList.all fun b => decide (b.toNat < 128)
theorem dec_ascii {s : ByteArray} (hs : asciiB s = true) {pos : Nat} (hp : pos < s.size) : ∃ R, Utf8.decode s pos = (R, 1) ∧ R < 128 := by
  have hb : (s.get! pos).toNat < 128 := by
    have h1 : s.get! pos = s.data.toList[pos]'(by simpa using hp) := by
      show s.data[pos]! = _
      have : pos < s.data.size := hp
      simp [getElem!_pos s.data pos this]
    rw [h1]
    have := List.all_eq_true.1 hs _ (List.getElem_mem (l := s.data.toList) (n := pos) (by simpa using hp))
    simpa using this
  refine ⟨(s.get! pos).toNat, ?_, hb⟩
  unfold Utf8.decode
  simp only [Nat.add_zero, hb, if_true]

set_option maxHeartbeats 2000000 in
set_option maxRecDepth 1000000 in
theorem idx_ascii (s : ByteArray) (hs : asciiB s = true) (w : World) :
    Calls Try.prog 75 #[.string s, .func (.func 52) #[] #[], .bool true] w fun e w' => e = .returned (.int .i64 (Lib.idxFunc pOdd true s)) ∧ Below w.heap.size w w' := by
  have hodd := odd_ascii
  go_enter Try.func75, Try.ntmps75
  go_wp2
  go_loopg [] s.size (fun gf wx => ∃ pos : Nat, wx.heap[w.heap.size]? = some (.stringIter s pos) ∧ Below w.heap.size w wx ∧ Lib.idxFuncFrom pOdd true s gf pos = Lib.idxFunc pOdd true s ∧ s.size ≤ pos + gf)
  case atStart => exact ⟨0, World.iter_heap w s 0, (Below.refl _ w).alloc (Nat.le_refl _) _, rfl, by omega⟩
  case round =>
    obtain ⟨pos, hit, hbw, hleft, hfu⟩ := hrel
    by_cases hps : pos < s.size
    · obtain ⟨g', rfl⟩ : ∃ g', gk = g' + 1 := ⟨gk - 1, by omega⟩
      have hnx : ∀ ty, (Instr.next (.pointer (some ⟨w.heap.size, 0, none⟩)) true ty).run Try.prog wr = _ := fun ty => Lib.run_next_any_at wr w.heap.size s pos ty hit hps
      obtain ⟨R, hR, hR2⟩ := dec_ascii hs hps
      simp only [Lib.idxFuncFrom, hps, if_true, hR] at hleft
      rw [hR] at hnx
      dsimp only at hnx
      have hit2 := Lib.iterAt_heap wr w.heap.size s pos (pos + 1) hit
      have hbw2 := Lib.below_iterAt hbw (k := w.heap.size) (Nat.le_refl _) s (pos + 1)
      obtain ⟨W, hWd⟩ : ∃ W, wr.iterAt w.heap.size s (pos + 1) = W := ⟨_, rfl⟩
      rw [hWd] at hnx hit2 hbw2
      have cS := hodd R hR2 W
      clear hodd
      cases hsp : pOdd R <;> rw [hsp] at cS <;> simp only [hsp, if_true, Bool.false_eq_true, Bool.true_eq_false, if_false] at hleft
      · go_wp2_with (go_at_call 52; refine cS.mono ?_; rintro e W' ⟨rfl, rfl⟩)
        go_roundg g'
        case measure => omega
        case rel => exact ⟨pos + 1, hit2, hbw2, hleft, by omega⟩
      · go_wp2_with (go_at_call 52; refine cS.mono ?_; rintro e W' ⟨rfl, rfl⟩)
        go_ret
        exact ⟨by rw [← hleft] <;> rfl, hbw2⟩
    · have hnx : ∀ ty, (Instr.next (.pointer (some ⟨w.heap.size, 0, none⟩)) true ty).run Try.prog wr = _ := fun ty => Lib.run_next_end_at wr w.heap.size s pos ty hit hps
      rw [Lib.idxFuncFrom_end pOdd true s gk pos hps] at hleft
      go_wp2
      go_ret
      exact ⟨by rw [← hleft] <;> rfl, hbw⟩

def namedB (s : ByteArray) : Bool := decide (1 ≤ s.size) && (decide (s.size ≤ 40) && !decide (0 ≤ Lib.idxFunc pOdd true s))
set_option maxRecDepth 1000000 in
theorem cf_ascii (s : ByteArray) (hs : asciiB s = true) (w : World) : Calls Try.prog 54 #[.string s, .func (.func 52) #[] #[]] w fun e w' => e = .returned (.bool (decide (0 ≤ Lib.idxFunc pOdd true s))) ∧ Below w.heap.size w w' := by
  have c1 := idx_ascii s hs
  have c2 : ∀ w, Calls Try.prog 61 #[.string s, .func (.func 52) #[] #[]] w fun e w' => e = .returned (.int .i64 (Lib.idxFunc pOdd true s)) ∧ Below w.heap.size w w' := by
    intro w
    generalize Lib.idxFunc pOdd true s = I at c1
    go_enter Try.func61, Try.ntmps61
    go_wp2_with (go_at_call 75; refine (c1 _).mono ?_; rintro e w' ⟨rfl, hb⟩)
    go_ret
    exact ⟨rfl, hb⟩
  clear c1
  generalize Lib.idxFunc pOdd true s = I at c2 ⊢
  go_enter Try.func54, Try.ntmps54
  go_wp2_with (go_at_call 61; refine (c2 _).mono ?_; rintro e w' ⟨rfl, hb⟩)
  go_ret
  exact ⟨rfl, hb⟩

set_option maxRecDepth 1000000 in
theorem named_ascii (s : ByteArray) (hs : asciiB s = true) (w : World) : Calls Try.prog 40 #[.string s] w fun e w' => e = .returned (.bool (namedB s)) ∧ Below w.heap.size w w' := by
  have c2 := cf_ascii s hs w
  unfold namedB
  generalize Lib.idxFunc pOdd true s = I at c2 ⊢
  by_cases h1 : 1 ≤ s.size
  · by_cases h2 : s.size ≤ 40
    · have h1' : (1 : Int) ≤ (s.size : Int) := by omega
      have h2' : (s.size : Int) ≤ 40 := by omega
      go_enter Try.func40, Try.ntmps40
      go_wp2_with (go_at_call 54; refine c2.mono ?_; rintro e w' ⟨rfl, hb⟩)
      go_ret
      refine ⟨?_, hb⟩
      simp [h1, h2]
    · have h1' : (1 : Int) ≤ (s.size : Int) := by omega
      have h2' : ¬ (s.size : Int) ≤ 40 := by omega
      go_enter Try.func40, Try.ntmps40
      go_wp2
      go_ret
      refine ⟨?_, Below.refl _ _⟩
      simp [h1, h2]
  · have h1' : ¬ (1 : Int) ≤ (s.size : Int) := by omega
    go_enter Try.func40, Try.ntmps40
    go_wp2
    go_ret
    refine ⟨?_, Below.refl _ _⟩
    simp [h1]

end Go.Proofs.Ytplblfcofplcmaa

/-
  Chapter 26: strings.IndexRune, for a rune that is not ASCII.
  Conditions: none. By an AI agent.
-/
namespace Go.Proofs.Ytplblfcofplcmaa
open Go Go.RowKit Go.Maps Go.Sort

set_option maxRecDepth 100000 in
set_option maxHeartbeats 4000000 in
theorem ir_good (x : Nat) (h1 : 128 ≤ x) (h2 : x ≤ 1114111) (h3 : x ≠ 65533) (hv : Lib.validRune (x : Int) = true) (hv2 : Utf8.valid (x : Int) = true) (w : World) : Calls Try.prog 60 #[.string LET, .int .i32 (x : Int)] w fun e w' => e = .returned (.int .i64 (-1)) ∧ Below w.heap.size w w' := by
  have c1 := Try.utf8_ValidRune (x : Int)
  have c2 := Try.strings_IndexByte
  have e1 : ¬ ((x : Int) < 128) := by omega
  have e2 : ¬ ((x : Int) = 65533) := by omega
  have e0 : (0 : Int) ≤ (x : Int) := by omega
  obtain ⟨c, hc, henc⟩ := enc_some x h1 h2 hv2
  have hib : ∀ (s : ByteArray), (∀ b ∈ s.data.toList, b ∈ LET.data.toList) → Lib.indexByte s.data.toList c = -1 := fun s hs => ib_none fun b hb e => by
    have := let_low b (hs b hb); rw [e] at this; omega
  have hcc : ((c.toNat : Int).toNat.toUInt8) = c := by
    apply UInt8.toNat_inj.1
    have := c.toNat_lt
    simp
  rw [hv] at c1
  clear h1 h2 h3 hv hv2
  generalize (x : Int) = X at *
  have hcne : ∀ n : Nat, n < 128 → ¬ ((n : Int) = (c.toNat : Int)) := fun n hn => by omega
  have n1 := hcne 98 (by decide)
  have n2 := hcne 99 (by decide)
  have n3 := hcne 100 (by decide)
  have c3 : ∀ (k : Nat) (w : World), Calls Try.prog 71 #[.string (LET.extract k LET.size), .int .u8 (c.toNat : Int)] w fun e w' => e = .returned (.int .i64 (-1)) ∧ w' = w := fun k w => by
    have := c2 (LET.extract k LET.size) (c.toNat : Int) w
    rw [hcc, hib _ (fun b hb => by
      rw [ByteArray.data_extract, Array.toList_extract] at hb
      exact List.mem_of_mem_drop (List.mem_of_mem_take hb))] at this
    exact this
  clear hcne hc c2 hib hcc
  rcases henc with ⟨a, ha⟩ | ⟨a, b, ha⟩ | ⟨a, b, d, ha⟩
  · go_enter Try.func60, Try.ntmps60
    go_wp2_with (go_at_call 72; refine (c1 _).mono ?_; rintro e w' ⟨rfl, rfl⟩)
    go_step3
    go_wp2
    refine wp_loop_rounds 1 ?_
    rw [rounds_succ]
    go_wp2
    go_step3
    go_wp2
    go_quiet (fail)
    go_wp2
    · go_quiet (first | (refine Calls.mono (c3 2 _) ?_; rintro e w2 ⟨rfl, rfl⟩; exact ⟨rfl, _, rfl⟩))
      go_wp2
      simp only [Exit.noGoto, Exit.inBlock, Exit.then]
      go_ret
      exact ⟨rfl, ⟨rfl, rfl, rfl, Nat.le_refl _, fun _ _ => rfl⟩⟩
    · exfalso
      exact absurd (bne_eq_false_iff_eq.1 ‹((_ : Int) != _) = false›) n1
  · go_enter Try.func60, Try.ntmps60
    go_wp2_with (go_at_call 72; refine (c1 _).mono ?_; rintro e w' ⟨rfl, rfl⟩)
    go_step3
    go_wp2
    refine wp_loop_rounds 1 ?_
    rw [rounds_succ]
    go_wp2
    go_step3
    go_wp2
    go_quiet (fail)
    go_wp2
    · go_quiet (first | (refine Calls.mono (c3 3 _) ?_; rintro e w2 ⟨rfl, rfl⟩; exact ⟨rfl, _, rfl⟩))
      go_wp2
      simp only [Exit.noGoto, Exit.inBlock, Exit.then]
      go_ret
      exact ⟨rfl, ⟨rfl, rfl, rfl, Nat.le_refl _, fun _ _ => rfl⟩⟩
    · exfalso
      exact absurd (bne_eq_false_iff_eq.1 ‹((_ : Int) != _) = false›) n2
  · go_enter Try.func60, Try.ntmps60
    go_wp2_with (go_at_call 72; refine (c1 _).mono ?_; rintro e w' ⟨rfl, rfl⟩)
    go_step3
    go_wp2
    refine wp_loop_rounds 1 ?_
    rw [rounds_succ]
    go_wp2
    go_step3
    go_wp2
    go_quiet (fail)
    go_wp2
    · go_quiet (first | (refine Calls.mono (c3 4 _) ?_; rintro e w2 ⟨rfl, rfl⟩; exact ⟨rfl, _, rfl⟩))
      go_wp2
      simp only [Exit.noGoto, Exit.inBlock, Exit.then]
      go_ret
      exact ⟨rfl, ⟨rfl, rfl, rfl, Nat.le_refl _, fun _ _ => rfl⟩⟩
    · exfalso
      exact absurd (bne_eq_false_iff_eq.1 ‹((_ : Int) != _) = false›) n3

end Go.Proofs.Ytplblfcofplcmaa

/-
  Chapter 26: named, any string.
  Conditions: none. By an AI agent.
-/
namespace Go.Proofs.Ytplblfcofplcmaa
open Go Go.RowKit Go.Maps Go.Sort

def pAll (x : Nat) : Bool := if x < 128 then pOdd x else true

set_option maxRecDepth 100000 in
theorem odd_high (x : Nat) (h : 128 ≤ x) (hir : ∀ w : World, Calls Try.prog 60 #[.string LET, .int .i32 (x : Int)] w fun e w' => e = .returned (.int .i64 (-1)) ∧ Below w.heap.size w w') (w : World) : Calls Try.prog 52 #[.int .i32 (x : Int)] w fun e w' => e = .returned (.bool true) ∧ Below w.heap.size w w' := by
  generalize (x : Int) = X at *
  have c1 : ∀ w : World, Calls Try.prog 53 #[.string LET, .int .i32 X] w fun e w' => e = .returned (.bool false) ∧ Below w.heap.size w w' := by
    intro w
    go_enter Try.func53, Try.ntmps53
    go_wp2_with (go_at_call 60; refine (hir _).mono ?_; rintro e w' ⟨rfl, hb⟩)
    go_ret
    exact ⟨rfl, hb⟩
  go_enter Try.func52, Try.ntmps52
  go_wp2_with (go_at_call 53; refine (c1 _).mono ?_; rintro e w' ⟨rfl, hb⟩)
  go_ret
  exact ⟨rfl, hb⟩

theorem dec_ok (s : ByteArray) (pos : Nat) (h : pos < s.size) : ((Utf8.decode s pos).1 < 128 ∨ (128 ≤ (Utf8.decode s pos).1 ∧ (Utf8.decode s pos).1 ≤ 1114111 ∧ Lib.validRune ((Utf8.decode s pos).1 : Int) = true)) ∧ 1 ≤ (Utf8.decode s pos).2 := by
  refine ⟨?_, Lib.decode_width_pos s pos h⟩
  by_cases h1 : (Utf8.decode s pos).1 < 128
  · exact .inl h1
  · right
    have hv := Lib.decodeN_valid (s.size - pos) (s.get! pos).toNat (s.get! (pos + 1)).toNat (s.get! (pos + 2)).toNat (s.get! (pos + 3)).toNat (s.get! pos).toNat_lt
    rw [← Lib.decode_at] at hv
    refine ⟨by omega, by omega, ?_⟩
    unfold Lib.validRune
    simp
    omega

theorem odd_any (x : Nat) (h : x < 128 ∨ (128 ≤ x ∧ x ≤ 1114111 ∧ Lib.validRune (x : Int) = true)) (w : World) : Calls Try.prog 52 #[.int .i32 (x : Int)] w fun e w' => e = .returned (.bool (pAll x)) ∧ Below w.heap.size w w' := by
  unfold pAll
  by_cases h1 : x < 128
  · rw [if_pos h1]
    refine (odd_ascii x h1 w).mono ?_
    rintro e w' ⟨rfl, rfl⟩
    exact ⟨rfl, Below.refl _ _⟩
  · rw [if_neg h1]
    obtain ⟨h2, h3, hv⟩ := h.resolve_left h1
    by_cases he : x = 65533
    · subst he
      exact odd_high 65533 h2 (fun w => ir_err w) w
    · exact odd_high x h2 (fun w => ir_good x h2 h3 he hv (by unfold Lib.validRune at hv; simp at hv; simp [Utf8.valid]; omega) w) w

set_option maxHeartbeats 2000000 in
set_option maxRecDepth 1000000 in
theorem idx_any (s : ByteArray) (w : World) :
    Calls Try.prog 75 #[.string s, .func (.func 52) #[] #[], .bool true] w fun e w' => e = .returned (.int .i64 (Lib.idxFunc pAll true s)) ∧ Below w.heap.size w w' := by
  have hodd := odd_any
  go_enter Try.func75, Try.ntmps75
  go_wp2
  go_loopg [] s.size (fun gf wx => ∃ pos : Nat, wx.heap[w.heap.size]? = some (.stringIter s pos) ∧ Below w.heap.size w wx ∧ Lib.idxFuncFrom pAll true s gf pos = Lib.idxFunc pAll true s ∧ s.size ≤ pos + gf)
  case atStart => exact ⟨0, World.iter_heap w s 0, (Below.refl _ w).alloc (Nat.le_refl _) _, rfl, by omega⟩
  case round =>
    obtain ⟨pos, hit, hbw, hleft, hfu⟩ := hrel
    by_cases hps : pos < s.size
    · obtain ⟨g', rfl⟩ : ∃ g', gk = g' + 1 := ⟨gk - 1, by omega⟩
      have hnx : ∀ ty, (Instr.next (.pointer (some ⟨w.heap.size, 0, none⟩)) true ty).run Try.prog wr = _ := fun ty => Lib.run_next_any_at wr w.heap.size s pos ty hit hps
      obtain ⟨hR2, hN⟩ := dec_ok s pos hps
      obtain ⟨R, hR⟩ : ∃ R, (Utf8.decode s pos).1 = R := ⟨_, rfl⟩
      obtain ⟨N, hN'⟩ : ∃ N, (Utf8.decode s pos).2 = N := ⟨_, rfl⟩
      simp only [Lib.idxFuncFrom, hps, if_true, hR, hN'] at hleft
      rw [hR, hN'] at hnx
      rw [hR] at hR2
      rw [hN'] at hN
      have hit2 := Lib.iterAt_heap wr w.heap.size s pos (pos + N) hit
      have hbw2 := Lib.below_iterAt hbw (k := w.heap.size) (Nat.le_refl _) s (pos + N)
      obtain ⟨W, hWd⟩ : ∃ W, wr.iterAt w.heap.size s (pos + N) = W := ⟨_, rfl⟩
      rw [hWd] at hnx hit2 hbw2
      have cS := hodd R hR2 W
      have hWs : w.heap.size < W.heap.size := (Array.getElem?_eq_some_iff.1 hit2).1
      clear hodd hR2
      cases hsp : pAll R <;> rw [hsp] at cS <;> simp only [hsp, if_true, Bool.false_eq_true, Bool.true_eq_false, if_false] at hleft
      · go_wp2_with (go_at_call 52; refine cS.mono ?_; rintro e W' ⟨rfl, hb'⟩)
        go_roundg g'
        case measure => omega
        case rel => exact ⟨pos + N, by rw [hb'.block _ hWs]; exact hit2, hbw2.trans (hb'.mono (Nat.le_of_lt hWs)), hleft, by omega⟩
      · go_wp2_with (go_at_call 52; refine cS.mono ?_; rintro e W' ⟨rfl, hb'⟩)
        go_ret
        exact ⟨by rw [← hleft] <;> rfl, hbw2.trans (hb'.mono (Nat.le_of_lt hWs))⟩
    · have hnx : ∀ ty, (Instr.next (.pointer (some ⟨w.heap.size, 0, none⟩)) true ty).run Try.prog wr = _ := fun ty => Lib.run_next_end_at wr w.heap.size s pos ty hit hps
      rw [Lib.idxFuncFrom_end pAll true s gk pos hps] at hleft
      go_wp2
      go_ret
      exact ⟨by rw [← hleft] <;> rfl, hbw⟩

def namedA (s : ByteArray) : Bool := decide (1 ≤ s.size) && (decide (s.size ≤ 40) && !decide (0 ≤ Lib.idxFunc pAll true s))
set_option maxRecDepth 1000000 in
theorem cf_any (s : ByteArray) (w : World) : Calls Try.prog 54 #[.string s, .func (.func 52) #[] #[]] w fun e w' => e = .returned (.bool (decide (0 ≤ Lib.idxFunc pAll true s))) ∧ Below w.heap.size w w' := by
  have c1 := idx_any s
  have c2 : ∀ w, Calls Try.prog 61 #[.string s, .func (.func 52) #[] #[]] w fun e w' => e = .returned (.int .i64 (Lib.idxFunc pAll true s)) ∧ Below w.heap.size w w' := by
    intro w
    generalize Lib.idxFunc pAll true s = I at c1
    go_enter Try.func61, Try.ntmps61
    go_wp2_with (go_at_call 75; refine (c1 _).mono ?_; rintro e w' ⟨rfl, hb⟩)
    go_ret
    exact ⟨rfl, hb⟩
  clear c1
  generalize Lib.idxFunc pAll true s = I at c2 ⊢
  go_enter Try.func54, Try.ntmps54
  go_wp2_with (go_at_call 61; refine (c2 _).mono ?_; rintro e w' ⟨rfl, hb⟩)
  go_ret
  exact ⟨rfl, hb⟩

set_option maxRecDepth 1000000 in
theorem named_any (s : ByteArray) (w : World) : Calls Try.prog 40 #[.string s] w fun e w' => e = .returned (.bool (namedA s)) ∧ Below w.heap.size w w' := by
  have c2 := cf_any s w
  unfold namedA
  generalize Lib.idxFunc pAll true s = I at c2 ⊢
  by_cases h1 : 1 ≤ s.size
  · by_cases h2 : s.size ≤ 40
    · have h1' : (1 : Int) ≤ (s.size : Int) := by omega
      have h2' : (s.size : Int) ≤ 40 := by omega
      go_enter Try.func40, Try.ntmps40
      go_wp2_with (go_at_call 54; refine c2.mono ?_; rintro e w' ⟨rfl, hb⟩)
      go_ret
      refine ⟨?_, hb⟩
      simp [h1, h2]
    · have h1' : (1 : Int) ≤ (s.size : Int) := by omega
      have h2' : ¬ (s.size : Int) ≤ 40 := by omega
      go_enter Try.func40, Try.ntmps40
      go_wp2
      go_ret
      refine ⟨?_, Below.refl _ _⟩
      simp [h2]
  · have h1' : ¬ (1 : Int) ≤ (s.size : Int) := by omega
    go_enter Try.func40, Try.ntmps40
    go_wp2
    go_ret
    refine ⟨?_, Below.refl _ _⟩
    simp [h1]

end Go.Proofs.Ytplblfcofplcmaa
