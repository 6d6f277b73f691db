/-
  3 texts in one (merge.py): Shelf Qa Wa.
  Conditions: none. By an AI agent.
-/
import Derived.Shelf.Lay
import Derived.Shelf.LaySoft
import Derived.Shelf.Strings.Builder1
import Derived.Shelf.LaysM
import Derived.Shelf.LaysC
import Derived.Shelf.Strconv.ToError
import Derived.Shelf.Strings.Search3
import Derived.Shelf.Strings.Split
import Derived.Test.YtlkgfbcencoahaaDoorProg
import Derived.Lib.SplitLaws
import Derived.Lib.IndexBytes
import Derived.Lib.ConvBytes
import Derived.Lib.AtoiErrMem
import Derived.Lib.Hide
import Derived.Laws.Closers25
import Derived.Laws.Closers25b
import Derived.BigCall
import Derived.BigGuard
import Derived.WalkKit

/-
  The kit's contracts of library functions, laid at this program (printed by the kit's tools lay-shelf and lay-plain, cut down by us).
  Conditions: none. By an AI agent.
-/
namespace Go.Proofs
open Go.Shelf Go.RowKit Go.Lib
def Tryd.lays169_ren : Go.Shelf.Ren := ⟨fun | 169 => 64 | n => n, fun | 70 => 99 | 9 => 9 | 0 => 0 | 72 => 101 | 37 => 34 | 127 => 113 | 3 => 3 | 5 => 5 | n => n, fun | n => n⟩
theorem Tryd.lays169 : Go.Proofs.Lays.n169 Tryd.prog Tryd.lays169_ren := {
  mixed := by kernel_rfl
  f169 := Tryd.func64.trans (congrArg some (by kernel_rfl))
  t0 := Tryd.underlying0
  a0 := Tryd.isAgg0
  z0 := Tryd.sizeOf0
  v0 := Tryd.zeroValue0
  t3 := Tryd.underlying3
  a3 := Tryd.isAgg3
  z3 := Tryd.sizeOf3
  v3 := Tryd.zeroValue3
  t9 := Tryd.underlying9
  a9 := Tryd.isAgg9
  z9 := Tryd.sizeOf9
  v9 := Tryd.zeroValue9
  t37 := Tryd.underlying34
  a37 := Tryd.isAgg34
  z37 := Tryd.sizeOf34
  v37 := Tryd.zeroValue34
  t70 := Tryd.underlying99
  a70 := Tryd.isAgg99
  z70 := Tryd.sizeOf99
  v70 := Tryd.zeroValue99
  t72 := Tryd.underlying101
  a72 := Tryd.isAgg101
  z72 := Tryd.sizeOf101
  v72 := Tryd.zeroValue101
  t127 := Tryd.underlying113
  a127 := Tryd.isAgg113
  z127 := Tryd.sizeOf113
  v127 := Tryd.zeroValue113 }
theorem Tryd.Builder_Extra_169 : Builder.Extra Tryd.prog Tryd.lays169_ren := {
  sizeBuilder := by kernel_rfl
  liesBuilder := by kernel_rfl
  t5 := Tryd.underlying5
  a5 := Tryd.isAgg5
  z5 := Tryd.sizeOf5
  v5 := Tryd.zeroValue5
  infoByte := by kernel_rfl
  cellsByte := by kernel_rfl
  sizeByte := by kernel_rfl
  neB5 := by decide }
def Tryd.lays167_ren : Go.Shelf.Ren := ⟨fun | 167 => 63 | 240 => 77 | 276 => 87 | n => n, fun | 0 => 0 | 4 => 4 | 5 => 5 | 9 => 9 | 20 => 20 | 37 => 34 | 70 => 99 | 72 => 101 | 75 => 91 | 80 => 103 | 164 => 120 | n => n, fun | n => n⟩
theorem Tryd.lays167 : Go.Proofs.Lays.n167 Tryd.prog Tryd.lays167_ren := {
  mixed := by kernel_rfl
  f167 := Tryd.func63.trans (congrArg some (by kernel_rfl))
  f240 := Tryd.func77.trans (congrArg some (by kernel_rfl))
  f276 := Tryd.func87.trans (congrArg some (by kernel_rfl))
  t0 := Tryd.underlying0
  a0 := Tryd.isAgg0
  z0 := Tryd.sizeOf0
  v0 := Tryd.zeroValue0
  t4 := Tryd.underlying4
  a4 := Tryd.isAgg4
  z4 := Tryd.sizeOf4
  v4 := Tryd.zeroValue4
  t5 := Tryd.underlying5
  a5 := Tryd.isAgg5
  z5 := Tryd.sizeOf5
  v5 := Tryd.zeroValue5
  t9 := Tryd.underlying9
  a9 := Tryd.isAgg9
  z9 := Tryd.sizeOf9
  v9 := Tryd.zeroValue9
  t20 := Tryd.underlying20
  a20 := Tryd.isAgg20
  z20 := Tryd.sizeOf20
  v20 := Tryd.zeroValue20
  t37 := Tryd.underlying34
  a37 := Tryd.isAgg34
  z37 := Tryd.sizeOf34
  v37 := Tryd.zeroValue34
  t70 := Tryd.underlying99
  a70 := Tryd.isAgg99
  z70 := Tryd.sizeOf99
  v70 := Tryd.zeroValue99
  t72 := Tryd.underlying101
  a72 := Tryd.isAgg101
  z72 := Tryd.sizeOf101
  v72 := Tryd.zeroValue101
  t75 := Tryd.underlying91
  a75 := Tryd.isAgg91
  z75 := Tryd.sizeOf91
  v75 := Tryd.zeroValue91
  t164 := Tryd.underlying120
  a164 := Tryd.isAgg120
  z164 := Tryd.sizeOf120
  v164 := Tryd.zeroValue120
}
theorem Tryd.Builder_Extra_167 : Builder.Extra Tryd.prog Tryd.lays167_ren := {
  sizeBuilder := by kernel_rfl
  liesBuilder := by kernel_rfl
  t5 := Tryd.underlying5
  a5 := Tryd.isAgg5
  z5 := Tryd.sizeOf5
  v5 := Tryd.zeroValue5
  infoByte := by kernel_rfl
  cellsByte := by kernel_rfl
  sizeByte := by kernel_rfl
  neB5 := by decide }
theorem Tryd.Builder_WriteByte (B b : Nat) (bs : List Value) (c : Int) (w : World) (h : Lib.IsBuilder 101 5 B b bs w) (hlen : bs.length + 1 ≤ 140737488355328) (hBw : B ≤ w.heap.size) :
    Calls Tryd.prog 63 #[.pointer (some ⟨b, 0, none⟩), .int .u8 c] w fun e w' => e = .returned .nilIface ∧ (Lib.BuilderAt 101 5 B b (.pointer (some ⟨b, 0, none⟩)) (bs ++ [.int .u8 c]) w' ∧ Below B w w') := Any.Builder_WriteByte Tryd.lays167 Tryd.Builder_Extra_167 B b bs c w h hlen hBw
theorem Tryd.Builder_String_any (B b : Nat) (l : List UInt8) (w : World) (h : Lib.IsBuilder 101 5 B b (Lib.byteCells l) w) (hBw : B ≤ w.heap.size) :
    Calls Tryd.prog 64 #[.pointer (some ⟨b, 0, none⟩)] w fun e w' => e = .returned (.string ⟨l.toArray⟩) ∧ Below B w w' := Any.Builder_String_any Tryd.lays169 Tryd.Builder_Extra_169 B b l w h hBw
def Tryd.laysC245_ren : Go.Shelf.Ren := ⟨fun | 245 => 62 | 279 => 73 | 280 => 74 | 281 => 75 | 282 => 76 | 316 => 84 | 171 => 86 | 205 => 85 | 243 => 90 | 246 => 91 | 283 => 92 | 284 => 93 | 285 => 94 | 286 => 95 | 129 => 97 | 317 => 96 | 318 => 98 | 319 => 99 | 320 => 100 | 337 => 101 | 338 => 102 | n => n, fun | 9 => 9 | 3 => 3 | 75 => 91 | 167 => 108 | 4 => 4 | 168 => 110 | 210 => 117 | 37 => 34 | 0 => 0 | 127 => 113 | 145 => 131 | 143 => 129 | 2 => 2 | 171 => 133 | 53 => 89 | 5 => 5 | 173 => 136 | 212 => 139 | 51 => 126 | 20 => 20 | 213 => 140 | 46 => 94 | 232 => 144 | 233 => 145 | 80 => 103 | n => n, fun | 15 => 1 | 16 => 2 | 17 => 5 | 18 => 6 | 19 => 7 | n => n⟩
theorem Tryd.laysC245 : Go.Proofs.LaysC.n245 Tryd.prog Tryd.laysC245_ren := {
  mixed := by kernel_rfl
  f129 := Tryd.func97.trans (congrArg some (by kernel_rfl))
  f171 := Tryd.func86.trans (congrArg some (by kernel_rfl))
  f205 := Tryd.func85.trans (congrArg some (by kernel_rfl))
  f243 := Tryd.func90.trans (congrArg some (by kernel_rfl))
  f245 := Tryd.func62.trans (congrArg some (by kernel_rfl))
  f246 := Tryd.func91.trans (congrArg some (by kernel_rfl))
  f279 := Tryd.func73.trans (congrArg some (by kernel_rfl))
  f280 := Tryd.func74.trans (congrArg some (by kernel_rfl))
  f281 := Tryd.func75.trans (congrArg some (by kernel_rfl))
  f282 := Tryd.func76.trans (congrArg some (by kernel_rfl))
  f283 := Tryd.func92.trans (congrArg some (by kernel_rfl))
  f284 := Tryd.func93.trans (congrArg some (by kernel_rfl))
  f285 := Tryd.func94.trans (congrArg some (by kernel_rfl))
  f286 := Tryd.func95.trans (congrArg some (by kernel_rfl))
  f316 := Tryd.func84.trans (congrArg some (by kernel_rfl))
  f317 := Tryd.func96.trans (congrArg some (by kernel_rfl))
  f318 := Tryd.func98.trans (congrArg some (by kernel_rfl))
  f319 := Tryd.func99.trans (congrArg some (by kernel_rfl))
  f320 := Tryd.func100.trans (congrArg some (by kernel_rfl))
  f337 := Tryd.func101.trans (congrArg some (by kernel_rfl))
  f338 := Tryd.func102.trans (congrArg some (by kernel_rfl))
  t0 := Tryd.underlying0
  a0 := Tryd.isAgg0
  z0 := Tryd.sizeOf0
  v0 := Tryd.zeroValue0
  t2 := Tryd.underlying2
  a2 := Tryd.isAgg2
  z2 := Tryd.sizeOf2
  v2 := Tryd.zeroValue2
  t3 := Tryd.underlying3
  a3 := Tryd.isAgg3
  z3 := Tryd.sizeOf3
  v3 := Tryd.zeroValue3
  t4 := Tryd.underlying4
  a4 := Tryd.isAgg4
  z4 := Tryd.sizeOf4
  v4 := Tryd.zeroValue4
  t5 := Tryd.underlying5
  a5 := Tryd.isAgg5
  z5 := Tryd.sizeOf5
  v5 := Tryd.zeroValue5
  t9 := Tryd.underlying9
  a9 := Tryd.isAgg9
  z9 := Tryd.sizeOf9
  v9 := Tryd.zeroValue9
  t20 := Tryd.underlying20
  a20 := Tryd.isAgg20
  z20 := Tryd.sizeOf20
  v20 := Tryd.zeroValue20
  t37 := Tryd.underlying34
  a37 := Tryd.isAgg34
  z37 := Tryd.sizeOf34
  v37 := Tryd.zeroValue34
  t46 := Tryd.underlying94
  a46 := Tryd.isAgg94
  z46 := Tryd.sizeOf94
  v46 := Tryd.zeroValue94
  t51 := Tryd.underlying126
  a51 := Tryd.isAgg126
  z51 := Tryd.sizeOf126
  v51 := Tryd.zeroValue126
  t53 := Tryd.underlying89
  a53 := Tryd.isAgg89
  z53 := Tryd.sizeOf89
  v53 := Tryd.zeroValue89
  t75 := Tryd.underlying91
  a75 := Tryd.isAgg91
  z75 := Tryd.sizeOf91
  v75 := Tryd.zeroValue91
  t127 := Tryd.underlying113
  a127 := Tryd.isAgg113
  z127 := Tryd.sizeOf113
  v127 := Tryd.zeroValue113
  t143 := Tryd.underlying129
  a143 := Tryd.isAgg129
  z143 := Tryd.sizeOf129
  v143 := Tryd.zeroValue129
  t145 := Tryd.underlying131
  a145 := Tryd.isAgg131
  z145 := Tryd.sizeOf131
  v145 := Tryd.zeroValue131
  t167 := Tryd.underlying108
  a167 := Tryd.isAgg108
  z167 := Tryd.sizeOf108
  v167 := Tryd.zeroValue108
  t168 := Tryd.underlying110
  a168 := Tryd.isAgg110
  z168 := Tryd.sizeOf110
  v168 := Tryd.zeroValue110
  t171 := Tryd.underlying133
  a171 := Tryd.isAgg133
  z171 := Tryd.sizeOf133
  v171 := Tryd.zeroValue133
  t173 := Tryd.underlying136
  a173 := Tryd.isAgg136
  z173 := Tryd.sizeOf136
  v173 := Tryd.zeroValue136
  t210 := Tryd.underlying117
  a210 := Tryd.isAgg117
  z210 := Tryd.sizeOf117
  v210 := Tryd.zeroValue117
  t212 := Tryd.underlying139
  a212 := Tryd.isAgg139
  z212 := Tryd.sizeOf139
  v212 := Tryd.zeroValue139
  t213 := Tryd.underlying140
  a213 := Tryd.isAgg140
  z213 := Tryd.sizeOf140
  t232 := Tryd.underlying144
  a232 := Tryd.isAgg144
  z232 := Tryd.sizeOf144
  v232 := Tryd.zeroValue144
  t233 := Tryd.underlying145
  a233 := Tryd.isAgg145
  z233 := Tryd.sizeOf145
  v233 := Tryd.zeroValue145
  g15 := by kernel_rfl
  g16 := by kernel_rfl
  g17 := by kernel_rfl
  g18 := by kernel_rfl
  g19 := by kernel_rfl
  t80 := Tryd.underlying103
  a80 := Tryd.isAgg103
  z80 := Tryd.sizeOf103
  v80 := Tryd.zeroValue103
  i0 := by kernel_rfl
  i2 := by kernel_rfl
  i3 := by kernel_rfl
  i4 := by kernel_rfl
  i5 := by kernel_rfl
  i9 := by kernel_rfl
  i20 := by kernel_rfl
  i37 := by kernel_rfl
  i46 := by kernel_rfl
  i51 := by kernel_rfl
  i53 := by kernel_rfl
  i75 := by kernel_rfl
  i80 := by kernel_rfl
  i127 := by kernel_rfl
  i143 := by kernel_rfl
  i145 := by kernel_rfl
  i167 := by kernel_rfl
  i168 := by kernel_rfl
  i171 := by kernel_rfl
  i173 := by kernel_rfl
  i210 := by kernel_rfl
  i212 := by kernel_rfl
  i232 := by kernel_rfl
  i233 := by kernel_rfl
  m15 := by kernel_rfl
  m16 := by kernel_rfl
  m17 := by kernel_rfl
  m18 := by kernel_rfl
  m19 := by kernel_rfl
  c0 := by kernel_rfl
  c2 := by kernel_rfl
  c3 := by kernel_rfl
  c4 := by kernel_rfl
  c5 := by kernel_rfl
  c9 := by kernel_rfl
  c20 := by kernel_rfl
  c37 := by kernel_rfl
  c46 := by kernel_rfl
  c51 := by kernel_rfl
  c53 := by kernel_rfl
  c75 := by kernel_rfl
  c80 := by kernel_rfl
  c127 := by kernel_rfl
  c143 := by kernel_rfl
  c145 := by kernel_rfl
  c167 := by kernel_rfl
  c168 := by kernel_rfl
  c171 := by kernel_rfl
  c173 := by kernel_rfl
  c210 := by kernel_rfl
  c212 := by kernel_rfl
  c213 := by kernel_rfl
  c232 := by kernel_rfl
  c233 := by kernel_rfl }
theorem Tryd.strconv_toError_syntax (fn s : ByteArray) (base bits : Int) (ev : Value) (w : World) (hlim : s.size ≤ 281474976710656) (hv : w.cell? ⟨1, 0, none⟩ = some ev) (hev : ev = .nilIface ∨ ∃ te pe, ev = .iface te pe) :
    Calls Tryd.prog 62 #[.string fn, .string s, .int .i64 base, .int .i64 bits, .iface 108 (.int .i64 2)] w fun e w' => ∃ N, e = .returned (.iface 110 (.pointer (some ⟨N, 0, none⟩))) ∧ w.heap.size ≤ N ∧ w'.heap[N]? = some (.cells #[.string fn, .string s, ev] 117 (0, 0)) ∧ Below w.heap.size w w' := Any.strconv_toError_syntax Tryd.laysC245 fn s base bits ev w hlim hv hev
def Tryd.lays146_ren : Go.Shelf.Ren := ⟨fun | 146 => 40 | 221 => 50 | 268 => 58 | 138 => 59 | 143 => 60 | 195 => 67 | 197 => 68 | 218 => 69 | 219 => 70 | 260 => 79 | 217 => 80 | 225 => 81 | 224 => 82 | 267 => 83 | 266 => 88 | 314 => 89 | n => n, fun | 9 => 9 | 31 => 36 | 3 => 3 | 4 => 4 | 0 => 0 | 105 => 105 | 21 => 21 | 5 => 5 | 46 => 94 | 119 => 122 | 139 => 125 | 138 => 124 | 146 => 127 | 51 => 126 | n => n, fun | 1 => 0 | 3 => 3 | 4 => 4 | n => n⟩
theorem Tryd.lays146 : Go.Proofs.Lays.n146 Tryd.prog Tryd.lays146_ren := {
  mixed := by kernel_rfl
  f138 := Tryd.func59.trans (congrArg some (by kernel_rfl))
  f143 := Tryd.func60.trans (congrArg some (by kernel_rfl))
  f146 := Tryd.func40.trans (congrArg some (by kernel_rfl))
  f195 := Tryd.func67.trans (congrArg some (by kernel_rfl))
  f197 := Tryd.func68.trans (congrArg some (by kernel_rfl))
  f217 := Tryd.func80.trans (congrArg some (by kernel_rfl))
  f218 := Tryd.func69.trans (congrArg some (by kernel_rfl))
  f219 := Tryd.func70.trans (congrArg some (by kernel_rfl))
  f221 := Tryd.func50.trans (congrArg some (by kernel_rfl))
  f224 := Tryd.func82.trans (congrArg some (by kernel_rfl))
  f225 := Tryd.func81.trans (congrArg some (by kernel_rfl))
  f260 := Tryd.func79.trans (congrArg some (by kernel_rfl))
  f266 := Tryd.func88.trans (congrArg some (by kernel_rfl))
  f267 := Tryd.func83.trans (congrArg some (by kernel_rfl))
  f268 := Tryd.func58.trans (congrArg some (by kernel_rfl))
  f314 := Tryd.func89.trans (congrArg some (by kernel_rfl))
  t0 := Tryd.underlying0
  a0 := Tryd.isAgg0
  z0 := Tryd.sizeOf0
  v0 := Tryd.zeroValue0
  t3 := Tryd.underlying3
  a3 := Tryd.isAgg3
  z3 := Tryd.sizeOf3
  v3 := Tryd.zeroValue3
  t4 := Tryd.underlying4
  a4 := Tryd.isAgg4
  z4 := Tryd.sizeOf4
  v4 := Tryd.zeroValue4
  t5 := Tryd.underlying5
  a5 := Tryd.isAgg5
  z5 := Tryd.sizeOf5
  v5 := Tryd.zeroValue5
  t9 := Tryd.underlying9
  a9 := Tryd.isAgg9
  z9 := Tryd.sizeOf9
  v9 := Tryd.zeroValue9
  t21 := Tryd.underlying21
  a21 := Tryd.isAgg21
  z21 := Tryd.sizeOf21
  v21 := Tryd.zeroValue21
  t31 := Tryd.underlying36
  a31 := Tryd.isAgg36
  z31 := Tryd.sizeOf36
  v31 := Tryd.zeroValue36
  t46 := Tryd.underlying94
  a46 := Tryd.isAgg94
  z46 := Tryd.sizeOf94
  v46 := Tryd.zeroValue94
  t51 := Tryd.underlying126
  a51 := Tryd.isAgg126
  z51 := Tryd.sizeOf126
  v51 := Tryd.zeroValue126
  t105 := Tryd.underlying105
  a105 := Tryd.isAgg105
  z105 := Tryd.sizeOf105
  v105 := Tryd.zeroValue105
  t119 := Tryd.underlying122
  a119 := Tryd.isAgg122
  z119 := Tryd.sizeOf122
  t138 := Tryd.underlying124
  a138 := Tryd.isAgg124
  z138 := Tryd.sizeOf124
  v138 := Tryd.zeroValue124
  t139 := Tryd.underlying125
  a139 := Tryd.isAgg125
  z139 := Tryd.sizeOf125
  v139 := Tryd.zeroValue125
  t146 := Tryd.underlying127
  a146 := Tryd.isAgg127
  z146 := Tryd.sizeOf127
  v146 := Tryd.zeroValue127
  g1 := by kernel_rfl
  g3 := by kernel_rfl
  g4 := by kernel_rfl }
theorem Tryd.strings_Split (s sep : ByteArray) (m : Int) (w : World) (hs : s.size < 4294967281) (hm : w.cell? ⟨0, 0, none⟩ = some (.int .i64 m)) (h1 : 1 ≤ sep.size) :
    Calls Tryd.prog 40 #[.string s, .string sep] w fun e w' =>
      e = .returned (.slice (some ⟨w.heap.size, 0, none⟩) (Lib.countB s sep + 1) (Lib.countB s sep + 1)) ∧ w' = w.alloc (.cells ((Lib.splitB sep 0 (Lib.countB s sep) s).map Value.string).toArray 9) := Any.strings_Split Tryd.lays146 (by kernel_rfl) s sep m w hs hm h1
end Go.Proofs

/-
  Chapter 44, plain: hexadecimal digits, marks, what is read of a mark (by the program and by the law).
  Conditions: none. By an AI agent.
-/
set_option maxRecDepth 10000
set_option linter.unusedSimpArgs false
set_option linter.unusedVariables false
namespace Go.Proofs.YtlkgfbcencoahaaDoor
open Go

/-! ### Digits -/
def hx (n : Nat) : UInt8 := if n < 10 then UInt8.ofNat (48 + n) else UInt8.ofNat (87 + n)
def hexB (l : List UInt8) : List UInt8 := l.flatMap fun c => [hx (c.toNat / 16), hx (c.toNat % 16)]
def chkB (l : List UInt8) : Nat := l.foldl (fun n c => (31 * n + c.toNat) % 65521) 17
def preB (e k : List UInt8) : List UInt8 := hexB e ++ [46] ++ hexB k ++ [46]
def marB (e k : List UInt8) : List UInt8 := preB e k ++ hexB [UInt8.ofNat (chkB (preB e k) / 256), UInt8.ofNat (chkB (preB e k))]

theorem hexB_nil : hexB [] = [] := rfl
theorem hexB_cons (c : UInt8) (l : List UInt8) : hexB (c :: l) = hx (c.toNat / 16) :: hx (c.toNat % 16) :: hexB l := rfl
theorem hexB_len : ∀ l : List UInt8, (hexB l).length = 2 * l.length
  | [] => rfl
  | c :: l => by rw [hexB_cons, List.length_cons, List.length_cons, hexB_len l, List.length_cons]; omega
theorem hexB_app : ∀ a b : List UInt8, hexB (a ++ b) = hexB a ++ hexB b := fun a b => by unfold hexB; rw [List.flatMap_append]
theorem chkB_lt' : ∀ (l : List UInt8) (n : Nat), n < 65521 → l.foldl (fun n c => (31 * n + c.toNat) % 65521) n < 65521
  | [], n, h => h
  | c :: l, n, h => chkB_lt' l _ (Nat.mod_lt _ (by decide))
theorem chkB_lt (l : List UInt8) : chkB l < 65521 := chkB_lt' l 17 (by decide)

/-- The value of a digit as the program's library reads it. -/
def lowC (c : UInt8) : Nat := c.toNat ||| 32
def pvD (c : UInt8) : Option Nat :=
  if 48 ≤ c.toNat ∧ c.toNat ≤ 57 then some (c.toNat - 48)
  else if 97 ≤ lowC c ∧ lowC c ≤ 122 then (if lowC c - 87 < 16 then some (lowC c - 87) else none)
  else none
def parD (a b : UInt8) : Nat := match pvD a, pvD b with
  | some x, some y => 16 * x + y
  | _, _ => 0
def bytR : List UInt8 → List UInt8
  | a :: b :: r => UInt8.ofNat (parD a b) :: bytR r
  | _ => []
/-- The value of a digit as the law reads it. -/
def dgL (c : UInt8) : Int := if 48 ≤ c.toNat ∧ c.toNat ≤ 57 then (c.toNat : Int) - 48 else if 97 ≤ c.toNat ∧ c.toNat ≤ 102 then (c.toNat : Int) - 97 + 10 else -1

theorem pvD_hx : ∀ n, n < 16 → pvD (hx n) = some n := by decide
theorem dgL_hx : ∀ n, n < 16 → dgL (hx n) = n := by decide
theorem hx_dot : ∀ n, n < 16 → hx n ≠ 46 := by decide
theorem pvD_lt {c : UInt8} {n : Nat} (h : pvD c = some n) : n < 16 := by
  unfold pvD at h
  split at h
  · cases h; omega
  · split at h
    · split at h
      · cases h; assumption
      · cases h
    · cases h
theorem parD_lt (a b : UInt8) : parD a b < 256 := by
  unfold parD
  split
  · rename_i x y hx hy
    have := pvD_lt hx
    have := pvD_lt hy
    omega
  · decide
theorem bytR_hexB : ∀ l : List UInt8, bytR (hexB l) = l
  | [] => rfl
  | c :: l => by
    have hc := c.toNat_lt
    rw [hexB_cons, bytR, bytR_hexB l]
    unfold parD
    rw [pvD_hx _ (by omega), pvD_hx _ (by omega)]
    congr 1
    show UInt8.ofNat (16 * (c.toNat / 16) + c.toNat % 16) = c
    rw [Nat.div_add_mod]
    simp
theorem hexB_dot : ∀ l : List UInt8, (46 : UInt8) ∉ hexB l
  | [] => by simp [hexB_nil]
  | c :: l => by
    have hc := c.toNat_lt
    rw [hexB_cons, List.mem_cons, List.mem_cons, not_or, not_or]
    exact ⟨(hx_dot _ (by omega)).symm, (hx_dot _ (by omega)).symm, hexB_dot l⟩

/-! ### Cut at dots -/
def dots : List UInt8 → List (List UInt8)
  | [] => [[]]
  | c :: r => if c = 46 then [] :: dots r else match dots r with | h :: t => (c :: h) :: t | [] => [[c]]

theorem dots_none : ∀ {a : List UInt8}, (46 : UInt8) ∉ a → dots a = [a]
  | [], _ => rfl
  | c :: r, h => by
    rw [List.mem_cons, not_or] at h
    rw [dots, if_neg (Ne.symm h.1), dots_none h.2]
theorem dots_app : ∀ {a : List UInt8} (b : List UInt8), (46 : UInt8) ∉ a → dots (a ++ 46 :: b) = a :: dots b
  | [], b, _ => by rw [List.nil_append, dots, if_pos rfl]
  | c :: r, b, h => by
    rw [List.mem_cons, not_or] at h
    rw [List.cons_append, dots, if_neg (Ne.symm h.1), dots_app b h.2]

theorem indexByte_none : ∀ {s : List UInt8} {c : UInt8}, c ∉ s → Lib.index s [c] = -1
  | s, c, h => by
    refine Lib.index_none fun j hj => ?_
    unfold Lib.occAt
    by_cases hlt : j < s.length
    · have : s[j] ≠ c := fun e => h (e ▸ List.getElem_mem hlt)
      rw [List.drop_eq_getElem_cons hlt]
      simp [List.isPrefixOf, this.symm]
    · rw [List.drop_eq_nil_of_le (by omega)]
      rfl
theorem index_dot {a : List UInt8} (b : List UInt8) {c : UInt8} (h : c ∉ a) : Lib.index (a ++ c :: b) [c] = (a.length : Nat) := by
  refine Lib.index_first (by simp) ?_ fun j hj => ?_
  · unfold Lib.occAt
    simp [List.isPrefixOf]
  · unfold Lib.occAt
    have hlt : j < (a ++ c :: b).length := by simp; omega
    rw [List.drop_eq_getElem_cons hlt, List.getElem_append_left hj]
    have : a[j] ≠ c := fun e => h (e ▸ List.getElem_mem hj)
    simp [List.isPrefixOf, this.symm]

theorem splitK_dots : ∀ (k : Nat) (s : List UInt8), s.count 46 = k → Lib.splitK [46] 0 k s = dots s
  | 0, s, h => by
    rw [Lib.splitK, dots_none (List.count_eq_zero.1 h)]
  | k + 1, s, h => by
    have hm : (46 : UInt8) ∈ s := by rw [← List.count_pos_iff]; omega
    obtain ⟨a, b, rfl, ha⟩ : ∃ a b, s = a ++ 46 :: b ∧ (46 : UInt8) ∉ a := by
      clear h
      induction s with
      | nil => cases hm
      | cons c r ih =>
        by_cases hc : c = 46
        · exact ⟨[], r, by rw [hc]; rfl, by simp⟩
        · rcases List.mem_cons.1 hm with h | h
          · exact absurd h.symm hc
          · obtain ⟨a, b, hr, ha⟩ := ih h
            exact ⟨c :: a, b, by rw [hr]; rfl, by rw [List.mem_cons, not_or]; exact ⟨Ne.symm hc, ha⟩⟩
    have hcnt : b.count 46 = k := by
      rw [List.count_append, List.count_eq_zero.2 ha, List.count_cons_self] at h
      omega
    rw [Lib.splitK, index_dot b ha, if_neg (by simp), dots_app b ha]
    congr 1
    · simp
    · rw [← splitK_dots k b hcnt]
      congr 1
      simp

/-! ### The program's reading -/
def okEK (e k : List UInt8) : Bool := decide (1 ≤ k.length) && decide (k.length ≤ 24) && decide (e.length ≤ 24) && (e.isEmpty || decide (Lib.compareBytes k e < 0))
def readR (m : List UInt8) : Option (List UInt8 × List UInt8) :=
  match dots m with
  | [a, b, _] => if okEK (bytR a) (bytR b) = true ∧ marB (bytR a) (bytR b) = m then some (bytR a, bytR b) else none
  | _ => none

theorem dots_mar (e k : List UInt8) : ∃ c, dots (marB e k) = [hexB e, hexB k, c] := by
  refine ⟨hexB [UInt8.ofNat (chkB (preB e k) / 256), UInt8.ofNat (chkB (preB e k))], ?_⟩
  unfold marB
  have ht := hexB_dot [UInt8.ofNat (chkB (preB e k) / 256), UInt8.ofNat (chkB (preB e k))]
  generalize hexB [UInt8.ofNat (chkB (preB e k) / 256), UInt8.ofNat (chkB (preB e k))] = t at ht
  unfold preB
  rw [show hexB e ++ [46] ++ hexB k ++ [46] ++ t = hexB e ++ 46 :: (hexB k ++ 46 :: t) by simp, dots_app _ (hexB_dot e), dots_app _ (hexB_dot k), dots_none ht]

theorem readR_iff (m e k : List UInt8) : readR m = some (e, k) ↔ m = marB e k ∧ okEK e k = true := by
  constructor
  · intro h
    unfold readR at h
    split at h
    · split at h
      · rename_i hc
        cases h
        exact ⟨hc.2.symm, hc.1⟩
      · cases h
    · cases h
  · rintro ⟨rfl, hok⟩
    obtain ⟨c, hc⟩ := dots_mar e k
    unfold readR
    rw [hc]
    simp only [bytR_hexB]
    rw [if_pos ⟨hok, trivial⟩]

/-! ### The law's reading -/
def hexP : List UInt8 → List UInt8 × List UInt8
  | a :: b :: r => if 0 ≤ dgL a ∧ 0 ≤ dgL b then (UInt8.ofNat (16 * dgL a + dgL b).toNat :: (hexP r).1, (hexP r).2) else ([], a :: b :: r)
  | l => ([], l)
def unmR (m : List UInt8) : Option (List UInt8 × List UInt8) :=
  match (hexP m).2 with
  | 46 :: r => match (hexP r).2 with
    | 46 :: _ => if okEK (hexP m).1 (hexP r).1 = true ∧ marB (hexP m).1 (hexP r).1 = m then some ((hexP m).1, (hexP r).1) else none
    | _ => none
  | _ => none

theorem hexP_hexB : ∀ (l r : List UInt8), hexP (hexB l ++ 46 :: r) = (l, 46 :: r)
  | [], [] => rfl
  | [], x :: r => by
    show hexP (46 :: x :: r) = _
    rw [hexP, if_neg]
    rintro ⟨h, _⟩
    exact absurd h (by decide)
  | c :: l, r => by
    have hc := c.toNat_lt
    rw [hexB_cons, List.cons_append, List.cons_append, hexP, hexP_hexB l r, dgL_hx _ (by omega), dgL_hx _ (by omega), if_pos ⟨by omega, by omega⟩]
    have : (16 * ((c.toNat / 16 : Nat) : Int) + ((c.toNat % 16 : Nat) : Int)).toNat = c.toNat := by omega
    rw [this]
    simp

theorem unmR_iff (m e k : List UInt8) : unmR m = some (e, k) ↔ m = marB e k ∧ okEK e k = true := by
  constructor
  · intro h
    unfold unmR at h
    split at h
    · split at h
      · split at h
        · rename_i hc
          cases h
          exact ⟨hc.2.symm, hc.1⟩
        · cases h
      · cases h
    · cases h
  · rintro ⟨rfl, hok⟩
    have h1 : hexP (marB e k) = (e, 46 :: (hexB k ++ 46 :: hexB [UInt8.ofNat (chkB (preB e k) / 256), UInt8.ofNat (chkB (preB e k))])) := by
      rw [← hexP_hexB]
      congr 1
      unfold marB
      generalize hexB [UInt8.ofNat (chkB (preB e k) / 256), UInt8.ofNat (chkB (preB e k))] = t
      unfold preB
      simp
    unfold unmR
    rw [h1]
    simp only [hexP_hexB]
    rw [if_pos ⟨hok, trivial⟩]

theorem unmR_eq (m : List UInt8) : unmR m = readR m := by
  cases h : readR m with
  | some x =>
    obtain ⟨e, k⟩ := x
    exact (unmR_iff m e k).2 ((readR_iff m e k).1 h)
  | none =>
    cases h2 : unmR m with
    | none => rfl
    | some x =>
      obtain ⟨e, k⟩ := x
      rw [(readR_iff m e k).2 ((unmR_iff m e k).1 h2)] at h
      cases h

end Go.Proofs.YtlkgfbcencoahaaDoor

/-
  Chapter 44: a builder beside another row, which stays; pages.hexed, walked.
  Conditions: none. By an AI agent.
-/
set_option linter.unusedSimpArgs false
set_option linter.unusedVariables false
namespace Go.Proofs.YtlkgfbcencoahaaDoor
open Go Go.RowKit Go.Lib Go.Shelf
set_option linter.unusedVariables false
set_option linter.unusedSimpArgs false

/-- The builder in block b holds these bytes; block k is another one. -/
def BX (B b k : Nat) (o : Obj) (bs : List Value) (w : World) : Prop :=
  B ≤ b ∧ b ≠ k ∧ ∃ p v, w.heap[b]? = some (.cells #[p, v] 101 (0, 0)) ∧ (p = .pointer none ∨ p = .pointer (some ⟨b, 0, none⟩)) ∧ w.ownsRow B 5 1 v bs.length bs ∧ v.ownBlock ≠ some b ∧ v.ownBlock ≠ some k ∧ w.heap[k]? = some o

theorem lt_of_at {w : World} {b : Nat} {o : Obj} (h : w.heap[b]? = some o) : b < w.heap.size := by
  rcases Nat.lt_or_ge b w.heap.size with h' | h'
  · exact h'
  · simp [Array.getElem?_eq_none h'] at h
theorem setCell_other {w : World} {a : Addr} {v : Value} {k : Nat} (h : k ≠ a.block) : (w.setCell a v).heap[k]? = w.heap[k]? := by
  simp only [World.setCell, Array.getElem?_modify]
  rw [if_neg (fun e => h e.symm)]

/-- A row that is frozen behind its last cell is nobody's own. -/
def FrozenTail (o : Obj) : Prop := ∃ cs m, o = .cells cs 5 (m, m + 1)
theorem own_ne {o : Obj} (ho : FrozenTail o) {w : World} {B n k : Nat} {v : Value} {xs : List Value} (hown : w.ownsRow B 5 1 v n xs) (hk : w.heap[k]? = some o) : v.ownBlock ≠ some k := by
  obtain ⟨cs, m, rfl⟩ := ho
  rcases hown.2 with ⟨hv, _⟩ | ⟨g, cap, cur, hv, hg⟩
  · subst hv; simp [Value.ownBlock]
  · intro e
    subst hv
    have e : g = k := by simpa [Value.ownBlock] using e
    subst e
    have hg := hg.2.1
    rw [hk] at hg
    simp at hg

theorem copyCheck_x (B b k : Nat) (o : Obj) (bs : List Value) (w : World) (h : BX B b k o bs w) :
    Calls Tryd.prog 77 #[.pointer (some ⟨b, 0, none⟩)] w fun e w' => e = .returned (.tuple #[]) ∧ Below B w w' ∧ (∃ v, w'.heap[b]? = some (.cells #[.pointer (some ⟨b, 0, none⟩), v] 101 (0, 0)) ∧ w'.ownsRow B 5 1 v bs.length bs ∧ v.ownBlock ≠ some b ∧ v.ownBlock ≠ some k ∧ w'.heap[k]? = some o) := by
  obtain ⟨hB, hbk, p, v, hb, hp, ho, h1, h2, hk⟩ := h
  rcases hp with rfl | rfl
  · have hat : BuilderAt 101 5 B b (.pointer none) bs w := ⟨hB, v, hb, ho, h1⟩
    refine (Any.Builder_copyCheck_fresh { Tryd.lays167 with } Tryd.Builder_Extra_167.toX72 b w hat.cell0 hat.shape hat.frozen0).mono ?_
    rintro e w' ⟨rfl, rfl⟩
    refine ⟨rfl, (Below.refl B w).setCell (p := ⟨b, 0, none⟩) hB _, ?_⟩
    have hu := hat.used (.pointer (some ⟨b, 0, none⟩))
    obtain ⟨_, v', hb', ho', h1'⟩ := hu
    have hv : v' = v := by
      have e1 : (w.setCell ⟨b, 0, none⟩ (.pointer (some ⟨b, 0, none⟩))).cell? ⟨b, 1, none⟩ = w.cell? ⟨b, 1, none⟩ := by
        have := hb
        simp [World.cell?, World.setCell, hb, Array.getElem?_modify]
      have e2 : w.cell? ⟨b, 1, none⟩ = some v := by simp [World.cell?, hb]
      have e3 : (w.setCell ⟨b, 0, none⟩ (.pointer (some ⟨b, 0, none⟩))).cell? ⟨b, 1, none⟩ = some v' := by unfold World.cell?; rw [hb']; rfl
      rw [e1, e2] at e3
      exact (Option.some.inj e3).symm
    subst hv
    exact ⟨v', hb', ho', h1', h2, by rw [setCell_other (Ne.symm hbk)]; exact hk⟩
  · have hat : BuilderAt 101 5 B b (.pointer (some ⟨b, 0, none⟩)) bs w := ⟨hB, v, hb, ho, h1⟩
    refine (Any.Builder_copyCheck_used { Tryd.lays167 with } Tryd.Builder_Extra_167.toX72 b w hat.cell0).mono ?_
    rintro e w' ⟨rfl, rfl⟩
    exact ⟨rfl, Below.refl B _, v, hb, ho, h1, h2, hk⟩

set_option maxHeartbeats 2000000 in
set_option maxRecDepth 100000 in
theorem WriteByte_x (B b k : Nat) (o : Obj) (ho : FrozenTail o) (bs : List Value) (c : Int) (w : World) (h : BX B b k o bs w) (hlen : bs.length + 1 ≤ 140737488355328) (hBw : B ≤ w.heap.size) :
    Calls Tryd.prog 63 #[.pointer (some ⟨b, 0, none⟩), .int .u8 c] w fun e w' => e = .returned .nilIface ∧ BX B b k o (bs ++ [.int .u8 c]) w' ∧ Below B w w' := by
  have L := Tryd.lays167
  have X := Tryd.Builder_Extra_167
  obtain ⟨i0, hi, hz0, hz1, hz2⟩ := info_parts X.infoByte
  have hbk := h.2.1
  have hB := h.1
  go_enter Tryd.func63, Tryd.ntmps63
  go_wp2_with (go_at_call 77; refine (copyCheck_x B b k o bs _ h).mono ?_)
  rintro e w1 ⟨rfl, hb1, v, hbb, hown, hne, hnk, hk⟩
  have c0 : w1.cell? ⟨b, 0, none⟩ = some (.pointer (some ⟨b, 0, none⟩)) := by rw [Lib.cell_of_heap hbb]; rfl
  have c1 : w1.cell? ⟨b, 1, none⟩ = some v := by rw [Lib.cell_of_heap hbb]; rfl
  go_wp2_with (at_builtin; refine wpList_append_own _ rfl _ _ 34 rfl B 5 i0 (.int .u8 0) 1 1 Tryd.underlying34 hi hz0 hz1 hz2 rfl (by decide) _ _ _ rfl (hown.alloc _) ⟨w1.heap.size, 0, none⟩ 1 1 [.int .u8 c] rfl rfl ?c1 ?c2 ?c3 ?c4 ?c5 ?_)
  case c1 =>
    intro j u hj
    match j, hj with
    | 0, hj => simp at hj; subst hj; simp [Addr.add]
  case c2 => intro u hu; simp at hu; subst hu; rfl
  case c3 => unfold maxLen; omega
  case c4 => omega
  case c5 => have := hb1.size; simp; omega
  intro v' w2 hown' hgrow _
  have hlt := lt_of_at hbb
  have hltk := lt_of_at hk
  have hb2 : w2.heap[b]? = some (.cells #[.pointer (some ⟨b, 0, none⟩), v] 101 (0, 0)) := by
    rw [hgrow.block b (by simp; omega) (fun e => hne e.symm), Lib.alloc_old w1 _ b hlt]
    exact hbb
  have hk2 : w2.heap[k]? = some o := by
    rw [hgrow.block k (by simp; omega) (fun e => hnk e.symm), Lib.alloc_old w1 _ k hltk]
    exact hk
  have d0 : w2.cell? ⟨b, 0, none⟩ = some (.pointer (some ⟨b, 0, none⟩)) := by rw [Lib.cell_of_heap hb2]; rfl
  have d1 : w2.cell? ⟨b, 1, none⟩ = some v := by rw [Lib.cell_of_heap hb2]; rfl
  have f1 : w2.frozen? ⟨b, 1, none⟩ = false := Lib.frozen_of_heap hb2 1
  obtain ⟨g, cap, rfl⟩ : ∃ g cap, v' = .slice (some ⟨g, 0, none⟩) (bs.length + 1) cap := by
    rcases hown'.2 with ⟨_, h0⟩ | ⟨g, cap, cur, hv, _⟩
    · omega
    · exact ⟨g, cap, hv⟩
  go_wp2
  go_ret
  have hat := Lib.BuilderAt.put (T := 101) (e := 5) hB hb2 (bs' := bs ++ [.int .u8 c]) (by simpa using hown') (by decide)
  have hk3 : (w2.setCell ⟨b, 1, none⟩ (.slice (some ⟨g, 0, none⟩) (bs.length + 1) cap)).heap[k]? = some o := by rw [setCell_other (Ne.symm hbk)]; exact hk2
  refine ⟨rfl, ?_, ?_⟩
  · obtain ⟨_, v3, g1, g2, g3⟩ := hat
    exact ⟨hB, hbk, _, v3, g1, .inr rfl, g2, g3, own_ne ho g2 hk3, hk3⟩
  · exact ((hb1.alloc (by have := hb1.size; omega) _).grown hgrow (by have := hb1.size; simp; omega) (fun k hk => (hown.lt k hk).1)).setCell (p := ⟨b, 1, none⟩) hB _

set_option maxHeartbeats 2000000 in
set_option maxRecDepth 100000 in
/-- pages.hexed. -/
theorem hexed_walk (s : ByteArray) (w : World) (hs : s.size ≤ 1000000) :
    Calls Tryd.prog 52 #[.string s] w fun e w' => e = .returned (.string ⟨(hexB s.data.toList).toArray⟩) ∧ Below w.heap.size w w' := by
  obtain ⟨W0, hW0⟩ : ∃ W0, w.alloc (.cells #[.pointer none, .slice none 0 0] 101) = W0 := ⟨_, rfl⟩
  have h0 : Lib.IsBuilder 101 5 w.heap.size w.heap.size [] W0 := by rw [← hW0]; exact Lib.fresh_isBuilder 101 5 w
  have n0 : W0.heap.size = w.heap.size + 1 := by rw [← hW0, World.size_alloc]
  have b0 : Below w.heap.size w W0 := by rw [← hW0]; exact (Below.refl _ w).alloc (Nat.le_refl _) _
  have hcv := Lib.run_convert_string_bytes (P := Tryd.prog) W0 9 34 5 s (u := .string) Tryd.underlying9 Tryd.underlying34 Tryd.underlying5
  obtain ⟨W1, hW1⟩ : ∃ W1, Lib.bytesWorld W0 5 s = W1 := ⟨_, rfl⟩
  obtain ⟨o, ho⟩ : ∃ o, Obj.cells (Lib.bytesCells W0 5 s) 5 ((Lib.bytesCells W0 5 s).size, (Lib.bytesCells W0 5 s).size + 1) = o := ⟨_, rfl⟩
  have hfo : FrozenTail o := ⟨_, _, ho.symm⟩
  have hk1 : W1.heap[w.heap.size + 1]? = some o := by rw [← hW1, ← ho, ← n0]; exact Lib.bytesWorld_at_new W0 5 s
  have hcell : ∀ (W : World), W.heap[w.heap.size + 1]? = some o → ∀ j, j < s.size → W.cell? ⟨w.heap.size + 1, j, none⟩ = some (.int .u8 (s.data.toList.getD j 0).toNat) := fun W hW j hj => by
    have := Lib.bytesWorld_cell W0 5 s j hj
    rw [hW1, n0] at this
    rw [← this]
    unfold World.cell?
    simp only
    rw [hW, hk1]
  have hB1 : BX w.heap.size w.heap.size (w.heap.size + 1) o (Lib.byteCells (hexB (s.data.toList.take 0))) W1 := by
    refine ⟨Nat.le_refl _, by omega, .pointer none, .slice none 0 0, ?_, .inl rfl, World.ownsRow_nil _ _ _ _, by simp [Value.ownBlock], by simp [Value.ownBlock], hk1⟩
    rw [← hW1, Lib.bytesWorld_at_old W0 5 s _ (by omega), ← hW0]
    exact heap_alloc_new w _
  have bw1 : Below w.heap.size w W1 := by
    rw [← hW1]
    refine b0.trans ?_
    have hw : w.heap.size ≤ W0.heap.size := by omega
    have hfr : Below W0.heap.size W0 (Lib.bytesWorld W0 5 s) := Lib.bytesWorld_below W0 5 s
    exact ⟨hfr.os, hfr.tape, hfr.output, hfr.size, fun k hk => hfr.block k (by omega)⟩
  rw [hW1] at hcv
  rw [n0] at hcv
  clear hW1 ho
  have HB := Lib.hid hB1
  have HW := Lib.hid bw1
  clear hB1 bw1 h0 b0
  go_enter Tryd.func52, Tryd.ntmps52
  go_wp2
  go_loopw [9] (fun i wr => ∃ k : Nat, k ≤ s.size ∧ i = .int .i64 k ∧ Hid (BX w.heap.size w.heap.size (w.heap.size + 1) o (Lib.byteCells (hexB (s.data.toList.take k))) wr) ∧ Hid (Below w.heap.size w wr)) (fun i _ => s.size - (RowKit.intOf i).toNat)
  case atStart => exact ⟨0, Nat.zero_le _, rfl, HB, HW⟩
  case round =>
    obtain ⟨k, hk, rfl, HB, HW⟩ := hrel
    by_cases hlt : k < s.size
    · have hc := hcell _ (by have := HB.out; obtain ⟨_, _, _, _, _, _, _, _, _, h⟩ := this; exact h) k hlt
      have hlk : k < s.data.toList.length := by rw [← Lib.size_eq]; exact hlt
      have hget : s.data.toList.getD k 0 = s.data.toList[k] := by simp [List.getD, List.getElem?_eq_getElem hlk]
      rw [hget] at hc
      have htake : hexB (s.data.toList.take (k + 1)) = hexB (s.data.toList.take k) ++ [hx (s.data.toList[k].toNat / 16), hx (s.data.toList[k].toNat % 16)] := by
        rw [List.take_add_one, List.getElem?_eq_getElem hlk, hexB_app]; rfl
      generalize s.data.toList[k] = c at hc htake
      have hc256 : c.toNat < 256 := c.toNat_lt
      have hlen : (Lib.byteCells (hexB (s.data.toList.take k))).length = 2 * k := by rw [Lib.byteCells_length, hexB_len, List.length_take]; omega
      have hidx : ∀ n : Fin 16, ((⟨#[48, 49, 50, 51, 52, 53, 54, 55, 56, 57, 97, 98, 99, 100, 101, 102]⟩ : ByteArray)[n.val]'n.isLt) = hx n.val := by decide
      have HT := Lib.hid htake
      clear htake hget hcell
      have hBs := HW.out.size
      go_wp2_with (go_at_call 63; refine (WriteByte_x w.heap.size w.heap.size (w.heap.size + 1) o hfo _ _ _ HB.out (by rw [hlen]; omega) hBs).mono ?_)
      rintro e w2 ⟨rfl, hx2, hb2⟩
      have HB2 := Lib.hid hx2
      have HW2 := Lib.hid (HW.out.trans hb2)
      clear hx2 hb2
      go_wp2_with (go_at_call 63; refine (WriteByte_x w.heap.size w.heap.size (w.heap.size + 1) o hfo _ _ _ HB2.out (by rw [List.length_append, hlen]; simp; omega) HW2.out.size).mono ?_)
      rintro e w3 ⟨rfl, hx3, hb3⟩
      have HB3 := Lib.hid hx3
      have HW3 := Lib.hid (HW2.out.trans hb3)
      clear hx3 hb3
      go_wp2
      refine ⟨⟨k + 1, by omega, by go_num, Lib.hid ?_, HW3⟩, by simp [RowKit.intOf]; omega⟩
      have h3 := HB3.out
      have e1 := hidx ⟨c.toNat / 16, by omega⟩
      have e2 := hidx ⟨c.toNat % 16, by omega⟩
      simp only at e1 e2
      rw [e1, e2] at h3
      rw [HT.out, Lib.byteCells_append]
      simpa [Lib.byteCells, List.append_assoc] using h3
    · have hke : k = s.size := by omega
      subst hke
      have hall : s.data.toList.take s.size = s.data.toList := by rw [Lib.size_eq, List.take_length]
      rw [hall] at HB
      have hIs : Lib.IsBuilder 101 5 w.heap.size w.heap.size (Lib.byteCells (hexB s.data.toList)) wr := by
        obtain ⟨g1, _, p, v, g2, g3, g4, g5, _⟩ := HB.out
        rcases g3 with rfl | rfl
        · exact .inl ⟨g1, v, g2, g4, g5⟩
        · exact .inr ⟨g1, v, g2, g4, g5⟩
      have HI := Lib.hid hIs
      clear hIs
      go_wp2_with (go_at_call 64; refine (Tryd.Builder_String_any w.heap.size w.heap.size _ _ HI.out HW.out.size).mono ?_)
      rintro e w2 ⟨rfl, hb2⟩
      go_wp2
      go_ret
      exact ⟨rfl, HW.out.trans hb2⟩

end Go.Proofs.YtlkgfbcencoahaaDoor
