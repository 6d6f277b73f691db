/-
  5 texts in one (merge.py): Ds Eng33 A B C.
  Conditions: none. By an AI agent.
-/
import Derived.Test.YtlmhioanjmhaiaaDoorQb1
import Derived.HandedShaped
import Derived.Shelf.Vars
import Derived.Lay
import Derived.PinnedBridge

/-
  The equations of the seat's functions over calls in the limit (a program of ours printed it).
  Conditions: none. By an AI agent.
-/
set_option linter.unusedVariables false
namespace Go.Proofs.YtlmhioanjmhaiaaDoor
open Go Eng

theorem u_int : Tryd.prog.underlying T.int = Tryd.prog.underlying 3 := rfl
theorem u_bool : Tryd.prog.underlying T.bool = Tryd.prog.underlying 4 := rfl
theorem u_uint8 : Tryd.prog.underlying T.uint8 = Tryd.prog.underlying 5 := rfl
theorem u_string : Tryd.prog.underlying T.string = Tryd.prog.underlying 9 := rfl
theorem u_int32 : Tryd.prog.underlying T.int32 = Tryd.prog.underlying 21 := rfl
theorem u_sl_api_CellKind : Tryd.prog.underlying T.sl_api_CellKind = Tryd.prog.underlying 22 := rfl
theorem u_api_Table : Tryd.prog.underlying T.api_Table = Tryd.prog.underlying 24 := rfl
theorem u_sl_uint8 : Tryd.prog.underlying T.sl_uint8 = Tryd.prog.underlying 31 := rfl
theorem u_api_Errno : Tryd.prog.underlying T.api_Errno = Tryd.prog.underlying 37 := rfl
theorem u_api_CellKind : Tryd.prog.underlying T.api_CellKind = Tryd.prog.underlying 41 := rfl
theorem u_uint64 : Tryd.prog.underlying T.uint64 = Tryd.prog.underlying 42 := rfl
theorem u_api_Cell : Tryd.prog.underlying T.api_Cell = Tryd.prog.underlying 44 := rfl
theorem u_p_strings_Builder : Tryd.prog.underlying T.p_strings_Builder = Tryd.prog.underlying 91 := rfl
theorem u_strings_Builder : Tryd.prog.underlying T.strings_Builder = Tryd.prog.underlying 93 := rfl
theorem u_uint32 : Tryd.prog.underlying T.uint32 = Tryd.prog.underlying 102 := rfl
theorem u_p_uint8 : Tryd.prog.underlying T.p_uint8 = Tryd.prog.underlying 106 := rfl
theorem u_unsafe_Pointer : Tryd.prog.underlying T.unsafe_Pointer = Tryd.prog.underlying 107 := rfl
theorem u_unicode_utf8_acceptRange : Tryd.prog.underlying T.unicode_utf8_acceptRange = Tryd.prog.underlying 112 := rfl
@[go_sem] theorem x_int_uint8 {n : Int} {H : AHeap} : xconv Tryd.prog T.int T.uint8 (.int .i64 n) H = some (.int .u8 (IntKind.wrap .u8 n), H) := xconv_int (P := Tryd.prog) (s := 3) (t := 5) Tryd.underlying3 Tryd.underlying5
@[go_sem] theorem x_int_uint64 {n : Int} {H : AHeap} : xconv Tryd.prog T.int T.uint64 (.int .i64 n) H = some (.int .u64 (IntKind.wrap .u64 n), H) := xconv_int (P := Tryd.prog) (s := 3) (t := 42) Tryd.underlying3 Tryd.underlying42
@[go_sem] theorem x_uint8_int {n : Int} {H : AHeap} : xconv Tryd.prog T.uint8 T.int (.int .u8 n) H = some (.int .i64 (IntKind.wrap .i64 n), H) := xconv_int (P := Tryd.prog) (s := 5) (t := 3) Tryd.underlying5 Tryd.underlying3
@[go_sem] theorem x_uint8_int32 {n : Int} {H : AHeap} : xconv Tryd.prog T.uint8 T.int32 (.int .u8 n) H = some (.int .i32 (IntKind.wrap .i32 n), H) := xconv_int (P := Tryd.prog) (s := 5) (t := 21) Tryd.underlying5 Tryd.underlying21
@[go_sem] theorem x_uint8_uint64 {n : Int} {H : AHeap} : xconv Tryd.prog T.uint8 T.uint64 (.int .u8 n) H = some (.int .u64 (IntKind.wrap .u64 n), H) := xconv_int (P := Tryd.prog) (s := 5) (t := 42) Tryd.underlying5 Tryd.underlying42
@[go_sem] theorem x_uint8_uint32 {n : Int} {H : AHeap} : xconv Tryd.prog T.uint8 T.uint32 (.int .u8 n) H = some (.int .u32 (IntKind.wrap .u32 n), H) := xconv_int (P := Tryd.prog) (s := 5) (t := 102) Tryd.underlying5 Tryd.underlying102
@[go_sem] theorem x_uint64_int {n : Int} {H : AHeap} : xconv Tryd.prog T.uint64 T.int (.int .u64 n) H = some (.int .i64 (IntKind.wrap .i64 n), H) := xconv_int (P := Tryd.prog) (s := 42) (t := 3) Tryd.underlying42 Tryd.underlying3
@[go_sem] theorem x_uint64_uint8 {n : Int} {H : AHeap} : xconv Tryd.prog T.uint64 T.uint8 (.int .u64 n) H = some (.int .u8 (IntKind.wrap .u8 n), H) := xconv_int (P := Tryd.prog) (s := 42) (t := 5) Tryd.underlying42 Tryd.underlying5
theorem c_rows_Valid_1 {call : CallF} {x c : Array Value} {args : List Value} {H : AHeap} {k : Value → AHeap → Res} : callK Tryd.prog call (.func (.func F.rows_Valid_1) x c) args H k = enterK call F.rows_Valid_1 (x.toList ++ args ++ c.toList) H k := by kernel_rfl

noncomputable def l_law_small_0 (v1 : Value) (v2 : Value) (v5 : Value) (H : AHeap) (k : K) : Res := loopL stdL Tryd.prog hints CC limLP F.law_small 0 [(1, v1), (2, v2), (5, v5)] H k
theorem r_law_small_0 (v1 : Value) (v2 : Value) (v5 : Value) (H : AHeap) (k : K) : l_law_small_0 v1 v2 v5 H k = s_law_small_b0 guardK condL shareL Tryd.prog CC l_law_small_0 v1 v2 v5 H (seqK (fun T H => l_law_small_0 (get T 1) (get T 2) (get T 5) H k) k) := ((loopL_next (by kernel_rfl) rfl H k).trans (s_law_small_b0_eq stdL CC limLP v1 v2 v5 H _)).trans (by kernel_rfl)
theorem d_law_small (a0 : Value) (a1 : Value) (H : AHeap) {r : Value × AHeap} (h : s_law_small guardK condL shareL Tryd.prog CC l_law_small_0 a0 a1 H (endK Tryd.prog [.tmp 4]) = some r) : CC F.law_small [a0, a1] H = some (tidy H r) := D_body (by kernel_rfl) ((s_law_small_eq stdL CC limLP a0 a1 H).trans (Eq.trans (show s_law_small stdL.b.g stdL.c stdL.s Tryd.prog CC (fun v1 v2 v5 H k => loopL stdL Tryd.prog hints CC limLP F.law_small 0 [(1, v1), (2, v2), (5, v5)] H k) a0 a1 H (endK Tryd.prog [.tmp 4]) = s_law_small guardK condL shareL Tryd.prog CC l_law_small_0 a0 a1 H (endK Tryd.prog [.tmp 4]) by kernel_rfl) h))

noncomputable def l_law_valid_0 (v1 : Value) (v3 : Value) (H : AHeap) (k : K) : Res := loopL stdL Tryd.prog hints CC limLP F.law_valid 0 [(1, v1), (3, v3)] H k
theorem r_law_valid_0 (v1 : Value) (v3 : Value) (H : AHeap) (k : K) : l_law_valid_0 v1 v3 H k = s_law_valid_b0 guardK condL shareL Tryd.prog CC l_law_valid_0 v1 v3 H (seqK (fun T H => l_law_valid_0 (get T 1) (get T 3) H k) k) := ((loopL_next (by kernel_rfl) rfl H k).trans (s_law_valid_b0_eq stdL CC limLP v1 v3 H _)).trans (by kernel_rfl)
theorem d_law_valid (a0 : Value) (H : AHeap) {r : Value × AHeap} (h : s_law_valid guardK condL shareL Tryd.prog CC l_law_valid_0 a0 H (endK Tryd.prog [.tmp 2]) = some r) : CC F.law_valid [a0] H = some (tidy H r) := D_body (by kernel_rfl) ((s_law_valid_eq stdL CC limLP a0 H).trans (Eq.trans (show s_law_valid stdL.b.g stdL.c stdL.s Tryd.prog CC (fun v1 v3 H k => loopL stdL Tryd.prog hints CC limLP F.law_valid 0 [(1, v1), (3, v3)] H k) a0 H (endK Tryd.prog [.tmp 2]) = s_law_valid guardK condL shareL Tryd.prog CC l_law_valid_0 a0 H (endK Tryd.prog [.tmp 2]) by kernel_rfl) h))

theorem d_law_read (a0 : Value) (a1 : Value) (a2 : Value) (a3 : Value) (a4 : Value) (H : AHeap) {r : Value × AHeap} (h : s_law_read guardK condL shareL Tryd.prog CC a0 a1 a2 a3 a4 H (endK Tryd.prog [.tmp 10]) = some r) : CC F.law_read [a0, a1, a2, a3, a4] H = some (tidy H r) := D_body (by kernel_rfl) ((s_law_read_eq stdL CC limLP a0 a1 a2 a3 a4 H).trans (Eq.trans (show s_law_read stdL.b.g stdL.c stdL.s Tryd.prog CC a0 a1 a2 a3 a4 H (endK Tryd.prog [.tmp 10]) = s_law_read guardK condL shareL Tryd.prog CC a0 a1 a2 a3 a4 H (endK Tryd.prog [.tmp 10]) by kernel_rfl) h))

noncomputable def l_law_first_0 (v1 : Value) (v2 : Value) (v5 : Value) (H : AHeap) (k : K) : Res := loopL stdL Tryd.prog hints CC limLP F.law_first 0 [(1, v1), (2, v2), (5, v5)] H k
theorem r_law_first_0 (v1 : Value) (v2 : Value) (v5 : Value) (H : AHeap) (k : K) : l_law_first_0 v1 v2 v5 H k = s_law_first_b0 guardK condL shareL Tryd.prog CC l_law_first_0 v1 v2 v5 H (seqK (fun T H => l_law_first_0 (get T 1) (get T 2) (get T 5) H k) k) := ((loopL_next (by kernel_rfl) rfl H k).trans (s_law_first_b0_eq stdL CC limLP v1 v2 v5 H _)).trans (by kernel_rfl)
theorem d_law_first (a0 : Value) (a1 : Value) (H : AHeap) {r : Value × AHeap} (h : s_law_first guardK condL shareL Tryd.prog CC l_law_first_0 a0 a1 H (endK Tryd.prog [.tmp 4]) = some r) : CC F.law_first [a0, a1] H = some (tidy H r) := D_body (by kernel_rfl) ((s_law_first_eq stdL CC limLP a0 a1 H).trans (Eq.trans (show s_law_first stdL.b.g stdL.c stdL.s Tryd.prog CC (fun v1 v2 v5 H k => loopL stdL Tryd.prog hints CC limLP F.law_first 0 [(1, v1), (2, v2), (5, v5)] H k) a0 a1 H (endK Tryd.prog [.tmp 4]) = s_law_first guardK condL shareL Tryd.prog CC l_law_first_0 a0 a1 H (endK Tryd.prog [.tmp 4]) by kernel_rfl) h))

noncomputable def l_law_joined_0 (v0 : Value) (v1 : Value) (v5 : Value) (H : AHeap) (k : K) : Res := loopL stdL Tryd.prog hints CC limLP F.law_joined 0 [(0, v0), (1, v1), (5, v5)] H k
theorem r_law_joined_0 (v0 : Value) (v1 : Value) (v5 : Value) (H : AHeap) (k : K) : l_law_joined_0 v0 v1 v5 H k = s_law_joined_b0 guardK condL shareL Tryd.prog CC l_law_joined_0 v0 v1 v5 H (seqK (fun T H => l_law_joined_0 (get T 0) (get T 1) (get T 5) H k) k) := ((loopL_next (by kernel_rfl) rfl H k).trans (s_law_joined_b0_eq stdL CC limLP v0 v1 v5 H _)).trans (by kernel_rfl)
theorem d_law_joined (a0 : Value) (a1 : Value) (H : AHeap) {r : Value × AHeap} (h : s_law_joined guardK condL shareL Tryd.prog CC l_law_joined_0 a0 a1 H (endK Tryd.prog [.tmp 4]) = some r) : CC F.law_joined [a0, a1] H = some (tidy H r) := D_body (by kernel_rfl) ((s_law_joined_eq stdL CC limLP a0 a1 H).trans (Eq.trans (show s_law_joined stdL.b.g stdL.c stdL.s Tryd.prog CC (fun v0 v1 v5 H k => loopL stdL Tryd.prog hints CC limLP F.law_joined 0 [(0, v0), (1, v1), (5, v5)] H k) a0 a1 H (endK Tryd.prog [.tmp 4]) = s_law_joined guardK condL shareL Tryd.prog CC l_law_joined_0 a0 a1 H (endK Tryd.prog [.tmp 4]) by kernel_rfl) h))

noncomputable def l_law_found_0 (v1 : Value) (v2 : Value) (v3 : Value) (v8 : Value) (v9 : Value) (H : AHeap) (k : K) : Res := loopL stdL Tryd.prog hints CC limLP F.law_found 0 [(1, v1), (2, v2), (3, v3), (8, v8), (9, v9)] H k
theorem r_law_found_0 (v1 : Value) (v2 : Value) (v3 : Value) (v8 : Value) (v9 : Value) (H : AHeap) (k : K) : l_law_found_0 v1 v2 v3 v8 v9 H k = s_law_found_b0 guardK condL shareL Tryd.prog CC l_law_found_0 v1 v2 v3 v8 v9 H (seqK (fun T H => l_law_found_0 (get T 1) (get T 2) (get T 3) (get T 8) (get T 9) H k) k) := ((loopL_next (by kernel_rfl) rfl H k).trans (s_law_found_b0_eq stdL CC limLP v1 v2 v3 v8 v9 H _)).trans (by kernel_rfl)
theorem d_law_found (a0 : Value) (a1 : Value) (a2 : Value) (H : AHeap) {r : Value × AHeap} (h : s_law_found guardK condL shareL Tryd.prog CC l_law_found_0 a0 a1 a2 H (endK Tryd.prog [.tmp 6, .tmp 7]) = some r) : CC F.law_found [a0, a1, a2] H = some (tidy H r) := D_body (by kernel_rfl) ((s_law_found_eq stdL CC limLP a0 a1 a2 H).trans (Eq.trans (show s_law_found stdL.b.g stdL.c stdL.s Tryd.prog CC (fun v1 v2 v3 v8 v9 H k => loopL stdL Tryd.prog hints CC limLP F.law_found 0 [(1, v1), (2, v2), (3, v3), (8, v8), (9, v9)] H k) a0 a1 a2 H (endK Tryd.prog [.tmp 6, .tmp 7]) = s_law_found guardK condL shareL Tryd.prog CC l_law_found_0 a0 a1 a2 H (endK Tryd.prog [.tmp 6, .tmp 7]) by kernel_rfl) h))

theorem d_law_spans (a0 : Value) (a1 : Value) (a2 : Value) (a3 : Value) (a4 : Value) (H : AHeap) {r : Value × AHeap} (h : s_law_spans guardK condL shareL Tryd.prog CC a0 a1 a2 a3 a4 H (endK Tryd.prog [.tmp 10]) = some r) : CC F.law_spans [a0, a1, a2, a3, a4] H = some (tidy H r) := D_body (by kernel_rfl) ((s_law_spans_eq stdL CC limLP a0 a1 a2 a3 a4 H).trans (Eq.trans (show s_law_spans stdL.b.g stdL.c stdL.s Tryd.prog CC a0 a1 a2 a3 a4 H (endK Tryd.prog [.tmp 10]) = s_law_spans guardK condL shareL Tryd.prog CC a0 a1 a2 a3 a4 H (endK Tryd.prog [.tmp 10]) by kernel_rfl) h))

noncomputable def l_law_behind_0 (v0 : Value) (v3 : Value) (H : AHeap) (k : K) : Res := loopL stdL Tryd.prog hints CC limLP F.law_behind 0 [(0, v0), (3, v3)] H k
theorem r_law_behind_0 (v0 : Value) (v3 : Value) (H : AHeap) (k : K) : l_law_behind_0 v0 v3 H k = s_law_behind_b0 guardK condL shareL Tryd.prog CC l_law_behind_0 v0 v3 H (seqK (fun T H => l_law_behind_0 (get T 0) (get T 3) H k) k) := ((loopL_next (by kernel_rfl) rfl H k).trans (s_law_behind_b0_eq stdL CC limLP v0 v3 H _)).trans (by kernel_rfl)
theorem d_law_behind (a0 : Value) (H : AHeap) {r : Value × AHeap} (h : s_law_behind guardK condL shareL Tryd.prog CC l_law_behind_0 a0 H (endK Tryd.prog [.tmp 2]) = some r) : CC F.law_behind [a0] H = some (tidy H r) := D_body (by kernel_rfl) ((s_law_behind_eq stdL CC limLP a0 H).trans (Eq.trans (show s_law_behind stdL.b.g stdL.c stdL.s Tryd.prog CC (fun v0 v3 H k => loopL stdL Tryd.prog hints CC limLP F.law_behind 0 [(0, v0), (3, v3)] H k) a0 H (endK Tryd.prog [.tmp 2]) = s_law_behind guardK condL shareL Tryd.prog CC l_law_behind_0 a0 H (endK Tryd.prog [.tmp 2]) by kernel_rfl) h))

theorem d_rows_Row (a0 : Value) (a1 : Value) (H : AHeap) {r : Value × AHeap} (h : s_rows_Row guardK condL shareL Tryd.prog CC a0 a1 H (endK Tryd.prog [.tmp 4, .tmp 5, .tmp 6]) = some r) : CC F.rows_Row [a0, a1] H = some (tidy H r) := D_body (by kernel_rfl) ((s_rows_Row_eq stdL CC limLP a0 a1 H).trans (Eq.trans (show s_rows_Row stdL.b.g stdL.c stdL.s Tryd.prog CC a0 a1 H (endK Tryd.prog [.tmp 4, .tmp 5, .tmp 6]) = s_rows_Row guardK condL shareL Tryd.prog CC a0 a1 H (endK Tryd.prog [.tmp 4, .tmp 5, .tmp 6]) by kernel_rfl) h))

theorem d_rows_Compare (a0 : Value) (a1 : Value) (H : AHeap) {r : Value × AHeap} (h : s_rows_Compare guardK condL shareL Tryd.prog CC a0 a1 H (endK Tryd.prog [.tmp 4]) = some r) : CC F.rows_Compare [a0, a1] H = some (tidy H r) := D_body (by kernel_rfl) ((s_rows_Compare_eq stdL CC limLP a0 a1 H).trans (Eq.trans (show s_rows_Compare stdL.b.g stdL.c stdL.s Tryd.prog CC a0 a1 H (endK Tryd.prog [.tmp 4]) = s_rows_Compare guardK condL shareL Tryd.prog CC a0 a1 H (endK Tryd.prog [.tmp 4]) by kernel_rfl) h))

noncomputable def l_rows_Span_0 (v4 : Value) (v7 : Value) (H : AHeap) (k : K) : Res := loopL stdL Tryd.prog hints CC limLP F.rows_Span 0 [(4, v4), (7, v7)] H k
theorem r_rows_Span_0 (v4 : Value) (v7 : Value) (H : AHeap) (k : K) : l_rows_Span_0 v4 v7 H k = s_rows_Span_b0 guardK condL shareL Tryd.prog CC l_rows_Span_0 v4 v7 H (seqK (fun T H => l_rows_Span_0 (get T 4) (get T 7) H k) k) := ((loopL_next (by kernel_rfl) rfl H k).trans (s_rows_Span_b0_eq stdL CC limLP v4 v7 H _)).trans (by kernel_rfl)
theorem d_rows_Span (a0 : Value) (a1 : Value) (H : AHeap) {r : Value × AHeap} (h : s_rows_Span guardK condL shareL Tryd.prog CC l_rows_Span_0 a0 a1 H (endK Tryd.prog [.tmp 4, .tmp 5, .tmp 6]) = some r) : CC F.rows_Span [a0, a1] H = some (tidy H r) := D_body (by kernel_rfl) ((s_rows_Span_eq stdL CC limLP a0 a1 H).trans (Eq.trans (show s_rows_Span stdL.b.g stdL.c stdL.s Tryd.prog CC (fun v4 v7 H k => loopL stdL Tryd.prog hints CC limLP F.rows_Span 0 [(4, v4), (7, v7)] H k) a0 a1 H (endK Tryd.prog [.tmp 4, .tmp 5, .tmp 6]) = s_rows_Span guardK condL shareL Tryd.prog CC l_rows_Span_0 a0 a1 H (endK Tryd.prog [.tmp 4, .tmp 5, .tmp 6]) by kernel_rfl) h))

noncomputable def l_law_same_0 (v0 : Value) (v1 : Value) (v5 : Value) (H : AHeap) (k : K) : Res := loopL stdL Tryd.prog hints CC limLP F.law_same 0 [(0, v0), (1, v1), (5, v5)] H k
theorem r_law_same_0 (v0 : Value) (v1 : Value) (v5 : Value) (H : AHeap) (k : K) : l_law_same_0 v0 v1 v5 H k = s_law_same_b0 guardK condL shareL Tryd.prog CC l_law_same_0 v0 v1 v5 H (seqK (fun T H => l_law_same_0 (get T 0) (get T 1) (get T 5) H k) k) := ((loopL_next (by kernel_rfl) rfl H k).trans (s_law_same_b0_eq stdL CC limLP v0 v1 v5 H _)).trans (by kernel_rfl)
theorem d_law_same (a0 : Value) (a1 : Value) (H : AHeap) {r : Value × AHeap} (h : s_law_same guardK condL shareL Tryd.prog CC l_law_same_0 a0 a1 H (endK Tryd.prog [.tmp 4]) = some r) : CC F.law_same [a0, a1] H = some (tidy H r) := D_body (by kernel_rfl) ((s_law_same_eq stdL CC limLP a0 a1 H).trans (Eq.trans (show s_law_same stdL.b.g stdL.c stdL.s Tryd.prog CC (fun v0 v1 v5 H k => loopL stdL Tryd.prog hints CC limLP F.law_same 0 [(0, v0), (1, v1), (5, v5)] H k) a0 a1 H (endK Tryd.prog [.tmp 4]) = s_law_same guardK condL shareL Tryd.prog CC l_law_same_0 a0 a1 H (endK Tryd.prog [.tmp 4]) by kernel_rfl) h))

theorem d_rows_Valid (a0 : Value) (H : AHeap) {r : Value × AHeap} (h : s_rows_Valid guardK condL shareL Tryd.prog CC a0 H (endK Tryd.prog [.tmp 2]) = some r) : CC F.rows_Valid [a0] H = some (tidy H r) := D_body (by kernel_rfl) ((s_rows_Valid_eq stdL CC limLP a0 H).trans (Eq.trans (show s_rows_Valid stdL.b.g stdL.c stdL.s Tryd.prog CC a0 H (endK Tryd.prog [.tmp 2]) = s_rows_Valid guardK condL shareL Tryd.prog CC a0 H (endK Tryd.prog [.tmp 2]) by kernel_rfl) h))

theorem d_law_row (a0 : Value) (a1 : Value) (a2 : Value) (a3 : Value) (a4 : Value) (H : AHeap) {r : Value × AHeap} (h : s_law_row guardK condL shareL Tryd.prog CC a0 a1 a2 a3 a4 H (endK Tryd.prog [.tmp 10]) = some r) : CC F.law_row [a0, a1, a2, a3, a4] H = some (tidy H r) := D_body (by kernel_rfl) ((s_law_row_eq stdL CC limLP a0 a1 a2 a3 a4 H).trans (Eq.trans (show s_law_row stdL.b.g stdL.c stdL.s Tryd.prog CC a0 a1 a2 a3 a4 H (endK Tryd.prog [.tmp 10]) = s_law_row guardK condL shareL Tryd.prog CC a0 a1 a2 a3 a4 H (endK Tryd.prog [.tmp 10]) by kernel_rfl) h))

theorem d_law_keyed (a0 : Value) (a1 : Value) (a2 : Value) (a3 : Value) (H : AHeap) {r : Value × AHeap} (h : s_law_keyed guardK condL shareL Tryd.prog CC a0 a1 a2 a3 H (endK Tryd.prog [.tmp 8]) = some r) : CC F.law_keyed [a0, a1, a2, a3] H = some (tidy H r) := D_body (by kernel_rfl) ((s_law_keyed_eq stdL CC limLP a0 a1 a2 a3 H).trans (Eq.trans (show s_law_keyed stdL.b.g stdL.c stdL.s Tryd.prog CC a0 a1 a2 a3 H (endK Tryd.prog [.tmp 8]) = s_law_keyed guardK condL shareL Tryd.prog CC a0 a1 a2 a3 H (endK Tryd.prog [.tmp 8]) by kernel_rfl) h))

theorem d_law_order (a0 : Value) (a1 : Value) (H : AHeap) {r : Value × AHeap} (h : s_law_order guardK condL shareL Tryd.prog CC a0 a1 H (endK Tryd.prog [.tmp 4]) = some r) : CC F.law_order [a0, a1] H = some (tidy H r) := D_body (by kernel_rfl) ((s_law_order_eq stdL CC limLP a0 a1 H).trans (Eq.trans (show s_law_order stdL.b.g stdL.c stdL.s Tryd.prog CC a0 a1 H (endK Tryd.prog [.tmp 4]) = s_law_order guardK condL shareL Tryd.prog CC a0 a1 H (endK Tryd.prog [.tmp 4]) by kernel_rfl) h))

theorem d_rows_Equal (a0 : Value) (a1 : Value) (H : AHeap) {r : Value × AHeap} (h : s_rows_Equal guardK condL shareL Tryd.prog CC a0 a1 H (endK Tryd.prog [.tmp 4]) = some r) : CC F.rows_Equal [a0, a1] H = some (tidy H r) := D_body (by kernel_rfl) ((s_rows_Equal_eq stdL CC limLP a0 a1 H).trans (Eq.trans (show s_rows_Equal stdL.b.g stdL.c stdL.s Tryd.prog CC a0 a1 H (endK Tryd.prog [.tmp 4]) = s_rows_Equal guardK condL shareL Tryd.prog CC a0 a1 H (endK Tryd.prog [.tmp 4]) by kernel_rfl) h))

theorem d_law_number (a0 : Value) (H : AHeap) {r : Value × AHeap} (h : s_law_number guardK condL shareL Tryd.prog CC a0 H (endK Tryd.prog [.cell 2 T.api_Cell]) = some r) : CC F.law_number [a0] H = some (tidy H r) := D_body (by kernel_rfl) ((s_law_number_eq stdL CC limLP a0 H).trans (Eq.trans (show s_law_number stdL.b.g stdL.c stdL.s Tryd.prog CC a0 H (endK Tryd.prog [.cell 2 T.api_Cell]) = s_law_number guardK condL shareL Tryd.prog CC a0 H (endK Tryd.prog [.cell 2 T.api_Cell]) by kernel_rfl) h))

theorem d_law_text (a0 : Value) (H : AHeap) {r : Value × AHeap} (h : s_law_text guardK condL shareL Tryd.prog CC a0 H (endK Tryd.prog [.cell 2 T.api_Cell]) = some r) : CC F.law_text [a0] H = some (tidy H r) := D_body (by kernel_rfl) ((s_law_text_eq stdL CC limLP a0 H).trans (Eq.trans (show s_law_text stdL.b.g stdL.c stdL.s Tryd.prog CC a0 H (endK Tryd.prog [.cell 2 T.api_Cell]) = s_law_text guardK condL shareL Tryd.prog CC a0 H (endK Tryd.prog [.cell 2 T.api_Cell]) by kernel_rfl) h))

theorem d_law_signed (a0 : Value) (H : AHeap) {r : Value × AHeap} (h : s_law_signed guardK condL shareL Tryd.prog CC a0 H (endK Tryd.prog [.cell 2 T.api_Cell]) = some r) : CC F.law_signed [a0] H = some (tidy H r) := D_body (by kernel_rfl) ((s_law_signed_eq stdL CC limLP a0 H).trans (Eq.trans (show s_law_signed stdL.b.g stdL.c stdL.s Tryd.prog CC a0 H (endK Tryd.prog [.cell 2 T.api_Cell]) = s_law_signed guardK condL shareL Tryd.prog CC a0 H (endK Tryd.prog [.cell 2 T.api_Cell]) by kernel_rfl) h))

theorem d_law_kindAt (a0 : Value) (a1 : Value) (H : AHeap) {r : Value × AHeap} (h : s_law_kindAt guardK condL shareL Tryd.prog CC a0 a1 H (endK Tryd.prog [.tmp 4]) = some r) : CC F.law_kindAt [a0, a1] H = some (tidy H r) := D_body (by kernel_rfl) ((s_law_kindAt_eq stdL CC limLP a0 a1 H).trans (Eq.trans (show s_law_kindAt stdL.b.g stdL.c stdL.s Tryd.prog CC a0 a1 H (endK Tryd.prog [.tmp 4]) = s_law_kindAt guardK condL shareL Tryd.prog CC a0 a1 H (endK Tryd.prog [.tmp 4]) by kernel_rfl) h))

noncomputable def l_rows_Read_0 (v1 : Value) (v2 : Value) (v3 : Value) (v8 : Value) (v27 : Value) (v28 : Value) (v29 : Value) (H : AHeap) (k : K) : Res := loopL stdL Tryd.prog hints CC limLP F.rows_Read 0 [(1, v1), (2, v2), (3, v3), (8, v8), (27, v27), (28, v28), (29, v29)] H k
noncomputable def l_rows_Read_1 (v1 : Value) (v2 : Value) (v3 : Value) (v8 : Value) (v10 : Value) (v27 : Value) (v28 : Value) (v29 : Value) (v41 : Value) (v42 : Value) (v43 : Value) (H : AHeap) (k : K) : Res := loopL stdL Tryd.prog hints CC limLP F.rows_Read 1 [(1, v1), (2, v2), (3, v3), (8, v8), (10, v10), (27, v27), (28, v28), (29, v29), (41, v41), (42, v42), (43, v43)] H k
theorem r_rows_Read_0 (v1 : Value) (v2 : Value) (v3 : Value) (v8 : Value) (v27 : Value) (v28 : Value) (v29 : Value) (H : AHeap) (k : K) : l_rows_Read_0 v1 v2 v3 v8 v27 v28 v29 H k = s_rows_Read_b0 guardK condL shareL Tryd.prog CC l_rows_Read_0 l_rows_Read_1 v1 v2 v3 v8 v27 v28 v29 H (seqK (fun T H => l_rows_Read_0 (get T 1) (get T 2) (get T 3) (get T 8) (get T 27) (get T 28) (get T 29) H k) k) := ((loopL_next (by kernel_rfl) rfl H k).trans (s_rows_Read_b0_eq stdL CC limLP v1 v2 v3 v8 v27 v28 v29 H _)).trans (by kernel_rfl)
theorem r_rows_Read_1 (v1 : Value) (v2 : Value) (v3 : Value) (v8 : Value) (v10 : Value) (v27 : Value) (v28 : Value) (v29 : Value) (v41 : Value) (v42 : Value) (v43 : Value) (H : AHeap) (k : K) : l_rows_Read_1 v1 v2 v3 v8 v10 v27 v28 v29 v41 v42 v43 H k = s_rows_Read_b1 guardK condL shareL Tryd.prog CC l_rows_Read_0 l_rows_Read_1 v1 v2 v3 v8 v10 v27 v28 v29 v41 v42 v43 H (seqK (fun T H => l_rows_Read_1 (get T 1) (get T 2) (get T 3) (get T 8) (get T 10) (get T 27) (get T 28) (get T 29) (get T 41) (get T 42) (get T 43) H k) k) := ((loopL_next (by kernel_rfl) rfl H k).trans (s_rows_Read_b1_eq stdL CC limLP v1 v2 v3 v8 v10 v27 v28 v29 v41 v42 v43 H _)).trans (by kernel_rfl)
theorem d_rows_Read (a0 : Value) (a1 : Value) (a2 : Value) (H : AHeap) {r : Value × AHeap} (h : s_rows_Read guardK condL shareL Tryd.prog CC l_rows_Read_0 l_rows_Read_1 a0 a1 a2 H (endK Tryd.prog [.tmp 6, .tmp 7]) = some r) : CC F.rows_Read [a0, a1, a2] H = some (tidy H r) := D_body (by kernel_rfl) ((s_rows_Read_eq stdL CC limLP a0 a1 a2 H).trans (Eq.trans (show s_rows_Read stdL.b.g stdL.c stdL.s Tryd.prog CC (fun v1 v2 v3 v8 v27 v28 v29 H k => loopL stdL Tryd.prog hints CC limLP F.rows_Read 0 [(1, v1), (2, v2), (3, v3), (8, v8), (27, v27), (28, v28), (29, v29)] H k) (fun v1 v2 v3 v8 v10 v27 v28 v29 v41 v42 v43 H k => loopL stdL Tryd.prog hints CC limLP F.rows_Read 1 [(1, v1), (2, v2), (3, v3), (8, v8), (10, v10), (27, v27), (28, v28), (29, v29), (41, v41), (42, v42), (43, v43)] H k) a0 a1 a2 H (endK Tryd.prog [.tmp 6, .tmp 7]) = s_rows_Read guardK condL shareL Tryd.prog CC l_rows_Read_0 l_rows_Read_1 a0 a1 a2 H (endK Tryd.prog [.tmp 6, .tmp 7]) by kernel_rfl) h))

theorem d_law_proper (a0 : Value) (a1 : Value) (H : AHeap) {r : Value × AHeap} (h : s_law_proper guardK condL shareL Tryd.prog CC a0 a1 H (endK Tryd.prog [.tmp 4]) = some r) : CC F.law_proper [a0, a1] H = some (tidy H r) := D_body (by kernel_rfl) ((s_law_proper_eq stdL CC limLP a0 a1 H).trans (Eq.trans (show s_law_proper stdL.b.g stdL.c stdL.s Tryd.prog CC a0 a1 H (endK Tryd.prog [.tmp 4]) = s_law_proper guardK condL shareL Tryd.prog CC a0 a1 H (endK Tryd.prog [.tmp 4]) by kernel_rfl) h))

noncomputable def l_law_bytesOf_0 (v5 : Value) (v6 : Value) (v7 : Value) (H : AHeap) (k : K) : Res := loopL stdL Tryd.prog hints CC limLP F.law_bytesOf 0 [(5, v5), (6, v6), (7, v7)] H k
noncomputable def l_law_bytesOf_1 (v1 : Value) (v8 : Value) (v9 : Value) (H : AHeap) (k : K) : Res := loopL stdL Tryd.prog hints CC limLP F.law_bytesOf 1 [(1, v1), (8, v8), (9, v9)] H k
theorem r_law_bytesOf_0 (v5 : Value) (v6 : Value) (v7 : Value) (H : AHeap) (k : K) : l_law_bytesOf_0 v5 v6 v7 H k = s_law_bytesOf_b0 guardK condL shareL Tryd.prog CC l_law_bytesOf_0 l_law_bytesOf_1 v5 v6 v7 H (seqK (fun T H => l_law_bytesOf_0 (get T 5) (get T 6) (get T 7) H k) k) := ((loopL_next (by kernel_rfl) rfl H k).trans (s_law_bytesOf_b0_eq stdL CC limLP v5 v6 v7 H _)).trans (by kernel_rfl)
theorem r_law_bytesOf_1 (v1 : Value) (v8 : Value) (v9 : Value) (H : AHeap) (k : K) : l_law_bytesOf_1 v1 v8 v9 H k = s_law_bytesOf_b1 guardK condL shareL Tryd.prog CC l_law_bytesOf_0 l_law_bytesOf_1 v1 v8 v9 H (seqK (fun T H => l_law_bytesOf_1 (get T 1) (get T 8) (get T 9) H k) k) := ((loopL_next (by kernel_rfl) rfl H k).trans (s_law_bytesOf_b1_eq stdL CC limLP v1 v8 v9 H _)).trans (by kernel_rfl)
theorem d_law_bytesOf (a0 : Value) (H : AHeap) {r : Value × AHeap} (h : s_law_bytesOf guardK condL shareL Tryd.prog CC l_law_bytesOf_0 l_law_bytesOf_1 a0 H (endK Tryd.prog [.tmp 2]) = some r) : CC F.law_bytesOf [a0] H = some (tidy H r) := D_body (by kernel_rfl) ((s_law_bytesOf_eq stdL CC limLP a0 H).trans (Eq.trans (show s_law_bytesOf stdL.b.g stdL.c stdL.s Tryd.prog CC (fun v5 v6 v7 H k => loopL stdL Tryd.prog hints CC limLP F.law_bytesOf 0 [(5, v5), (6, v6), (7, v7)] H k) (fun v1 v8 v9 H k => loopL stdL Tryd.prog hints CC limLP F.law_bytesOf 1 [(1, v1), (8, v8), (9, v9)] H k) a0 H (endK Tryd.prog [.tmp 2]) = s_law_bytesOf guardK condL shareL Tryd.prog CC l_law_bytesOf_0 l_law_bytesOf_1 a0 H (endK Tryd.prog [.tmp 2]) by kernel_rfl) h))

noncomputable def l_law_take_0 (v0 : Value) (v1 : Value) (v4 : Value) (v6 : Value) (v7 : Value) (v8 : Value) (H : AHeap) (k : K) : Res := loopL stdL Tryd.prog hints CC limLP F.law_take 0 [(0, v0), (1, v1), (4, v4), (6, v6), (7, v7), (8, v8)] H k
noncomputable def l_law_take_1 (v0 : Value) (v1 : Value) (v4 : Value) (v6 : Value) (v9 : Value) (H : AHeap) (k : K) : Res := loopL stdL Tryd.prog hints CC limLP F.law_take 1 [(0, v0), (1, v1), (4, v4), (6, v6), (9, v9)] H k
theorem r_law_take_0 (v0 : Value) (v1 : Value) (v4 : Value) (v6 : Value) (v7 : Value) (v8 : Value) (H : AHeap) (k : K) : l_law_take_0 v0 v1 v4 v6 v7 v8 H k = s_law_take_b0 guardK condL shareL Tryd.prog CC l_law_take_0 l_law_take_1 v0 v1 v4 v6 v7 v8 H (seqK (fun T H => l_law_take_0 (get T 0) (get T 1) (get T 4) (get T 6) (get T 7) (get T 8) H k) k) := ((loopL_next (by kernel_rfl) rfl H k).trans (s_law_take_b0_eq stdL CC limLP v0 v1 v4 v6 v7 v8 H _)).trans (by kernel_rfl)
theorem r_law_take_1 (v0 : Value) (v1 : Value) (v4 : Value) (v6 : Value) (v9 : Value) (H : AHeap) (k : K) : l_law_take_1 v0 v1 v4 v6 v9 H k = s_law_take_b1 guardK condL shareL Tryd.prog CC l_law_take_0 l_law_take_1 v0 v1 v4 v6 v9 H (seqK (fun T H => l_law_take_1 (get T 0) (get T 1) (get T 4) (get T 6) (get T 9) H k) k) := ((loopL_next (by kernel_rfl) rfl H k).trans (s_law_take_b1_eq stdL CC limLP v0 v1 v4 v6 v9 H _)).trans (by kernel_rfl)
theorem d_law_take (a0 : Value) (a1 : Value) (H : AHeap) {r : Value × AHeap} (h : s_law_take guardK condL shareL Tryd.prog CC l_law_take_0 l_law_take_1 a0 a1 H (endK Tryd.prog [.cell 4 T.api_Cell, .tmp 5]) = some r) : CC F.law_take [a0, a1] H = some (tidy H r) := D_body (by kernel_rfl) ((s_law_take_eq stdL CC limLP a0 a1 H).trans (Eq.trans (show s_law_take stdL.b.g stdL.c stdL.s Tryd.prog CC (fun v0 v1 v4 v6 v7 v8 H k => loopL stdL Tryd.prog hints CC limLP F.law_take 0 [(0, v0), (1, v1), (4, v4), (6, v6), (7, v7), (8, v8)] H k) (fun v0 v1 v4 v6 v9 H k => loopL stdL Tryd.prog hints CC limLP F.law_take 1 [(0, v0), (1, v1), (4, v4), (6, v6), (9, v9)] H k) a0 a1 H (endK Tryd.prog [.cell 4 T.api_Cell, .tmp 5]) = s_law_take guardK condL shareL Tryd.prog CC l_law_take_0 l_law_take_1 a0 a1 H (endK Tryd.prog [.cell 4 T.api_Cell, .tmp 5]) by kernel_rfl) h))

noncomputable def l_rows_are_0 (v1 : Value) (v12 : Value) (v13 : Value) (v14 : Value) (H : AHeap) (k : K) : Res := loopL stdL Tryd.prog hints CC limLP F.rows_are 0 [(1, v1), (12, v12), (13, v13), (14, v14)] H k
theorem r_rows_are_0 (v1 : Value) (v12 : Value) (v13 : Value) (v14 : Value) (H : AHeap) (k : K) : l_rows_are_0 v1 v12 v13 v14 H k = s_rows_are_b0 guardK condL shareL Tryd.prog CC l_rows_are_0 v1 v12 v13 v14 H (seqK (fun T H => l_rows_are_0 (get T 1) (get T 12) (get T 13) (get T 14) H k) k) := ((loopL_next (by kernel_rfl) rfl H k).trans (s_rows_are_b0_eq stdL CC limLP v1 v12 v13 v14 H _)).trans (by kernel_rfl)
theorem d_rows_are (a0 : Value) (a1 : Value) (H : AHeap) {r : Value × AHeap} (h : s_rows_are guardK condL shareL Tryd.prog CC l_rows_are_0 a0 a1 H (endK Tryd.prog [.tmp 4]) = some r) : CC F.rows_are [a0, a1] H = some (tidy H r) := D_body (by kernel_rfl) ((s_rows_are_eq stdL CC limLP a0 a1 H).trans (Eq.trans (show s_rows_are stdL.b.g stdL.c stdL.s Tryd.prog CC (fun v1 v12 v13 v14 H k => loopL stdL Tryd.prog hints CC limLP F.rows_are 0 [(1, v1), (12, v12), (13, v13), (14, v14)] H k) a0 a1 H (endK Tryd.prog [.tmp 4]) = s_rows_are guardK condL shareL Tryd.prog CC l_rows_are_0 a0 a1 H (endK Tryd.prog [.tmp 4]) by kernel_rfl) h))

noncomputable def l_slices_Concat_CellKind_0 (v0 : Value) (v3 : Value) (v9 : Value) (v10 : Value) (v11 : Value) (H : AHeap) (k : K) : Res := loopL stdL Tryd.prog hints CC limLP F.slices_Concat_CellKind 0 [(0, v0), (3, v3), (9, v9), (10, v10), (11, v11)] H k
noncomputable def l_slices_Concat_CellKind_1 (v6 : Value) (v25 : Value) (v26 : Value) (v27 : Value) (H : AHeap) (k : K) : Res := loopL stdL Tryd.prog hints CC limLP F.slices_Concat_CellKind 1 [(6, v6), (25, v25), (26, v26), (27, v27)] H k
theorem r_slices_Concat_CellKind_0 (v0 : Value) (v3 : Value) (v9 : Value) (v10 : Value) (v11 : Value) (H : AHeap) (k : K) : l_slices_Concat_CellKind_0 v0 v3 v9 v10 v11 H k = s_slices_Concat_CellKind_b0 guardK condL shareL Tryd.prog CC l_slices_Concat_CellKind_0 l_slices_Concat_CellKind_1 v0 v3 v9 v10 v11 H (seqK (fun T H => l_slices_Concat_CellKind_0 (get T 0) (get T 3) (get T 9) (get T 10) (get T 11) H k) k) := ((loopL_next (by kernel_rfl) rfl H k).trans (s_slices_Concat_CellKind_b0_eq stdL CC limLP v0 v3 v9 v10 v11 H _)).trans (by kernel_rfl)
theorem r_slices_Concat_CellKind_1 (v6 : Value) (v25 : Value) (v26 : Value) (v27 : Value) (H : AHeap) (k : K) : l_slices_Concat_CellKind_1 v6 v25 v26 v27 H k = s_slices_Concat_CellKind_b1 guardK condL shareL Tryd.prog CC l_slices_Concat_CellKind_0 l_slices_Concat_CellKind_1 v6 v25 v26 v27 H (seqK (fun T H => l_slices_Concat_CellKind_1 (get T 6) (get T 25) (get T 26) (get T 27) H k) k) := ((loopL_next (by kernel_rfl) rfl H k).trans (s_slices_Concat_CellKind_b1_eq stdL CC limLP v6 v25 v26 v27 H _)).trans (by kernel_rfl)
theorem d_slices_Concat_CellKind (a0 : Value) (H : AHeap) {r : Value × AHeap} (h : s_slices_Concat_CellKind guardK condL shareL Tryd.prog CC l_slices_Concat_CellKind_0 l_slices_Concat_CellKind_1 a0 H (endK Tryd.prog [.tmp 2]) = some r) : CC F.slices_Concat_CellKind [a0] H = some (tidy H r) := D_body (by kernel_rfl) ((s_slices_Concat_CellKind_eq stdL CC limLP a0 H).trans (Eq.trans (show s_slices_Concat_CellKind stdL.b.g stdL.c stdL.s Tryd.prog CC (fun v0 v3 v9 v10 v11 H k => loopL stdL Tryd.prog hints CC limLP F.slices_Concat_CellKind 0 [(0, v0), (3, v3), (9, v9), (10, v10), (11, v11)] H k) (fun v6 v25 v26 v27 H k => loopL stdL Tryd.prog hints CC limLP F.slices_Concat_CellKind 1 [(6, v6), (25, v25), (26, v26), (27, v27)] H k) a0 H (endK Tryd.prog [.tmp 2]) = s_slices_Concat_CellKind guardK condL shareL Tryd.prog CC l_slices_Concat_CellKind_0 l_slices_Concat_CellKind_1 a0 H (endK Tryd.prog [.tmp 2]) by kernel_rfl) h))

noncomputable def l_rows_puts_0 (v0 : Value) (v7 : Value) (v8 : Value) (v9 : Value) (H : AHeap) (k : K) : Res := loopL stdL Tryd.prog hints CC limLP F.rows_puts 0 [(0, v0), (7, v7), (8, v8), (9, v9)] H k
theorem r_rows_puts_0 (v0 : Value) (v7 : Value) (v8 : Value) (v9 : Value) (H : AHeap) (k : K) : l_rows_puts_0 v0 v7 v8 v9 H k = s_rows_puts_b0 guardK condL shareL Tryd.prog CC l_rows_puts_0 v0 v7 v8 v9 H (seqK (fun T H => l_rows_puts_0 (get T 0) (get T 7) (get T 8) (get T 9) H k) k) := ((loopL_next (by kernel_rfl) rfl H k).trans (s_rows_puts_b0_eq stdL CC limLP v0 v7 v8 v9 H _)).trans (by kernel_rfl)
theorem d_rows_puts (a0 : Value) (a1 : Value) (H : AHeap) {r : Value × AHeap} (h : s_rows_puts guardK condL shareL Tryd.prog CC l_rows_puts_0 a0 a1 H (endK Tryd.prog [.tmp 4]) = some r) : CC F.rows_puts [a0, a1] H = some (tidy H r) := D_body (by kernel_rfl) ((s_rows_puts_eq stdL CC limLP a0 a1 H).trans (Eq.trans (show s_rows_puts stdL.b.g stdL.c stdL.s Tryd.prog CC (fun v0 v7 v8 v9 H k => loopL stdL Tryd.prog hints CC limLP F.rows_puts 0 [(0, v0), (7, v7), (8, v8), (9, v9)] H k) a0 a1 H (endK Tryd.prog [.tmp 4]) = s_rows_puts guardK condL shareL Tryd.prog CC l_rows_puts_0 a0 a1 H (endK Tryd.prog [.tmp 4]) by kernel_rfl) h))

theorem d_cmp_Compare_uint64 (a0 : Value) (a1 : Value) (H : AHeap) {r : Value × AHeap} (h : s_cmp_Compare_uint64 guardK condL shareL Tryd.prog CC a0 a1 H (endK Tryd.prog [.tmp 4]) = some r) : CC F.cmp_Compare_uint64 [a0, a1] H = some (tidy H r) := D_body (by kernel_rfl) ((s_cmp_Compare_uint64_eq stdL CC limLP a0 a1 H).trans (Eq.trans (show s_cmp_Compare_uint64 stdL.b.g stdL.c stdL.s Tryd.prog CC a0 a1 H (endK Tryd.prog [.tmp 4]) = s_cmp_Compare_uint64 guardK condL shareL Tryd.prog CC a0 a1 H (endK Tryd.prog [.tmp 4]) by kernel_rfl) h))

theorem d_cmp_Compare_int (a0 : Value) (a1 : Value) (H : AHeap) {r : Value × AHeap} (h : s_cmp_Compare_int guardK condL shareL Tryd.prog CC a0 a1 H (endK Tryd.prog [.tmp 4]) = some r) : CC F.cmp_Compare_int [a0, a1] H = some (tidy H r) := D_body (by kernel_rfl) ((s_cmp_Compare_int_eq stdL CC limLP a0 a1 H).trans (Eq.trans (show s_cmp_Compare_int stdL.b.g stdL.c stdL.s Tryd.prog CC a0 a1 H (endK Tryd.prog [.tmp 4]) = s_cmp_Compare_int guardK condL shareL Tryd.prog CC a0 a1 H (endK Tryd.prog [.tmp 4]) by kernel_rfl) h))

theorem d_cmp_Compare_string (a0 : Value) (a1 : Value) (H : AHeap) {r : Value × AHeap} (h : s_cmp_Compare_string guardK condL shareL Tryd.prog CC a0 a1 H (endK Tryd.prog [.tmp 4]) = some r) : CC F.cmp_Compare_string [a0, a1] H = some (tidy H r) := D_body (by kernel_rfl) ((s_cmp_Compare_string_eq stdL CC limLP a0 a1 H).trans (Eq.trans (show s_cmp_Compare_string stdL.b.g stdL.c stdL.s Tryd.prog CC a0 a1 H (endK Tryd.prog [.tmp 4]) = s_cmp_Compare_string guardK condL shareL Tryd.prog CC a0 a1 H (endK Tryd.prog [.tmp 4]) by kernel_rfl) h))

theorem d_slices_ContainsFunc_CellKind (a0 : Value) (a1 : Value) (H : AHeap) {r : Value × AHeap} (h : s_slices_ContainsFunc_CellKind guardK condL shareL Tryd.prog CC a0 a1 H (endK Tryd.prog [.tmp 4]) = some r) : CC F.slices_ContainsFunc_CellKind [a0, a1] H = some (tidy H r) := D_body (by kernel_rfl) ((s_slices_ContainsFunc_CellKind_eq stdL CC limLP a0 a1 H).trans (Eq.trans (show s_slices_ContainsFunc_CellKind stdL.b.g stdL.c stdL.s Tryd.prog CC a0 a1 H (endK Tryd.prog [.tmp 4]) = s_slices_ContainsFunc_CellKind guardK condL shareL Tryd.prog CC a0 a1 H (endK Tryd.prog [.tmp 4]) by kernel_rfl) h))

theorem d_rows_Valid_1 (a0 : Value) (H : AHeap) {r : Value × AHeap} (h : s_rows_Valid_1 guardK condL shareL Tryd.prog CC a0 H (endK Tryd.prog [.tmp 2]) = some r) : CC F.rows_Valid_1 [a0] H = some (tidy H r) := D_body (by kernel_rfl) ((s_rows_Valid_1_eq stdL CC limLP a0 H).trans (Eq.trans (show s_rows_Valid_1 stdL.b.g stdL.c stdL.s Tryd.prog CC a0 H (endK Tryd.prog [.tmp 2]) = s_rows_Valid_1 guardK condL shareL Tryd.prog CC a0 H (endK Tryd.prog [.tmp 2]) by kernel_rfl) h))

theorem d_rows_kind (a0 : Value) (H : AHeap) {r : Value × AHeap} (h : s_rows_kind guardK condL shareL Tryd.prog CC a0 H (endK Tryd.prog [.tmp 2]) = some r) : CC F.rows_kind [a0] H = some (tidy H r) := D_body (by kernel_rfl) ((s_rows_kind_eq stdL CC limLP a0 H).trans (Eq.trans (show s_rows_kind stdL.b.g stdL.c stdL.s Tryd.prog CC a0 H (endK Tryd.prog [.tmp 2]) = s_rows_kind guardK condL shareL Tryd.prog CC a0 H (endK Tryd.prog [.tmp 2]) by kernel_rfl) h))

theorem d_rows_Key (a0 : Value) (a1 : Value) (H : AHeap) {r : Value × AHeap} (h : s_rows_Key guardK condL shareL Tryd.prog CC a0 a1 H (endK Tryd.prog [.tmp 4, .tmp 5]) = some r) : CC F.rows_Key [a0, a1] H = some (tidy H r) := D_body (by kernel_rfl) ((s_rows_Key_eq stdL CC limLP a0 a1 H).trans (Eq.trans (show s_rows_Key stdL.b.g stdL.c stdL.s Tryd.prog CC a0 a1 H (endK Tryd.prog [.tmp 4, .tmp 5]) = s_rows_Key guardK condL shareL Tryd.prog CC a0 a1 H (endK Tryd.prog [.tmp 4, .tmp 5]) by kernel_rfl) h))

noncomputable def l_slices_Equal_Cell_0 (v0 : Value) (v1 : Value) (v12 : Value) (v13 : Value) (H : AHeap) (k : K) : Res := loopL stdL Tryd.prog hints CC limLP F.slices_Equal_Cell 0 [(0, v0), (1, v1), (12, v12), (13, v13)] H k
theorem r_slices_Equal_Cell_0 (v0 : Value) (v1 : Value) (v12 : Value) (v13 : Value) (H : AHeap) (k : K) : l_slices_Equal_Cell_0 v0 v1 v12 v13 H k = s_slices_Equal_Cell_b0 guardK condL shareL Tryd.prog CC l_slices_Equal_Cell_0 v0 v1 v12 v13 H (seqK (fun T H => l_slices_Equal_Cell_0 (get T 0) (get T 1) (get T 12) (get T 13) H k) k) := ((loopL_next (by kernel_rfl) rfl H k).trans (s_slices_Equal_Cell_b0_eq stdL CC limLP v0 v1 v12 v13 H _)).trans (by kernel_rfl)
theorem d_slices_Equal_Cell (a0 : Value) (a1 : Value) (H : AHeap) {r : Value × AHeap} (h : s_slices_Equal_Cell guardK condL shareL Tryd.prog CC l_slices_Equal_Cell_0 a0 a1 H (endK Tryd.prog [.tmp 4]) = some r) : CC F.slices_Equal_Cell [a0, a1] H = some (tidy H r) := D_body (by kernel_rfl) ((s_slices_Equal_Cell_eq stdL CC limLP a0 a1 H).trans (Eq.trans (show s_slices_Equal_Cell stdL.b.g stdL.c stdL.s Tryd.prog CC (fun v0 v1 v12 v13 H k => loopL stdL Tryd.prog hints CC limLP F.slices_Equal_Cell 0 [(0, v0), (1, v1), (12, v12), (13, v13)] H k) a0 a1 H (endK Tryd.prog [.tmp 4]) = s_slices_Equal_Cell guardK condL shareL Tryd.prog CC l_slices_Equal_Cell_0 a0 a1 H (endK Tryd.prog [.tmp 4]) by kernel_rfl) h))

theorem d_rows_take (a0 : Value) (a1 : Value) (H : AHeap) {r : Value × AHeap} (h : s_rows_take guardK condL shareL Tryd.prog CC a0 a1 H (endK Tryd.prog [.cell 4 T.api_Cell, .tmp 5, .tmp 6]) = some r) : CC F.rows_take [a0, a1] H = some (tidy H r) := D_body (by kernel_rfl) ((s_rows_take_eq stdL CC limLP a0 a1 H).trans (Eq.trans (show s_rows_take stdL.b.g stdL.c stdL.s Tryd.prog CC a0 a1 H (endK Tryd.prog [.cell 4 T.api_Cell, .tmp 5, .tmp 6]) = s_rows_take guardK condL shareL Tryd.prog CC a0 a1 H (endK Tryd.prog [.cell 4 T.api_Cell, .tmp 5, .tmp 6]) by kernel_rfl) h))

theorem d_law_digits (a0 : Value) (H : AHeap) {r : Value × AHeap} (h : s_law_digits guardK condL shareL Tryd.prog CC a0 H (endK Tryd.prog [.tmp 2]) = some r) : CC F.law_digits [a0] H = some (tidy H r) := D_body (by kernel_rfl) ((s_law_digits_eq stdL CC limLP a0 H).trans (Eq.trans (show s_law_digits stdL.b.g stdL.c stdL.s Tryd.prog CC a0 H (endK Tryd.prog [.tmp 2]) = s_law_digits guardK condL shareL Tryd.prog CC a0 H (endK Tryd.prog [.tmp 2]) by kernel_rfl) h))

noncomputable def l_law_most_0 (v0 : Value) (v3 : Value) (v4 : Value) (H : AHeap) (k : K) : Res := loopL stdL Tryd.prog hints CC limLP F.law_most 0 [(0, v0), (3, v3), (4, v4)] H k
theorem r_law_most_0 (v0 : Value) (v3 : Value) (v4 : Value) (H : AHeap) (k : K) : l_law_most_0 v0 v3 v4 H k = s_law_most_b0 guardK condL shareL Tryd.prog CC l_law_most_0 v0 v3 v4 H (seqK (fun T H => l_law_most_0 (get T 0) (get T 3) (get T 4) H k) k) := ((loopL_next (by kernel_rfl) rfl H k).trans (s_law_most_b0_eq stdL CC limLP v0 v3 v4 H _)).trans (by kernel_rfl)
theorem d_law_most (a0 : Value) (H : AHeap) {r : Value × AHeap} (h : s_law_most guardK condL shareL Tryd.prog CC l_law_most_0 a0 H (endK Tryd.prog [.tmp 2]) = some r) : CC F.law_most [a0] H = some (tidy H r) := D_body (by kernel_rfl) ((s_law_most_eq stdL CC limLP a0 H).trans (Eq.trans (show s_law_most stdL.b.g stdL.c stdL.s Tryd.prog CC (fun v0 v3 v4 H k => loopL stdL Tryd.prog hints CC limLP F.law_most 0 [(0, v0), (3, v3), (4, v4)] H k) a0 H (endK Tryd.prog [.tmp 2]) = s_law_most guardK condL shareL Tryd.prog CC l_law_most_0 a0 H (endK Tryd.prog [.tmp 2]) by kernel_rfl) h))

theorem d_rows_proper (a0 : Value) (a1 : Value) (H : AHeap) {r : Value × AHeap} (h : s_rows_proper guardK condL shareL Tryd.prog CC a0 a1 H (endK Tryd.prog [.tmp 4]) = some r) : CC F.rows_proper [a0, a1] H = some (tidy H r) := D_body (by kernel_rfl) ((s_rows_proper_eq stdL CC limLP a0 a1 H).trans (Eq.trans (show s_rows_proper stdL.b.g stdL.c stdL.s Tryd.prog CC a0 a1 H (endK Tryd.prog [.tmp 4]) = s_rows_proper guardK condL shareL Tryd.prog CC a0 a1 H (endK Tryd.prog [.tmp 4]) by kernel_rfl) h))

theorem d_slices_Grow_CellKind (a0 : Value) (a1 : Value) (H : AHeap) {r : Value × AHeap} (h : s_slices_Grow_CellKind guardK condL shareL Tryd.prog CC a0 a1 H (endK Tryd.prog [.tmp 4]) = some r) : CC F.slices_Grow_CellKind [a0, a1] H = some (tidy H r) := D_body (by kernel_rfl) ((s_slices_Grow_CellKind_eq stdL CC limLP a0 a1 H).trans (Eq.trans (show s_slices_Grow_CellKind stdL.b.g stdL.c stdL.s Tryd.prog CC a0 a1 H (endK Tryd.prog [.tmp 4]) = s_slices_Grow_CellKind guardK condL shareL Tryd.prog CC a0 a1 H (endK Tryd.prog [.tmp 4]) by kernel_rfl) h))

noncomputable def l_rows_put_0 (v0 : Value) (v7 : Value) (v49 : Value) (v50 : Value) (H : AHeap) (k : K) : Res := loopL stdL Tryd.prog hints CC limLP F.rows_put 0 [(0, v0), (7, v7), (49, v49), (50, v50)] H k
theorem r_rows_put_0 (v0 : Value) (v7 : Value) (v49 : Value) (v50 : Value) (H : AHeap) (k : K) : l_rows_put_0 v0 v7 v49 v50 H k = s_rows_put_b0 guardK condL shareL Tryd.prog CC l_rows_put_0 v0 v7 v49 v50 H (seqK (fun T H => l_rows_put_0 (get T 0) (get T 7) (get T 49) (get T 50) H k) k) := ((loopL_next (by kernel_rfl) rfl H k).trans (s_rows_put_b0_eq stdL CC limLP v0 v7 v49 v50 H _)).trans (by kernel_rfl)
theorem d_rows_put (a0 : Value) (a1 : Value) (H : AHeap) {r : Value × AHeap} (h : s_rows_put guardK condL shareL Tryd.prog CC l_rows_put_0 a0 a1 H (endK Tryd.prog [.tmp 4]) = some r) : CC F.rows_put [a0, a1] H = some (tidy H r) := D_body (by kernel_rfl) ((s_rows_put_eq stdL CC limLP a0 a1 H).trans (Eq.trans (show s_rows_put stdL.b.g stdL.c stdL.s Tryd.prog CC (fun v0 v7 v49 v50 H k => loopL stdL Tryd.prog hints CC limLP F.rows_put 0 [(0, v0), (7, v7), (49, v49), (50, v50)] H k) a0 a1 H (endK Tryd.prog [.tmp 4]) = s_rows_put guardK condL shareL Tryd.prog CC l_rows_put_0 a0 a1 H (endK Tryd.prog [.tmp 4]) by kernel_rfl) h))

theorem d_cmp_isNaN_uint64 (a0 : Value) (H : AHeap) {r : Value × AHeap} (h : s_cmp_isNaN_uint64 guardK condL shareL Tryd.prog CC a0 H (endK Tryd.prog [.tmp 2]) = some r) : CC F.cmp_isNaN_uint64 [a0] H = some (tidy H r) := D_body (by kernel_rfl) ((s_cmp_isNaN_uint64_eq stdL CC limLP a0 H).trans (Eq.trans (show s_cmp_isNaN_uint64 stdL.b.g stdL.c stdL.s Tryd.prog CC a0 H (endK Tryd.prog [.tmp 2]) = s_cmp_isNaN_uint64 guardK condL shareL Tryd.prog CC a0 H (endK Tryd.prog [.tmp 2]) by kernel_rfl) h))

theorem d_cmp_isNaN_int (a0 : Value) (H : AHeap) {r : Value × AHeap} (h : s_cmp_isNaN_int guardK condL shareL Tryd.prog CC a0 H (endK Tryd.prog [.tmp 2]) = some r) : CC F.cmp_isNaN_int [a0] H = some (tidy H r) := D_body (by kernel_rfl) ((s_cmp_isNaN_int_eq stdL CC limLP a0 H).trans (Eq.trans (show s_cmp_isNaN_int stdL.b.g stdL.c stdL.s Tryd.prog CC a0 H (endK Tryd.prog [.tmp 2]) = s_cmp_isNaN_int guardK condL shareL Tryd.prog CC a0 H (endK Tryd.prog [.tmp 2]) by kernel_rfl) h))

theorem d_cmp_isNaN_string (a0 : Value) (H : AHeap) {r : Value × AHeap} (h : s_cmp_isNaN_string guardK condL shareL Tryd.prog CC a0 H (endK Tryd.prog [.tmp 2]) = some r) : CC F.cmp_isNaN_string [a0] H = some (tidy H r) := D_body (by kernel_rfl) ((s_cmp_isNaN_string_eq stdL CC limLP a0 H).trans (Eq.trans (show s_cmp_isNaN_string stdL.b.g stdL.c stdL.s Tryd.prog CC a0 H (endK Tryd.prog [.tmp 2]) = s_cmp_isNaN_string guardK condL shareL Tryd.prog CC a0 H (endK Tryd.prog [.tmp 2]) by kernel_rfl) h))

noncomputable def l_slices_IndexFunc_CellKind_0 (v0 : Value) (v1 : Value) (v7 : Value) (v8 : Value) (H : AHeap) (k : K) : Res := loopL stdL Tryd.prog hints CC limLP F.slices_IndexFunc_CellKind 0 [(0, v0), (1, v1), (7, v7), (8, v8)] H k
theorem r_slices_IndexFunc_CellKind_0 (v0 : Value) (v1 : Value) (v7 : Value) (v8 : Value) (H : AHeap) (k : K) : l_slices_IndexFunc_CellKind_0 v0 v1 v7 v8 H k = s_slices_IndexFunc_CellKind_b0 guardK condL shareL Tryd.prog CC l_slices_IndexFunc_CellKind_0 v0 v1 v7 v8 H (seqK (fun T H => l_slices_IndexFunc_CellKind_0 (get T 0) (get T 1) (get T 7) (get T 8) H k) k) := ((loopL_next (by kernel_rfl) rfl H k).trans (s_slices_IndexFunc_CellKind_b0_eq stdL CC limLP v0 v1 v7 v8 H _)).trans (by kernel_rfl)
theorem d_slices_IndexFunc_CellKind (a0 : Value) (a1 : Value) (H : AHeap) {r : Value × AHeap} (h : s_slices_IndexFunc_CellKind guardK condL shareL Tryd.prog CC l_slices_IndexFunc_CellKind_0 a0 a1 H (endK Tryd.prog [.tmp 4]) = some r) : CC F.slices_IndexFunc_CellKind [a0, a1] H = some (tidy H r) := D_body (by kernel_rfl) ((s_slices_IndexFunc_CellKind_eq stdL CC limLP a0 a1 H).trans (Eq.trans (show s_slices_IndexFunc_CellKind stdL.b.g stdL.c stdL.s Tryd.prog CC (fun v0 v1 v7 v8 H k => loopL stdL Tryd.prog hints CC limLP F.slices_IndexFunc_CellKind 0 [(0, v0), (1, v1), (7, v7), (8, v8)] H k) a0 a1 H (endK Tryd.prog [.tmp 4]) = s_slices_IndexFunc_CellKind guardK condL shareL Tryd.prog CC l_slices_IndexFunc_CellKind_0 a0 a1 H (endK Tryd.prog [.tmp 4]) by kernel_rfl) h))

noncomputable def l_rows_number_0 (v0 : Value) (v1 : Value) (v2 : Value) (v9 : Value) (v23 : Value) (v24 : Value) (v25 : Value) (H : AHeap) (k : K) : Res := loopL stdL Tryd.prog hints CC limLP F.rows_number 0 [(0, v0), (1, v1), (2, v2), (9, v9), (23, v23), (24, v24), (25, v25)] H k
theorem r_rows_number_0 (v0 : Value) (v1 : Value) (v2 : Value) (v9 : Value) (v23 : Value) (v24 : Value) (v25 : Value) (H : AHeap) (k : K) : l_rows_number_0 v0 v1 v2 v9 v23 v24 v25 H k = s_rows_number_b0 guardK condL shareL Tryd.prog CC l_rows_number_0 v0 v1 v2 v9 v23 v24 v25 H (seqK (fun T H => l_rows_number_0 (get T 0) (get T 1) (get T 2) (get T 9) (get T 23) (get T 24) (get T 25) H k) k) := ((loopL_next (by kernel_rfl) rfl H k).trans (s_rows_number_b0_eq stdL CC limLP v0 v1 v2 v9 v23 v24 v25 H _)).trans (by kernel_rfl)
theorem d_rows_number (a0 : Value) (a1 : Value) (a2 : Value) (H : AHeap) {r : Value × AHeap} (h : s_rows_number guardK condL shareL Tryd.prog CC l_rows_number_0 a0 a1 a2 H (endK Tryd.prog [.tmp 6, .tmp 7, .tmp 8]) = some r) : CC F.rows_number [a0, a1, a2] H = some (tidy H r) := D_body (by kernel_rfl) ((s_rows_number_eq stdL CC limLP a0 a1 a2 H).trans (Eq.trans (show s_rows_number stdL.b.g stdL.c stdL.s Tryd.prog CC (fun v0 v1 v2 v9 v23 v24 v25 H k => loopL stdL Tryd.prog hints CC limLP F.rows_number 0 [(0, v0), (1, v1), (2, v2), (9, v9), (23, v23), (24, v24), (25, v25)] H k) a0 a1 a2 H (endK Tryd.prog [.tmp 6, .tmp 7, .tmp 8]) = s_rows_number guardK condL shareL Tryd.prog CC l_rows_number_0 a0 a1 a2 H (endK Tryd.prog [.tmp 6, .tmp 7, .tmp 8]) by kernel_rfl) h))

noncomputable def l_rows_digits_0 (v0 : Value) (v3 : Value) (H : AHeap) (k : K) : Res := loopL stdL Tryd.prog hints CC limLP F.rows_digits 0 [(0, v0), (3, v3)] H k
theorem r_rows_digits_0 (v0 : Value) (v3 : Value) (H : AHeap) (k : K) : l_rows_digits_0 v0 v3 H k = s_rows_digits_b0 guardK condL shareL Tryd.prog CC l_rows_digits_0 v0 v3 H (seqK (fun T H => l_rows_digits_0 (get T 0) (get T 3) H k) k) := ((loopL_next (by kernel_rfl) rfl H k).trans (s_rows_digits_b0_eq stdL CC limLP v0 v3 H _)).trans (by kernel_rfl)
theorem d_rows_digits (a0 : Value) (H : AHeap) {r : Value × AHeap} (h : s_rows_digits guardK condL shareL Tryd.prog CC l_rows_digits_0 a0 H (endK Tryd.prog [.tmp 2]) = some r) : CC F.rows_digits [a0] H = some (tidy H r) := D_body (by kernel_rfl) ((s_rows_digits_eq stdL CC limLP a0 H).trans (Eq.trans (show s_rows_digits stdL.b.g stdL.c stdL.s Tryd.prog CC (fun v0 v3 H k => loopL stdL Tryd.prog hints CC limLP F.rows_digits 0 [(0, v0), (3, v3)] H k) a0 H (endK Tryd.prog [.tmp 2]) = s_rows_digits guardK condL shareL Tryd.prog CC l_rows_digits_0 a0 H (endK Tryd.prog [.tmp 2]) by kernel_rfl) h))

noncomputable def l_internal_stringslite_Index_0 (v0 : Value) (v1 : Value) (v5 : Value) (v6 : Value) (v7 : Value) (v8 : Value) (v9 : Value) (v10 : Value) (H : AHeap) (k : K) : Res := loopL stdL Tryd.prog hints CC limLP F.internal_stringslite_Index 0 [(0, v0), (1, v1), (5, v5), (6, v6), (7, v7), (8, v8), (9, v9), (10, v10)] H k
theorem r_internal_stringslite_Index_0 (v0 : Value) (v1 : Value) (v5 : Value) (v6 : Value) (v7 : Value) (v8 : Value) (v9 : Value) (v10 : Value) (H : AHeap) (k : K) : l_internal_stringslite_Index_0 v0 v1 v5 v6 v7 v8 v9 v10 H k = s_internal_stringslite_Index_b0 guardK condL shareL Tryd.prog CC l_internal_stringslite_Index_0 v0 v1 v5 v6 v7 v8 v9 v10 H (seqK (fun T H => l_internal_stringslite_Index_0 (get T 0) (get T 1) (get T 5) (get T 6) (get T 7) (get T 8) (get T 9) (get T 10) H k) k) := ((loopL_next (by kernel_rfl) rfl H k).trans (s_internal_stringslite_Index_b0_eq stdL CC limLP v0 v1 v5 v6 v7 v8 v9 v10 H _)).trans (by kernel_rfl)
theorem d_internal_stringslite_Index (a0 : Value) (a1 : Value) (H : AHeap) {r : Value × AHeap} (h : s_internal_stringslite_Index guardK condL shareL Tryd.prog CC l_internal_stringslite_Index_0 a0 a1 H (endK Tryd.prog [.tmp 4]) = some r) : CC F.internal_stringslite_Index [a0, a1] H = some (tidy H r) := D_body (by kernel_rfl) ((s_internal_stringslite_Index_eq stdL CC limLP a0 a1 H).trans (Eq.trans (show s_internal_stringslite_Index stdL.b.g stdL.c stdL.s Tryd.prog CC (fun v0 v1 v5 v6 v7 v8 v9 v10 H k => loopL stdL Tryd.prog hints CC limLP F.internal_stringslite_Index 0 [(0, v0), (1, v1), (5, v5), (6, v6), (7, v7), (8, v8), (9, v9), (10, v10)] H k) a0 a1 H (endK Tryd.prog [.tmp 4]) = s_internal_stringslite_Index guardK condL shareL Tryd.prog CC l_internal_stringslite_Index_0 a0 a1 H (endK Tryd.prog [.tmp 4]) by kernel_rfl) h))

noncomputable def l_strings_Replace_0 (v0 : Value) (v1 : Value) (v2 : Value) (v10 : Value) (v11 : Value) (v52 : Value) (v53 : Value) (H : AHeap) (k : K) : Res := loopL stdL Tryd.prog hints CC limLP F.strings_Replace 0 [(0, v0), (1, v1), (2, v2), (10, v10), (11, v11), (52, v52), (53, v53)] H k
noncomputable def l_strings_Replace_1 (v0 : Value) (v2 : Value) (v10 : Value) (v11 : Value) (v77 : Value) (v78 : Value) (H : AHeap) (k : K) : Res := loopL stdL Tryd.prog hints CC limLP F.strings_Replace 1 [(0, v0), (2, v2), (10, v10), (11, v11), (77, v77), (78, v78)] H k
theorem r_strings_Replace_0 (v0 : Value) (v1 : Value) (v2 : Value) (v10 : Value) (v11 : Value) (v52 : Value) (v53 : Value) (H : AHeap) (k : K) : l_strings_Replace_0 v0 v1 v2 v10 v11 v52 v53 H k = s_strings_Replace_b0 guardK condL shareL Tryd.prog CC l_strings_Replace_0 l_strings_Replace_1 v0 v1 v2 v10 v11 v52 v53 H (seqK (fun T H => l_strings_Replace_0 (get T 0) (get T 1) (get T 2) (get T 10) (get T 11) (get T 52) (get T 53) H k) k) := ((loopL_next (by kernel_rfl) rfl H k).trans (s_strings_Replace_b0_eq stdL CC limLP v0 v1 v2 v10 v11 v52 v53 H _)).trans (by kernel_rfl)
theorem r_strings_Replace_1 (v0 : Value) (v2 : Value) (v10 : Value) (v11 : Value) (v77 : Value) (v78 : Value) (H : AHeap) (k : K) : l_strings_Replace_1 v0 v2 v10 v11 v77 v78 H k = s_strings_Replace_b1 guardK condL shareL Tryd.prog CC l_strings_Replace_0 l_strings_Replace_1 v0 v2 v10 v11 v77 v78 H (seqK (fun T H => l_strings_Replace_1 (get T 0) (get T 2) (get T 10) (get T 11) (get T 77) (get T 78) H k) k) := ((loopL_next (by kernel_rfl) rfl H k).trans (s_strings_Replace_b1_eq stdL CC limLP v0 v2 v10 v11 v77 v78 H _)).trans (by kernel_rfl)
theorem d_strings_Replace (a0 : Value) (a1 : Value) (a2 : Value) (a3 : Value) (H : AHeap) {r : Value × AHeap} (h : s_strings_Replace guardK condL shareL Tryd.prog CC l_strings_Replace_0 l_strings_Replace_1 a0 a1 a2 a3 H (endK Tryd.prog [.tmp 8]) = some r) : CC F.strings_Replace [a0, a1, a2, a3] H = some (tidy H r) := D_body (by kernel_rfl) ((s_strings_Replace_eq stdL CC limLP a0 a1 a2 a3 H).trans (Eq.trans (show s_strings_Replace stdL.b.g stdL.c stdL.s Tryd.prog CC (fun v0 v1 v2 v10 v11 v52 v53 H k => loopL stdL Tryd.prog hints CC limLP F.strings_Replace 0 [(0, v0), (1, v1), (2, v2), (10, v10), (11, v11), (52, v52), (53, v53)] H k) (fun v0 v2 v10 v11 v77 v78 H k => loopL stdL Tryd.prog hints CC limLP F.strings_Replace 1 [(0, v0), (2, v2), (10, v10), (11, v11), (77, v77), (78, v78)] H k) a0 a1 a2 a3 H (endK Tryd.prog [.tmp 8]) = s_strings_Replace guardK condL shareL Tryd.prog CC l_strings_Replace_0 l_strings_Replace_1 a0 a1 a2 a3 H (endK Tryd.prog [.tmp 8]) by kernel_rfl) h))

noncomputable def l_slices_Reverse_byte_0 (v0 : Value) (v2 : Value) (v3 : Value) (H : AHeap) (k : K) : Res := loopL stdL Tryd.prog hints CC limLP F.slices_Reverse_byte 0 [(0, v0), (2, v2), (3, v3)] H k
theorem r_slices_Reverse_byte_0 (v0 : Value) (v2 : Value) (v3 : Value) (H : AHeap) (k : K) : l_slices_Reverse_byte_0 v0 v2 v3 H k = s_slices_Reverse_byte_b0 guardK condL shareL Tryd.prog CC l_slices_Reverse_byte_0 v0 v2 v3 H (seqK (fun T H => l_slices_Reverse_byte_0 (get T 0) (get T 2) (get T 3) H k) k) := ((loopL_next (by kernel_rfl) rfl H k).trans (s_slices_Reverse_byte_b0_eq stdL CC limLP v0 v2 v3 H _)).trans (by kernel_rfl)
theorem d_slices_Reverse_byte (a0 : Value) (H : AHeap) {r : Value × AHeap} (h : s_slices_Reverse_byte guardK condL shareL Tryd.prog CC l_slices_Reverse_byte_0 a0 H (endK Tryd.prog []) = some r) : CC F.slices_Reverse_byte [a0] H = some (tidy H r) := D_body (by kernel_rfl) ((s_slices_Reverse_byte_eq stdL CC limLP a0 H).trans (Eq.trans (show s_slices_Reverse_byte stdL.b.g stdL.c stdL.s Tryd.prog CC (fun v0 v2 v3 H k => loopL stdL Tryd.prog hints CC limLP F.slices_Reverse_byte 0 [(0, v0), (2, v2), (3, v3)] H k) a0 H (endK Tryd.prog []) = s_slices_Reverse_byte guardK condL shareL Tryd.prog CC l_slices_Reverse_byte_0 a0 H (endK Tryd.prog []) by kernel_rfl) h))

theorem d_internal_stringslite_IndexByte (a0 : Value) (a1 : Value) (H : AHeap) {r : Value × AHeap} (h : s_internal_stringslite_IndexByte guardK condL shareL Tryd.prog CC a0 a1 H (endK Tryd.prog [.tmp 4]) = some r) : CC F.internal_stringslite_IndexByte [a0, a1] H = some (tidy H r) := D_body (by kernel_rfl) ((s_internal_stringslite_IndexByte_eq stdL CC limLP a0 a1 H).trans (Eq.trans (show s_internal_stringslite_IndexByte stdL.b.g stdL.c stdL.s Tryd.prog CC a0 a1 H (endK Tryd.prog [.tmp 4]) = s_internal_stringslite_IndexByte guardK condL shareL Tryd.prog CC a0 a1 H (endK Tryd.prog [.tmp 4]) by kernel_rfl) h))

theorem d_internal_bytealg_Cutover (a0 : Value) (H : AHeap) {r : Value × AHeap} (h : s_internal_bytealg_Cutover guardK condL shareL Tryd.prog CC a0 H (endK Tryd.prog [.tmp 2]) = some r) : CC F.internal_bytealg_Cutover [a0] H = some (tidy H r) := D_body (by kernel_rfl) ((s_internal_bytealg_Cutover_eq stdL CC limLP a0 H).trans (Eq.trans (show s_internal_bytealg_Cutover stdL.b.g stdL.c stdL.s Tryd.prog CC a0 H (endK Tryd.prog [.tmp 2]) = s_internal_bytealg_Cutover guardK condL shareL Tryd.prog CC a0 H (endK Tryd.prog [.tmp 2]) by kernel_rfl) h))

noncomputable def l_internal_bytealg_IndexRabinKarp_string_0 (v0 : Value) (v1 : Value) (v5 : Value) (v6 : Value) (v7 : Value) (v8 : Value) (v9 : Value) (H : AHeap) (k : K) : Res := loopL stdL Tryd.prog hints CC limLP F.internal_bytealg_IndexRabinKarp_string 0 [(0, v0), (1, v1), (5, v5), (6, v6), (7, v7), (8, v8), (9, v9)] H k
noncomputable def l_internal_bytealg_IndexRabinKarp_string_1 (v0 : Value) (v1 : Value) (v5 : Value) (v6 : Value) (v7 : Value) (v8 : Value) (v10 : Value) (H : AHeap) (k : K) : Res := loopL stdL Tryd.prog hints CC limLP F.internal_bytealg_IndexRabinKarp_string 1 [(0, v0), (1, v1), (5, v5), (6, v6), (7, v7), (8, v8), (10, v10)] H k
theorem r_internal_bytealg_IndexRabinKarp_string_0 (v0 : Value) (v1 : Value) (v5 : Value) (v6 : Value) (v7 : Value) (v8 : Value) (v9 : Value) (H : AHeap) (k : K) : l_internal_bytealg_IndexRabinKarp_string_0 v0 v1 v5 v6 v7 v8 v9 H k = s_internal_bytealg_IndexRabinKarp_string_b0 guardK condL shareL Tryd.prog CC l_internal_bytealg_IndexRabinKarp_string_0 l_internal_bytealg_IndexRabinKarp_string_1 v0 v1 v5 v6 v7 v8 v9 H (seqK (fun T H => l_internal_bytealg_IndexRabinKarp_string_0 (get T 0) (get T 1) (get T 5) (get T 6) (get T 7) (get T 8) (get T 9) H k) k) := ((loopL_next (by kernel_rfl) rfl H k).trans (s_internal_bytealg_IndexRabinKarp_string_b0_eq stdL CC limLP v0 v1 v5 v6 v7 v8 v9 H _)).trans (by kernel_rfl)
theorem r_internal_bytealg_IndexRabinKarp_string_1 (v0 : Value) (v1 : Value) (v5 : Value) (v6 : Value) (v7 : Value) (v8 : Value) (v10 : Value) (H : AHeap) (k : K) : l_internal_bytealg_IndexRabinKarp_string_1 v0 v1 v5 v6 v7 v8 v10 H k = s_internal_bytealg_IndexRabinKarp_string_b1 guardK condL shareL Tryd.prog CC l_internal_bytealg_IndexRabinKarp_string_0 l_internal_bytealg_IndexRabinKarp_string_1 v0 v1 v5 v6 v7 v8 v10 H (seqK (fun T H => l_internal_bytealg_IndexRabinKarp_string_1 (get T 0) (get T 1) (get T 5) (get T 6) (get T 7) (get T 8) (get T 10) H k) k) := ((loopL_next (by kernel_rfl) rfl H k).trans (s_internal_bytealg_IndexRabinKarp_string_b1_eq stdL CC limLP v0 v1 v5 v6 v7 v8 v10 H _)).trans (by kernel_rfl)
theorem d_internal_bytealg_IndexRabinKarp_string (a0 : Value) (a1 : Value) (H : AHeap) {r : Value × AHeap} (h : s_internal_bytealg_IndexRabinKarp_string guardK condL shareL Tryd.prog CC l_internal_bytealg_IndexRabinKarp_string_0 l_internal_bytealg_IndexRabinKarp_string_1 a0 a1 H (endK Tryd.prog [.tmp 4]) = some r) : CC F.internal_bytealg_IndexRabinKarp_string [a0, a1] H = some (tidy H r) := D_body (by kernel_rfl) ((s_internal_bytealg_IndexRabinKarp_string_eq stdL CC limLP a0 a1 H).trans (Eq.trans (show s_internal_bytealg_IndexRabinKarp_string stdL.b.g stdL.c stdL.s Tryd.prog CC (fun v0 v1 v5 v6 v7 v8 v9 H k => loopL stdL Tryd.prog hints CC limLP F.internal_bytealg_IndexRabinKarp_string 0 [(0, v0), (1, v1), (5, v5), (6, v6), (7, v7), (8, v8), (9, v9)] H k) (fun v0 v1 v5 v6 v7 v8 v10 H k => loopL stdL Tryd.prog hints CC limLP F.internal_bytealg_IndexRabinKarp_string 1 [(0, v0), (1, v1), (5, v5), (6, v6), (7, v7), (8, v8), (10, v10)] H k) a0 a1 H (endK Tryd.prog [.tmp 4]) = s_internal_bytealg_IndexRabinKarp_string guardK condL shareL Tryd.prog CC l_internal_bytealg_IndexRabinKarp_string_0 l_internal_bytealg_IndexRabinKarp_string_1 a0 a1 H (endK Tryd.prog [.tmp 4]) by kernel_rfl) h))

noncomputable def l_strings_Count_0 (v0 : Value) (v1 : Value) (v5 : Value) (H : AHeap) (k : K) : Res := loopL stdL Tryd.prog hints CC limLP F.strings_Count 0 [(0, v0), (1, v1), (5, v5)] H k
theorem r_strings_Count_0 (v0 : Value) (v1 : Value) (v5 : Value) (H : AHeap) (k : K) : l_strings_Count_0 v0 v1 v5 H k = s_strings_Count_b0 guardK condL shareL Tryd.prog CC l_strings_Count_0 v0 v1 v5 H (seqK (fun T H => l_strings_Count_0 (get T 0) (get T 1) (get T 5) H k) k) := ((loopL_next (by kernel_rfl) rfl H k).trans (s_strings_Count_b0_eq stdL CC limLP v0 v1 v5 H _)).trans (by kernel_rfl)
theorem d_strings_Count (a0 : Value) (a1 : Value) (H : AHeap) {r : Value × AHeap} (h : s_strings_Count guardK condL shareL Tryd.prog CC l_strings_Count_0 a0 a1 H (endK Tryd.prog [.tmp 4]) = some r) : CC F.strings_Count [a0, a1] H = some (tidy H r) := D_body (by kernel_rfl) ((s_strings_Count_eq stdL CC limLP a0 a1 H).trans (Eq.trans (show s_strings_Count stdL.b.g stdL.c stdL.s Tryd.prog CC (fun v0 v1 v5 H k => loopL stdL Tryd.prog hints CC limLP F.strings_Count 0 [(0, v0), (1, v1), (5, v5)] H k) a0 a1 H (endK Tryd.prog [.tmp 4]) = s_strings_Count guardK condL shareL Tryd.prog CC l_strings_Count_0 a0 a1 H (endK Tryd.prog [.tmp 4]) by kernel_rfl) h))

theorem d_strings_Builder_Grow (a0 : Value) (a1 : Value) (H : AHeap) {r : Value × AHeap} (h : s_strings_Builder_Grow guardK condL shareL Tryd.prog CC a0 a1 H (endK Tryd.prog []) = some r) : CC F.strings_Builder_Grow [a0, a1] H = some (tidy H r) := D_body (by kernel_rfl) ((s_strings_Builder_Grow_eq stdL CC limLP a0 a1 H).trans (Eq.trans (show s_strings_Builder_Grow stdL.b.g stdL.c stdL.s Tryd.prog CC a0 a1 H (endK Tryd.prog []) = s_strings_Builder_Grow guardK condL shareL Tryd.prog CC a0 a1 H (endK Tryd.prog []) by kernel_rfl) h))

theorem d_strings_Builder_WriteString (a0 : Value) (a1 : Value) (H : AHeap) {r : Value × AHeap} (h : s_strings_Builder_WriteString guardK condL shareL Tryd.prog CC a0 a1 H (endK Tryd.prog [.tmp 4, .tmp 5]) = some r) : CC F.strings_Builder_WriteString [a0, a1] H = some (tidy H r) := D_body (by kernel_rfl) ((s_strings_Builder_WriteString_eq stdL CC limLP a0 a1 H).trans (Eq.trans (show s_strings_Builder_WriteString stdL.b.g stdL.c stdL.s Tryd.prog CC a0 a1 H (endK Tryd.prog [.tmp 4, .tmp 5]) = s_strings_Builder_WriteString guardK condL shareL Tryd.prog CC a0 a1 H (endK Tryd.prog [.tmp 4, .tmp 5]) by kernel_rfl) h))

theorem d_unicode_utf8_DecodeRuneInString (a0 : Value) (H : AHeap) {r : Value × AHeap} (h : s_unicode_utf8_DecodeRuneInString guardK condL shareL Tryd.prog CC a0 H (endK Tryd.prog [.tmp 2, .tmp 3]) = some r) : CC F.unicode_utf8_DecodeRuneInString [a0] H = some (tidy H r) := D_body (by kernel_rfl) ((s_unicode_utf8_DecodeRuneInString_eq stdL CC limLP a0 H).trans (Eq.trans (show s_unicode_utf8_DecodeRuneInString stdL.b.g stdL.c stdL.s Tryd.prog CC a0 H (endK Tryd.prog [.tmp 2, .tmp 3]) = s_unicode_utf8_DecodeRuneInString guardK condL shareL Tryd.prog CC a0 H (endK Tryd.prog [.tmp 2, .tmp 3]) by kernel_rfl) h))

theorem d_strings_Builder_String (a0 : Value) (H : AHeap) {r : Value × AHeap} (h : s_strings_Builder_String guardK condL shareL Tryd.prog CC a0 H (endK Tryd.prog [.tmp 2]) = some r) : CC F.strings_Builder_String [a0] H = some (tidy H r) := D_body (by kernel_rfl) ((s_strings_Builder_String_eq stdL CC limLP a0 H).trans (Eq.trans (show s_strings_Builder_String stdL.b.g stdL.c stdL.s Tryd.prog CC a0 H (endK Tryd.prog [.tmp 2]) = s_strings_Builder_String guardK condL shareL Tryd.prog CC a0 H (endK Tryd.prog [.tmp 2]) by kernel_rfl) h))

noncomputable def l_internal_bytealg_hashStr_string_0 (v0 : Value) (v4 : Value) (v5 : Value) (H : AHeap) (k : K) : Res := loopL stdL Tryd.prog hints CC limLP F.internal_bytealg_hashStr_string 0 [(0, v0), (4, v4), (5, v5)] H k
noncomputable def l_internal_bytealg_hashStr_string_1 (v4 : Value) (v6 : Value) (v7 : Value) (v8 : Value) (H : AHeap) (k : K) : Res := loopL stdL Tryd.prog hints CC limLP F.internal_bytealg_hashStr_string 1 [(4, v4), (6, v6), (7, v7), (8, v8)] H k
theorem r_internal_bytealg_hashStr_string_0 (v0 : Value) (v4 : Value) (v5 : Value) (H : AHeap) (k : K) : l_internal_bytealg_hashStr_string_0 v0 v4 v5 H k = s_internal_bytealg_hashStr_string_b0 guardK condL shareL Tryd.prog CC l_internal_bytealg_hashStr_string_0 l_internal_bytealg_hashStr_string_1 v0 v4 v5 H (seqK (fun T H => l_internal_bytealg_hashStr_string_0 (get T 0) (get T 4) (get T 5) H k) k) := ((loopL_next (by kernel_rfl) rfl H k).trans (s_internal_bytealg_hashStr_string_b0_eq stdL CC limLP v0 v4 v5 H _)).trans (by kernel_rfl)
theorem r_internal_bytealg_hashStr_string_1 (v4 : Value) (v6 : Value) (v7 : Value) (v8 : Value) (H : AHeap) (k : K) : l_internal_bytealg_hashStr_string_1 v4 v6 v7 v8 H k = s_internal_bytealg_hashStr_string_b1 guardK condL shareL Tryd.prog CC l_internal_bytealg_hashStr_string_0 l_internal_bytealg_hashStr_string_1 v4 v6 v7 v8 H (seqK (fun T H => l_internal_bytealg_hashStr_string_1 (get T 4) (get T 6) (get T 7) (get T 8) H k) k) := ((loopL_next (by kernel_rfl) rfl H k).trans (s_internal_bytealg_hashStr_string_b1_eq stdL CC limLP v4 v6 v7 v8 H _)).trans (by kernel_rfl)
theorem d_internal_bytealg_hashStr_string (a0 : Value) (H : AHeap) {r : Value × AHeap} (h : s_internal_bytealg_hashStr_string guardK condL shareL Tryd.prog CC l_internal_bytealg_hashStr_string_0 l_internal_bytealg_hashStr_string_1 a0 H (endK Tryd.prog [.tmp 2, .tmp 3]) = some r) : CC F.internal_bytealg_hashStr_string [a0] H = some (tidy H r) := D_body (by kernel_rfl) ((s_internal_bytealg_hashStr_string_eq stdL CC limLP a0 H).trans (Eq.trans (show s_internal_bytealg_hashStr_string stdL.b.g stdL.c stdL.s Tryd.prog CC (fun v0 v4 v5 H k => loopL stdL Tryd.prog hints CC limLP F.internal_bytealg_hashStr_string 0 [(0, v0), (4, v4), (5, v5)] H k) (fun v4 v6 v7 v8 H k => loopL stdL Tryd.prog hints CC limLP F.internal_bytealg_hashStr_string 1 [(4, v4), (6, v6), (7, v7), (8, v8)] H k) a0 H (endK Tryd.prog [.tmp 2, .tmp 3]) = s_internal_bytealg_hashStr_string guardK condL shareL Tryd.prog CC l_internal_bytealg_hashStr_string_0 l_internal_bytealg_hashStr_string_1 a0 H (endK Tryd.prog [.tmp 2, .tmp 3]) by kernel_rfl) h))

theorem d_strings_Builder_grow (a0 : Value) (a1 : Value) (H : AHeap) {r : Value × AHeap} (h : s_strings_Builder_grow guardK condL shareL Tryd.prog CC a0 a1 H (endK Tryd.prog []) = some r) : CC F.strings_Builder_grow [a0, a1] H = some (tidy H r) := D_body (by kernel_rfl) ((s_strings_Builder_grow_eq stdL CC limLP a0 a1 H).trans (Eq.trans (show s_strings_Builder_grow stdL.b.g stdL.c stdL.s Tryd.prog CC a0 a1 H (endK Tryd.prog []) = s_strings_Builder_grow guardK condL shareL Tryd.prog CC a0 a1 H (endK Tryd.prog []) by kernel_rfl) h))

theorem d_unicode_utf8_decodeRuneInStringSlow (a0 : Value) (H : AHeap) {r : Value × AHeap} (h : s_unicode_utf8_decodeRuneInStringSlow guardK condL shareL Tryd.prog CC a0 H (endK Tryd.prog [.tmp 2, .tmp 3]) = some r) : CC F.unicode_utf8_decodeRuneInStringSlow [a0] H = some (tidy H r) := D_body (by kernel_rfl) ((s_unicode_utf8_decodeRuneInStringSlow_eq stdL CC limLP a0 H).trans (Eq.trans (show s_unicode_utf8_decodeRuneInStringSlow stdL.b.g stdL.c stdL.s Tryd.prog CC a0 H (endK Tryd.prog [.tmp 2, .tmp 3]) = s_unicode_utf8_decodeRuneInStringSlow guardK condL shareL Tryd.prog CC a0 H (endK Tryd.prog [.tmp 2, .tmp 3]) by kernel_rfl) h))

theorem d_gosem_cut_vars (H : AHeap) {r : Value × AHeap} (h : s_gosem_cut_vars guardK condL shareL Tryd.prog CC H (endK Tryd.prog []) = some r) : CC F.gosem_cut_vars [] H = some (tidy H r) := D_body (by kernel_rfl) ((s_gosem_cut_vars_eq stdL CC limLP H).trans (Eq.trans (show s_gosem_cut_vars stdL.b.g stdL.c stdL.s Tryd.prog CC H (endK Tryd.prog []) = s_gosem_cut_vars guardK condL shareL Tryd.prog CC H (endK Tryd.prog []) by kernel_rfl) h))

end Go.Proofs.YtlmhioanjmhaiaaDoor

/-
  The engine, part 33: rows with laid variables: the wrap that keeps the world's shape; arguments that are structs.
  Conditions: none. By an AI agent.
-/
namespace Go.Proofs.YtlmhioanjmhaiaaDoor.Eng
open Go
set_option linter.unusedVariables false
set_option linter.unusedSimpArgs false

section
variable {H : Type} {enc : TypeId × Value → H}
/-- returnsInHanded_of_change_and, the world's shape kept. -/
theorem wrapX {a : Assume} {C : Checked} {os : Os} {f : FuncId} {fn : Func} {s : ChangeSpec} {conds : List PathCond} {apart fresh handsOn again : Bool} {X : World → Array Value → Prop}
    (hX : ∀ (w w' : World) (args : Array Value), w.heap = w'.heap → X w args → X w' args)
    (own : ownKnob C.prog.godebug = none) (started : os.Started) (noInit : C.prog.inits.idxOf? f = none) (hfn : C.prog.funcs[f]? = some fn)
    (witness : ∃ (w : World) (tape : Tape) (i : Input), w.os = os ∧ (w.forCall tape i).Shaped C.prog ∧ i.vars = [] ∧ Input.okWide C.prog (w.forCall tape i) .any w.heap.size f i ∧
      ((s.pre enc C.prog fn conds apart (w.forCall tape i).memory i.args ∧ X (w.forCall tape i).memory i.args) ∧ sizedMet enc C.prog fn (OpenSpec.ofChange s) apart (w.forCall tape i).memory i.args) ∧ a.holds C.prog (lone (Frame.enter C.prog f i.args .normal) [] (w.forCall tape i)))
    (contract : ∀ (W : World) (base : Nat) (args : Array Value) (ds gs : List (DataW H)) (before : List MemPlace),
      (∀ (j : Nat) t v, fn.params[j]? = some t → args[j]? = some v → Value.okWide C.prog W .any base t v) →
      DataW.Whole enc C.prog fn.params.toList s.vars apart W args.toList ds gs before →
      (DataW.weightsEach C.prog (fn.params.toList ++ s.plain.varTypes C.prog) (ds ++ gs)).all (· ≤ reachBytes) = true →
      W.ShapedOpen C.prog →
      Calls C.prog f args W fun e W' => ∃ v, e = .returned v ∧ s.post enc C.prog fn apart fresh handsOn again W args v W') :
    ReturnsInHanded a C os f .any (fun w args => (s.pre enc C.prog fn conds apart w args ∧ X w args) ∧ sizedMet enc C.prog fn (OpenSpec.ofChange s) apart w args) (s.post enc C.prog fn apart fresh handsOn again) := by
  refine returnsInHanded_of_calls own started noInit witness ?_
  intro w tape i _ hsh _ hok hpre _
  obtain ⟨_, _, _, fn', hfn', _, _, _, _, hval⟩ := hok
  have e : fn' = fn := Option.some.inj (hfn'.symm.trans hfn)
  subst e
  obtain ⟨⟨⟨ds, gs, before, hw, hc⟩, hx⟩, hz⟩ := hpre
  have hw' := DataW.Whole.of_heap (w' := w.forCall tape i) (by rfl) hw
  refine (contract (w.forCall tape i) w.heap.size i.args ds gs before hval hw' (hz.weights hw) hsh).mono fun e W' ⟨v, he, hp⟩ => ?_
  subst he
  exact ChangeSpec.post_blind hp
end

section
variable {P : Program} {W : World} {α : Type} {E : Enc α} {R : α → Prop} {H : Type} {enc : TypeId × Value → H}

theorem pos_of_has {r : Reach} {base : Nat} {a : Addr} {e : TypeId} {n : Nat} (h : W.has P r base a e n) : 0 < W.heap.size := by
  obtain ⟨_, _, row, cells, hshape, _⟩ := h
  unfold World.shape? at hshape
  split at hshape
  · rename_i hw; have := (Array.getElem?_eq_some_iff.1 hw).1; omega
  · cases hshape
theorem pos_of_cell {r : Reach} {base : Nat} {u : TypeId} {a : Addr} {len cap : Nat} (h : Cell.okWide P W r base u (.slice (some a) len cap)) : 0 < W.heap.size := by
  unfold Cell.okWide at h
  split at h
  all_goals first
    | (rename_i h1 h2; cases h2)
    | skip
  unfold Cell.ok at h
  split at h
  all_goals first
    | (rename_i h1 h2; cases h2; exact pos_of_has h.2.2)
    | (rename_i h1 h2; cases h2)
    | exact h.elim

/-- An argument that is a struct. -/
theorem open_agg2 {t : TypeId} {v : Value} {d : DataW H} {p : List MemPlace} {fs : Array Field} (ht : P.underlying t = some (.struct fs)) (hC : P.cellsOf t = E.w)
    (dec : ∀ cs n y, (0 < W.heap.size ∨ ∀ c, c ∈ cs → ∀ a, c ≠ .slice (some a) 0 0) → DataW.trod enc P W 0 (fun _ => true) true n t cs = some y → cs.length = E.w → ∃ a, cs.map (conv2 W.heap.size) = E.enc a ∧ R a)
    (hval : Value.okWide P W .any 0 t v) (h : DataW.Trod enc P W 0 (fun _ => true) true t v d p) :
    ∃ a : α, convA2 W.heap.size v = .agg ⟨E.enc a⟩ ∧ R a := by
  simp only [Value.okWide, ht] at hval
  obtain ⟨cs, rfl, hsz, ts, _, _, hall⟩ := hval
  obtain ⟨fuel, hf⟩ := h
  have hf : DataW.trod enc P W 0 (fun _ => true) true fuel t cs.toList = some (d, p) := hf
  obtain ⟨a, ha, hR⟩ := dec cs.toList fuel _ (by
    by_cases hp : 0 < W.heap.size
    · exact .inl hp
    · refine .inr fun c hc a e => hp ?_
      subst e
      obtain ⟨i, hi, he⟩ := List.getElem_of_mem hc
      obtain ⟨u, _, hu⟩ := hall i (.slice (some a) 0 0) (by rw [← Array.getElem?_toList, List.getElem?_eq_getElem hi, he])
      exact pos_of_cell hu) hf (by rw [Array.length_toList, hsz, hC])
  refine ⟨a, ?_, hR⟩
  show Value.agg (cs.map (conv2 W.heap.size)) = _
  rw [← ha]
  congr 1
  apply Array.toList_inj.1
  simp
end

end Go.Proofs.YtlmhioanjmhaiaaDoor.Eng

/-
  Chapter 40: cells, their order, lists of them.
  Conditions: none. By an AI agent.
-/
set_option maxRecDepth 10000
set_option linter.unusedSimpArgs false
set_option linter.unusedVariables false
namespace Go.Proofs.YtlmhioanjmhaiaaDoor
open Go Eng

theorem k_known (H : AHeap) : CC F.law_known [] H = some (.bool true, H) := D_prim (show prims1 F.law_known = some trueP by kernel_rfl) rfl
@[go_sem, go_sem ↓] theorem e_known {H : AHeap} {k : Value → AHeap → Res} : enterK CC F.law_known [] H k = k (.bool true) H := enterK_eq (k_known H)
@[go_sem] theorem bool_ne {ox oy : Operand} {a b : Bool} : xbin Tryd.prog .neq T.bool ox oy (.bool a) (.bool b) = some (.bool (a != b)) := by
  cases a <;> cases b <;> kernel_rfl
theorem bool_eq' {ox oy : Operand} {a b : Bool} : xbin Tryd.prog .eql T.bool ox oy (.bool a) (.bool b) = some (.bool (a == b)) := by
  cases a <;> cases b <;> kernel_rfl
theorem drop_cons {α : Type} {l : List α} {i : Nat} {a : α} {x : List α} (h : l.drop i = a :: x) : ∃ h : i < l.length, l[i] = a ∧ l.drop (i + 1) = x := by
  have hlt : i < l.length := by
    rcases Nat.lt_or_ge i l.length with h1 | h1
    · exact h1
    · rw [List.drop_eq_nil_of_le h1] at h; cases h
  rw [List.drop_eq_getElem_cons hlt] at h
  exact ⟨hlt, (List.cons.inj h).1, (List.cons.inj h).2⟩

structure Cl where
  kind : Int
  u : Int
  i : Int
  s : ByteArray
  b : Bool
  deriving DecidableEq
def Cl.l (a : Cl) : List Value := [.int .i64 a.kind, .int .u64 a.u, .int .i64 a.i, .string a.s, .bool a.b]
def ECl : Enc Cl := ⟨5, Cl.l, fun _ => rfl, by decide, fun _ => rfl⟩

/-! ### cmp.Compare -/
def c3 (less more : Bool) : Int := if less = true then -1 else if more = true then 1 else 0
theorem q_nanU (a : Int) (H : AHeap) : CC F.cmp_isNaN_uint64 [.int .u64 a] H = some (.bool false, H) := by
  apply pure_of _ (d_cmp_isNaN_uint64 _ H) rfl
  rotate_left 2
  · simp (disch := first | with_reducible rfl | assumption | omega | rfl | (simp only [go_sem]; first | done | omega)) only [go_sem, ↓reduceIte, reduceCtorEq, Nat.reduceEqDiff, Nat.reduceAdd, Nat.reduceSub, Nat.reduceMul, Nat.reduceDiv, Nat.reduceMod, Nat.reduceLeDiff, Nat.reduceLT, Nat.reduceBEq, Int.reduceEq, Int.reduceBEq, Int.reduceBNe, Int.reduceLT, Int.reduceLE, Int.reduceAdd, Int.reduceSub, Int.reduceNeg, Int.reduceToNat, Int.reducePow, Nat.reducePow, Int.reduceMul, Int.reduceDiv, ↓s_cmp_isNaN_uint64]
    rfl
  · (repeat (first | exact Fr.refl _ | refine Fr.push ?_ _ | refine Fr.set ?_ _ _ (by intro h; first | omega | (simp only [go_sem] at h; omega))))
theorem q_nanI (a : Int) (H : AHeap) : CC F.cmp_isNaN_int [.int .i64 a] H = some (.bool false, H) := by
  apply pure_of _ (d_cmp_isNaN_int _ H) rfl
  rotate_left 2
  · simp (disch := first | with_reducible rfl | assumption | omega | rfl | (simp only [go_sem]; first | done | omega)) only [go_sem, ↓reduceIte, reduceCtorEq, Nat.reduceEqDiff, Nat.reduceAdd, Nat.reduceSub, Nat.reduceMul, Nat.reduceDiv, Nat.reduceMod, Nat.reduceLeDiff, Nat.reduceLT, Nat.reduceBEq, Int.reduceEq, Int.reduceBEq, Int.reduceBNe, Int.reduceLT, Int.reduceLE, Int.reduceAdd, Int.reduceSub, Int.reduceNeg, Int.reduceToNat, Int.reducePow, Nat.reducePow, Int.reduceMul, Int.reduceDiv, ↓s_cmp_isNaN_int]
    rfl
  · (repeat (first | exact Fr.refl _ | refine Fr.push ?_ _ | refine Fr.set ?_ _ _ (by intro h; first | omega | (simp only [go_sem] at h; omega))))
theorem q_nanS (a : ByteArray) (H : AHeap) : CC F.cmp_isNaN_string [.string a] H = some (.bool false, H) := by
  apply pure_of _ (d_cmp_isNaN_string _ H) rfl
  rotate_left 2
  · simp (disch := first | with_reducible rfl | assumption | omega | rfl | (simp only [go_sem]; first | done | omega)) only [go_sem, ↓reduceIte, reduceCtorEq, Nat.reduceEqDiff, Nat.reduceAdd, Nat.reduceSub, Nat.reduceMul, Nat.reduceDiv, Nat.reduceMod, Nat.reduceLeDiff, Nat.reduceLT, Nat.reduceBEq, Int.reduceEq, Int.reduceBEq, Int.reduceBNe, Int.reduceLT, Int.reduceLE, Int.reduceAdd, Int.reduceSub, Int.reduceNeg, Int.reduceToNat, Int.reducePow, Nat.reducePow, Int.reduceMul, Int.reduceDiv, ↓s_cmp_isNaN_string]
    rfl
  · (repeat (first | exact Fr.refl _ | refine Fr.push ?_ _ | refine Fr.set ?_ _ _ (by intro h; first | omega | (simp only [go_sem] at h; omega))))
theorem q_cmpU (a b : Int) (H : AHeap) : CC F.cmp_Compare_uint64 [.int .u64 a, .int .u64 b] H = some (.int .i64 (c3 (decide (a < b)) (decide (b < a))), H) := by
  have h1 := q_nanU a H
  have h2 := q_nanU b H
  unfold c3
  by_cases h : a < b
  · apply pure_of _ (d_cmp_Compare_uint64 _ _ H) rfl
    rotate_left 2
    · simp (disch := first | with_reducible rfl | assumption | omega | rfl | (simp only [go_sem]; first | done | omega)) only [go_sem, ↓reduceIte, reduceCtorEq, Nat.reduceEqDiff, Nat.reduceAdd, Nat.reduceSub, Nat.reduceMul, Nat.reduceDiv, Nat.reduceMod, Nat.reduceLeDiff, Nat.reduceLT, Nat.reduceBEq, Int.reduceEq, Int.reduceBEq, Int.reduceBNe, Int.reduceLT, Int.reduceLE, Int.reduceAdd, Int.reduceSub, Int.reduceNeg, Int.reduceToNat, Int.reducePow, Nat.reducePow, Int.reduceMul, Int.reduceDiv, ↓s_cmp_Compare_uint64, enterK_eq h1, enterK_eq h2, h]
      rfl
    · (repeat (first | exact Fr.refl _ | refine Fr.push ?_ _ | refine Fr.set ?_ _ _ (by intro h; first | omega | (simp only [go_sem] at h; omega))))
  · by_cases h' : b < a
    · apply pure_of _ (d_cmp_Compare_uint64 _ _ H) rfl
      rotate_left 2
      · simp (disch := first | with_reducible rfl | assumption | omega | rfl | (simp only [go_sem]; first | done | omega)) only [go_sem, ↓reduceIte, reduceCtorEq, Nat.reduceEqDiff, Nat.reduceAdd, Nat.reduceSub, Nat.reduceMul, Nat.reduceDiv, Nat.reduceMod, Nat.reduceLeDiff, Nat.reduceLT, Nat.reduceBEq, Int.reduceEq, Int.reduceBEq, Int.reduceBNe, Int.reduceLT, Int.reduceLE, Int.reduceAdd, Int.reduceSub, Int.reduceNeg, Int.reduceToNat, Int.reducePow, Nat.reducePow, Int.reduceMul, Int.reduceDiv, ↓s_cmp_Compare_uint64, enterK_eq h1, enterK_eq h2, h, h']
        rfl
      · (repeat (first | exact Fr.refl _ | refine Fr.push ?_ _ | refine Fr.set ?_ _ _ (by intro h; first | omega | (simp only [go_sem] at h; omega))))
    · apply pure_of _ (d_cmp_Compare_uint64 _ _ H) rfl
      rotate_left 2
      · simp (disch := first | with_reducible rfl | assumption | omega | rfl | (simp only [go_sem]; first | done | omega)) only [go_sem, ↓reduceIte, reduceCtorEq, Nat.reduceEqDiff, Nat.reduceAdd, Nat.reduceSub, Nat.reduceMul, Nat.reduceDiv, Nat.reduceMod, Nat.reduceLeDiff, Nat.reduceLT, Nat.reduceBEq, Int.reduceEq, Int.reduceBEq, Int.reduceBNe, Int.reduceLT, Int.reduceLE, Int.reduceAdd, Int.reduceSub, Int.reduceNeg, Int.reduceToNat, Int.reducePow, Nat.reducePow, Int.reduceMul, Int.reduceDiv, ↓s_cmp_Compare_uint64, enterK_eq h1, enterK_eq h2, h, h']
        rfl
      · (repeat (first | exact Fr.refl _ | refine Fr.push ?_ _ | refine Fr.set ?_ _ _ (by intro h; first | omega | (simp only [go_sem] at h; omega))))
theorem q_cmpI (a b : Int) (H : AHeap) : CC F.cmp_Compare_int [.int .i64 a, .int .i64 b] H = some (.int .i64 (c3 (decide (a < b)) (decide (b < a))), H) := by
  have h1 := q_nanI a H
  have h2 := q_nanI b H
  unfold c3
  by_cases h : a < b
  · apply pure_of _ (d_cmp_Compare_int _ _ H) rfl
    rotate_left 2
    · simp (disch := first | with_reducible rfl | assumption | omega | rfl | (simp only [go_sem]; first | done | omega)) only [go_sem, ↓reduceIte, reduceCtorEq, Nat.reduceEqDiff, Nat.reduceAdd, Nat.reduceSub, Nat.reduceMul, Nat.reduceDiv, Nat.reduceMod, Nat.reduceLeDiff, Nat.reduceLT, Nat.reduceBEq, Int.reduceEq, Int.reduceBEq, Int.reduceBNe, Int.reduceLT, Int.reduceLE, Int.reduceAdd, Int.reduceSub, Int.reduceNeg, Int.reduceToNat, Int.reducePow, Nat.reducePow, Int.reduceMul, Int.reduceDiv, ↓s_cmp_Compare_int, enterK_eq h1, enterK_eq h2, h]
      rfl
    · (repeat (first | exact Fr.refl _ | refine Fr.push ?_ _ | refine Fr.set ?_ _ _ (by intro h; first | omega | (simp only [go_sem] at h; omega))))
  · by_cases h' : b < a
    · apply pure_of _ (d_cmp_Compare_int _ _ H) rfl
      rotate_left 2
      · simp (disch := first | with_reducible rfl | assumption | omega | rfl | (simp only [go_sem]; first | done | omega)) only [go_sem, ↓reduceIte, reduceCtorEq, Nat.reduceEqDiff, Nat.reduceAdd, Nat.reduceSub, Nat.reduceMul, Nat.reduceDiv, Nat.reduceMod, Nat.reduceLeDiff, Nat.reduceLT, Nat.reduceBEq, Int.reduceEq, Int.reduceBEq, Int.reduceBNe, Int.reduceLT, Int.reduceLE, Int.reduceAdd, Int.reduceSub, Int.reduceNeg, Int.reduceToNat, Int.reducePow, Nat.reducePow, Int.reduceMul, Int.reduceDiv, ↓s_cmp_Compare_int, enterK_eq h1, enterK_eq h2, h, h']
        rfl
      · (repeat (first | exact Fr.refl _ | refine Fr.push ?_ _ | refine Fr.set ?_ _ _ (by intro h; first | omega | (simp only [go_sem] at h; omega))))
    · apply pure_of _ (d_cmp_Compare_int _ _ H) rfl
      rotate_left 2
      · simp (disch := first | with_reducible rfl | assumption | omega | rfl | (simp only [go_sem]; first | done | omega)) only [go_sem, ↓reduceIte, reduceCtorEq, Nat.reduceEqDiff, Nat.reduceAdd, Nat.reduceSub, Nat.reduceMul, Nat.reduceDiv, Nat.reduceMod, Nat.reduceLeDiff, Nat.reduceLT, Nat.reduceBEq, Int.reduceEq, Int.reduceBEq, Int.reduceBNe, Int.reduceLT, Int.reduceLE, Int.reduceAdd, Int.reduceSub, Int.reduceNeg, Int.reduceToNat, Int.reducePow, Nat.reducePow, Int.reduceMul, Int.reduceDiv, ↓s_cmp_Compare_int, enterK_eq h1, enterK_eq h2, h, h']
        rfl
      · (repeat (first | exact Fr.refl _ | refine Fr.push ?_ _ | refine Fr.set ?_ _ _ (by intro h; first | omega | (simp only [go_sem] at h; omega))))
def lsS (a b : ByteArray) : Bool := Op.bytesLess (bl a) (bl b)
def gtS (a b : ByteArray) : Bool := !(Op.bytesLess (bl a) (bl b) || bl a == bl b)
theorem x_lsS {t : TypeId} {ox oy : Operand} {a b : ByteArray} : xbin Tryd.prog .lss t ox oy (.string a) (.string b) = some (.bool (lsS a b)) := rfl
theorem x_gtS {t : TypeId} {ox oy : Operand} {a b : ByteArray} : xbin Tryd.prog .gtr t ox oy (.string a) (.string b) = some (.bool (gtS a b)) := rfl
theorem q_cmpS (a b : ByteArray) (H : AHeap) : CC F.cmp_Compare_string [.string a, .string b] H = some (.int .i64 (c3 (lsS a b) (gtS a b)), H) := by
  have h1 := q_nanS a H
  have h2 := q_nanS b H
  have e1 : ∀ t ox oy, xbin Tryd.prog .lss t ox oy (.string a) (.string b) = some (.bool (lsS a b)) := fun _ _ _ => x_lsS
  have e2 : ∀ t ox oy, xbin Tryd.prog .gtr t ox oy (.string a) (.string b) = some (.bool (gtS a b)) := fun _ _ _ => x_gtS
  unfold c3
  generalize lsS a b = l at e1
  generalize gtS a b = g at e2
  cases l with
  | true =>
    apply pure_of _ (d_cmp_Compare_string _ _ H) rfl
    rotate_left 2
    · simp (disch := first | with_reducible rfl | assumption | omega | rfl | (simp only [go_sem]; first | done | omega)) only [go_sem, ↓reduceIte, reduceCtorEq, Nat.reduceEqDiff, Nat.reduceAdd, Nat.reduceSub, Nat.reduceMul, Nat.reduceDiv, Nat.reduceMod, Nat.reduceLeDiff, Nat.reduceLT, Nat.reduceBEq, Int.reduceEq, Int.reduceBEq, Int.reduceBNe, Int.reduceLT, Int.reduceLE, Int.reduceAdd, Int.reduceSub, Int.reduceNeg, Int.reduceToNat, Int.reducePow, Nat.reducePow, Int.reduceMul, Int.reduceDiv, ↓s_cmp_Compare_string, enterK_eq h1, enterK_eq h2, e1]
      rfl
    · (repeat (first | exact Fr.refl _ | refine Fr.push ?_ _ | refine Fr.set ?_ _ _ (by intro h; first | omega | (simp only [go_sem] at h; omega))))
  | false =>
    cases g with
    | true =>
      apply pure_of _ (d_cmp_Compare_string _ _ H) rfl
      rotate_left 2
      · simp (disch := first | with_reducible rfl | assumption | omega | rfl | (simp only [go_sem]; first | done | omega)) only [go_sem, ↓reduceIte, reduceCtorEq, Nat.reduceEqDiff, Nat.reduceAdd, Nat.reduceSub, Nat.reduceMul, Nat.reduceDiv, Nat.reduceMod, Nat.reduceLeDiff, Nat.reduceLT, Nat.reduceBEq, Int.reduceEq, Int.reduceBEq, Int.reduceBNe, Int.reduceLT, Int.reduceLE, Int.reduceAdd, Int.reduceSub, Int.reduceNeg, Int.reduceToNat, Int.reducePow, Nat.reducePow, Int.reduceMul, Int.reduceDiv, ↓s_cmp_Compare_string, enterK_eq h1, enterK_eq h2, e1, e2]
        rfl
      · (repeat (first | exact Fr.refl _ | refine Fr.push ?_ _ | refine Fr.set ?_ _ _ (by intro h; first | omega | (simp only [go_sem] at h; omega))))
    | false =>
      apply pure_of _ (d_cmp_Compare_string _ _ H) rfl
      rotate_left 2
      · simp (disch := first | with_reducible rfl | assumption | omega | rfl | (simp only [go_sem]; first | done | omega)) only [go_sem, ↓reduceIte, reduceCtorEq, Nat.reduceEqDiff, Nat.reduceAdd, Nat.reduceSub, Nat.reduceMul, Nat.reduceDiv, Nat.reduceMod, Nat.reduceLeDiff, Nat.reduceLT, Nat.reduceBEq, Int.reduceEq, Int.reduceBEq, Int.reduceBNe, Int.reduceLT, Int.reduceLE, Int.reduceAdd, Int.reduceSub, Int.reduceNeg, Int.reduceToNat, Int.reducePow, Nat.reducePow, Int.reduceMul, Int.reduceDiv, ↓s_cmp_Compare_string, enterK_eq h1, enterK_eq h2, e1, e2]
        rfl
      · (repeat (first | exact Fr.refl _ | refine Fr.push ?_ _ | refine Fr.set ?_ _ _ (by intro h; first | omega | (simp only [go_sem] at h; omega))))

/-! ### lists of cells -/
theorem bl_inj {a b : ByteArray} (h : bl a = bl b) : a = b := Eng.bl_inj h
theorem cell_ne {ox oy : Operand} {a b : Cl} : xbin Tryd.prog .neq T.api_Cell ox oy (.agg ⟨a.l⟩) (.agg ⟨b.l⟩) = some (.bool (!decide (a = b))) := by
  have h := agg_ne (P := Tryd.prog) (t := T.api_Cell) (xs := a.l) (ys := b.l) (ox := ox) (oy := oy) Tryd.underlying44 (by kernel_rfl) (by kernel_rfl) (by kernel_rfl) rfl rfl
  rw [h]
  have e : ceqs a.l b.l = decide (a = b) := by
    obtain ⟨k1, u1, i1, s1, b1⟩ := a
    obtain ⟨k2, u2, i2, s2, b2⟩ := b
    have hs : (bl s1 = bl s2) = (s1 = s2) := propext ⟨fun h => Eng.bl_inj h, fun h => by rw [h]⟩
    simp only [Cl.l, ceqs, ceq, Cl.mk.injEq]
    apply Bool.eq_iff_iff.2
    simp [hs]
  rw [e]

end Go.Proofs.YtlmhioanjmhaiaaDoor

/-
  Chapter 40: Compare, order, equal lists, small.
  Conditions: none. By an AI agent.
-/
set_option maxRecDepth 10000
set_option linter.unusedSimpArgs false
set_option linter.unusedVariables false
namespace Go.Proofs.YtlmhioanjmhaiaaDoor
open Go Eng

def cmpC (a b : Cl) : Int :=
  if a.kind = b.kind then
    if a.kind = 1 then c3 (decide (a.u < b.u)) (decide (b.u < a.u))
    else if a.kind = 2 then c3 (decide (a.i < b.i)) (decide (b.i < a.i))
    else if a.kind = 3 then c3 (lsS a.s b.s) (gtS a.s b.s)
    else if a.kind = 4 then c3 (!a.b && b.b) (a.b && !b.b) else 0
  else 0

theorem q_Compare (a b : Cl) (H : AHeap) : CC F.rows_Compare [.agg ⟨a.l⟩, .agg ⟨b.l⟩] H = some (.int .i64 (cmpC a b), H) := by
  obtain ⟨k1, u1, i1, s1, b1⟩ := a
  obtain ⟨k2, u2, i2, s2, b2⟩ := b
  obtain ⟨H1, hH1⟩ : ∃ H1, H.push (.cells [.int .i64 k1, .int .u64 u1, .int .i64 i1, .string s1, .bool b1] T.api_Cell true) = H1 := ⟨_, rfl⟩
  obtain ⟨H2, hH2⟩ : ∃ H2, H1.push (.cells [.int .i64 k2, .int .u64 u2, .int .i64 i2, .string s2, .bool b2] T.api_Cell true) = H2 := ⟨_, rfl⟩
  have sA : Still H H1 := by rw [← hH1]; exact (Fr.refl H).push _
  have sB : Still H1 H2 := by rw [← hH2]; exact (Fr.refl H1).push _
  have nA : H.n < H1.n := by rw [← hH1]; exact Nat.lt_succ_self _
  have fA : H2.f H.n = .cells [.int .i64 k1, .int .u64 u1, .int .i64 i1, .string s1, .bool b1] T.api_Cell true := by
    rw [sB.f nA fun h => h, ← hH1]; exact push_f_eq rfl
  have fB : H2.f H1.n = .cells [.int .i64 k2, .int .u64 u2, .int .i64 i2, .string s2, .bool b2] T.api_Cell true := by rw [← hH2]; exact push_f_eq rfl
  have c1 := q_cmpU u1 u2 H2
  have c2 := q_cmpI i1 i2 H2
  have c3' := q_cmpS s1 s2 H2
  unfold cmpC Cl.l
  dsimp only
  by_cases hk : k1 = k2
  · subst hk
    rw [if_pos rfl]
    by_cases h1 : k1 = 1
    · subst h1
      rw [if_pos rfl]
      apply pure_of _ (d_rows_Compare _ _ H) rfl
      rotate_left 2
      · simp (disch := first | with_reducible rfl | assumption | omega | rfl | (simp only [go_sem]; first | done | omega)) only [go_sem, ↓reduceIte, reduceCtorEq, Nat.reduceEqDiff, Nat.reduceAdd, Nat.reduceSub, Nat.reduceMul, Nat.reduceDiv, Nat.reduceMod, Nat.reduceLeDiff, Nat.reduceLT, Nat.reduceBEq, Int.reduceEq, Int.reduceBEq, Int.reduceBNe, Int.reduceLT, Int.reduceLE, Int.reduceAdd, Int.reduceSub, Int.reduceNeg, Int.reduceToNat, Int.reducePow, Nat.reducePow, Int.reduceMul, Int.reduceDiv, ↓s_rows_Compare, hH1, hH2, fA, fB, enterK_eq c1]
        rfl
      · exact sA.trans sB
    rw [if_neg h1]
    by_cases h2 : k1 = 2
    · subst h2
      rw [if_pos rfl]
      apply pure_of _ (d_rows_Compare _ _ H) rfl
      rotate_left 2
      · simp (disch := first | with_reducible rfl | assumption | omega | rfl | (simp only [go_sem]; first | done | omega)) only [go_sem, ↓reduceIte, reduceCtorEq, Nat.reduceEqDiff, Nat.reduceAdd, Nat.reduceSub, Nat.reduceMul, Nat.reduceDiv, Nat.reduceMod, Nat.reduceLeDiff, Nat.reduceLT, Nat.reduceBEq, Int.reduceEq, Int.reduceBEq, Int.reduceBNe, Int.reduceLT, Int.reduceLE, Int.reduceAdd, Int.reduceSub, Int.reduceNeg, Int.reduceToNat, Int.reducePow, Nat.reducePow, Int.reduceMul, Int.reduceDiv, ↓s_rows_Compare, hH1, hH2, fA, fB, enterK_eq c2]
        rfl
      · exact sA.trans sB
    rw [if_neg h2]
    by_cases h3 : k1 = 3
    · subst h3
      rw [if_pos rfl]
      apply pure_of _ (d_rows_Compare _ _ H) rfl
      rotate_left 2
      · simp (disch := first | with_reducible rfl | assumption | omega | rfl | (simp only [go_sem]; first | done | omega)) only [go_sem, ↓reduceIte, reduceCtorEq, Nat.reduceEqDiff, Nat.reduceAdd, Nat.reduceSub, Nat.reduceMul, Nat.reduceDiv, Nat.reduceMod, Nat.reduceLeDiff, Nat.reduceLT, Nat.reduceBEq, Int.reduceEq, Int.reduceBEq, Int.reduceBNe, Int.reduceLT, Int.reduceLE, Int.reduceAdd, Int.reduceSub, Int.reduceNeg, Int.reduceToNat, Int.reducePow, Nat.reducePow, Int.reduceMul, Int.reduceDiv, ↓s_rows_Compare, hH1, hH2, fA, fB, enterK_eq c3']
        rfl
      · exact sA.trans sB
    rw [if_neg h3]
    by_cases h4 : k1 = 4
    · subst h4
      rw [if_pos rfl]
      cases b1 <;> cases b2 <;>
      · apply pure_of _ (d_rows_Compare _ _ H) rfl
        rotate_left 2
        · simp (disch := first | with_reducible rfl | assumption | omega | rfl | (simp only [go_sem]; first | done | omega)) only [go_sem, ↓reduceIte, reduceCtorEq, Nat.reduceEqDiff, Nat.reduceAdd, Nat.reduceSub, Nat.reduceMul, Nat.reduceDiv, Nat.reduceMod, Nat.reduceLeDiff, Nat.reduceLT, Nat.reduceBEq, Int.reduceEq, Int.reduceBEq, Int.reduceBNe, Int.reduceLT, Int.reduceLE, Int.reduceAdd, Int.reduceSub, Int.reduceNeg, Int.reduceToNat, Int.reducePow, Nat.reducePow, Int.reduceMul, Int.reduceDiv, ↓s_rows_Compare, hH1, hH2, fA, fB, bool_eq', beq_self_eq_true, Bool.true_beq, Bool.false_beq, Bool.not_true, Bool.not_false]
          rfl
        · exact sA.trans sB
    rw [if_neg h4]
    apply pure_of _ (d_rows_Compare _ _ H) rfl
    rotate_left 2
    · simp (disch := first | with_reducible rfl | assumption | omega | rfl | (simp only [go_sem]; first | done | omega)) only [go_sem, ↓reduceIte, reduceCtorEq, Nat.reduceEqDiff, Nat.reduceAdd, Nat.reduceSub, Nat.reduceMul, Nat.reduceDiv, Nat.reduceMod, Nat.reduceLeDiff, Nat.reduceLT, Nat.reduceBEq, Int.reduceEq, Int.reduceBEq, Int.reduceBNe, Int.reduceLT, Int.reduceLE, Int.reduceAdd, Int.reduceSub, Int.reduceNeg, Int.reduceToNat, Int.reducePow, Nat.reducePow, Int.reduceMul, Int.reduceDiv, ↓s_rows_Compare, hH1, hH2, fA, fB, h1, h2, h3, h4]
      rfl
    · exact sA.trans sB
  · rw [if_neg hk]
    apply pure_of _ (d_rows_Compare _ _ H) rfl
    rotate_left 2
    · simp (disch := first | with_reducible rfl | assumption | omega | rfl | (simp only [go_sem]; first | done | omega)) only [go_sem, ↓reduceIte, reduceCtorEq, Nat.reduceEqDiff, Nat.reduceAdd, Nat.reduceSub, Nat.reduceMul, Nat.reduceDiv, Nat.reduceMod, Nat.reduceLeDiff, Nat.reduceLT, Nat.reduceBEq, Int.reduceEq, Int.reduceBEq, Int.reduceBNe, Int.reduceLT, Int.reduceLE, Int.reduceAdd, Int.reduceSub, Int.reduceNeg, Int.reduceToNat, Int.reducePow, Nat.reducePow, Int.reduceMul, Int.reduceDiv, ↓s_rows_Compare, hH1, hH2, fA, fB, hk]
      rfl
    · exact sA.trans sB

theorem q_order (a b : Cl) (H : AHeap) : CC F.law_order [.agg ⟨a.l⟩, .agg ⟨b.l⟩] H = some (.int .i64 (cmpC a b), H) := by
  obtain ⟨k1, u1, i1, s1, b1⟩ := a
  obtain ⟨k2, u2, i2, s2, b2⟩ := b
  obtain ⟨H1, hH1⟩ : ∃ H1, H.push (.cells [.int .i64 k1, .int .u64 u1, .int .i64 i1, .string s1, .bool b1] T.api_Cell true) = H1 := ⟨_, rfl⟩
  obtain ⟨H2, hH2⟩ : ∃ H2, H1.push (.cells [.int .i64 k2, .int .u64 u2, .int .i64 i2, .string s2, .bool b2] T.api_Cell true) = H2 := ⟨_, rfl⟩
  have sA : Still H H1 := by rw [← hH1]; exact (Fr.refl H).push _
  have sB : Still H1 H2 := by rw [← hH2]; exact (Fr.refl H1).push _
  have nA : H.n < H1.n := by rw [← hH1]; exact Nat.lt_succ_self _
  have fA : H2.f H.n = .cells [.int .i64 k1, .int .u64 u1, .int .i64 i1, .string s1, .bool b1] T.api_Cell true := by
    rw [sB.f nA fun h => h, ← hH1]; exact push_f_eq rfl
  have fB : H2.f H1.n = .cells [.int .i64 k2, .int .u64 u2, .int .i64 i2, .string s2, .bool b2] T.api_Cell true := by rw [← hH2]; exact push_f_eq rfl
  have e1 : ∀ t ox oy, xbin Tryd.prog .lss t ox oy (.string s1) (.string s2) = some (.bool (lsS s1 s2)) := fun _ _ _ => x_lsS
  have e2 : ∀ t ox oy, xbin Tryd.prog .gtr t ox oy (.string s1) (.string s2) = some (.bool (gtS s1 s2)) := fun _ _ _ => x_gtS
  unfold cmpC Cl.l c3
  dsimp only
  by_cases hk : k1 = k2
  · subst hk
    rw [if_pos rfl]
    by_cases h1 : k1 = 1
    · subst h1
      rw [if_pos rfl]
      by_cases h : u1 < u2 <;> by_cases h' : u2 < u1 <;>
      · apply pure_of _ (d_law_order _ _ H) rfl
        rotate_left 2
        · simp (disch := first | with_reducible rfl | assumption | omega | rfl | (simp only [go_sem]; first | done | omega)) only [go_sem, ↓reduceIte, reduceCtorEq, Nat.reduceEqDiff, Nat.reduceAdd, Nat.reduceSub, Nat.reduceMul, Nat.reduceDiv, Nat.reduceMod, Nat.reduceLeDiff, Nat.reduceLT, Nat.reduceBEq, Int.reduceEq, Int.reduceBEq, Int.reduceBNe, Int.reduceLT, Int.reduceLE, Int.reduceAdd, Int.reduceSub, Int.reduceNeg, Int.reduceToNat, Int.reducePow, Nat.reducePow, Int.reduceMul, Int.reduceDiv, ↓s_law_order, hH1, hH2, fA, fB, h, h']
          rfl
        · exact sA.trans sB
    rw [if_neg h1]
    by_cases h2 : k1 = 2
    · subst h2
      rw [if_pos rfl]
      by_cases h : i1 < i2 <;> by_cases h' : i2 < i1 <;>
      · apply pure_of _ (d_law_order _ _ H) rfl
        rotate_left 2
        · simp (disch := first | with_reducible rfl | assumption | omega | rfl | (simp only [go_sem]; first | done | omega)) only [go_sem, ↓reduceIte, reduceCtorEq, Nat.reduceEqDiff, Nat.reduceAdd, Nat.reduceSub, Nat.reduceMul, Nat.reduceDiv, Nat.reduceMod, Nat.reduceLeDiff, Nat.reduceLT, Nat.reduceBEq, Int.reduceEq, Int.reduceBEq, Int.reduceBNe, Int.reduceLT, Int.reduceLE, Int.reduceAdd, Int.reduceSub, Int.reduceNeg, Int.reduceToNat, Int.reducePow, Nat.reducePow, Int.reduceMul, Int.reduceDiv, ↓s_law_order, hH1, hH2, fA, fB, h, h']
          rfl
        · exact sA.trans sB
    rw [if_neg h2]
    by_cases h3 : k1 = 3
    · subst h3
      rw [if_pos rfl]
      generalize lsS s1 s2 = l at e1
      generalize gtS s1 s2 = g at e2
      cases l <;> cases g <;>
      · apply pure_of _ (d_law_order _ _ H) rfl
        rotate_left 2
        · simp (disch := first | with_reducible rfl | assumption | omega | rfl | (simp only [go_sem]; first | done | omega)) only [go_sem, ↓reduceIte, reduceCtorEq, Nat.reduceEqDiff, Nat.reduceAdd, Nat.reduceSub, Nat.reduceMul, Nat.reduceDiv, Nat.reduceMod, Nat.reduceLeDiff, Nat.reduceLT, Nat.reduceBEq, Int.reduceEq, Int.reduceBEq, Int.reduceBNe, Int.reduceLT, Int.reduceLE, Int.reduceAdd, Int.reduceSub, Int.reduceNeg, Int.reduceToNat, Int.reducePow, Nat.reducePow, Int.reduceMul, Int.reduceDiv, ↓s_law_order, hH1, hH2, fA, fB, e1, e2]
          rfl
        · exact sA.trans sB
    rw [if_neg h3]
    by_cases h4 : k1 = 4
    · subst h4
      rw [if_pos rfl]
      cases b1 <;> cases b2 <;>
      · apply pure_of _ (d_law_order _ _ H) rfl
        rotate_left 2
        · simp (disch := first | with_reducible rfl | assumption | omega | rfl | (simp only [go_sem]; first | done | omega)) only [go_sem, ↓reduceIte, reduceCtorEq, Nat.reduceEqDiff, Nat.reduceAdd, Nat.reduceSub, Nat.reduceMul, Nat.reduceDiv, Nat.reduceMod, Nat.reduceLeDiff, Nat.reduceLT, Nat.reduceBEq, Int.reduceEq, Int.reduceBEq, Int.reduceBNe, Int.reduceLT, Int.reduceLE, Int.reduceAdd, Int.reduceSub, Int.reduceNeg, Int.reduceToNat, Int.reducePow, Nat.reducePow, Int.reduceMul, Int.reduceDiv, ↓s_law_order, hH1, hH2, fA, fB]
          rfl
        · exact sA.trans sB
    rw [if_neg h4]
    apply pure_of _ (d_law_order _ _ H) rfl
    rotate_left 2
    · simp (disch := first | with_reducible rfl | assumption | omega | rfl | (simp only [go_sem]; first | done | omega)) only [go_sem, ↓reduceIte, reduceCtorEq, Nat.reduceEqDiff, Nat.reduceAdd, Nat.reduceSub, Nat.reduceMul, Nat.reduceDiv, Nat.reduceMod, Nat.reduceLeDiff, Nat.reduceLT, Nat.reduceBEq, Int.reduceEq, Int.reduceBEq, Int.reduceBNe, Int.reduceLT, Int.reduceLE, Int.reduceAdd, Int.reduceSub, Int.reduceNeg, Int.reduceToNat, Int.reducePow, Nat.reducePow, Int.reduceMul, Int.reduceDiv, ↓s_law_order, hH1, hH2, fA, fB, h1, h2, h3, h4]
      rfl
    · exact sA.trans sB
  · rw [if_neg hk]
    apply pure_of _ (d_law_order _ _ H) rfl
    rotate_left 2
    · simp (disch := first | with_reducible rfl | assumption | omega | rfl | (simp only [go_sem]; first | done | omega)) only [go_sem, ↓reduceIte, reduceCtorEq, Nat.reduceEqDiff, Nat.reduceAdd, Nat.reduceSub, Nat.reduceMul, Nat.reduceDiv, Nat.reduceMod, Nat.reduceLeDiff, Nat.reduceLT, Nat.reduceBEq, Int.reduceEq, Int.reduceBEq, Int.reduceBNe, Int.reduceLT, Int.reduceLE, Int.reduceAdd, Int.reduceSub, Int.reduceNeg, Int.reduceToNat, Int.reducePow, Nat.reducePow, Int.reduceMul, Int.reduceDiv, ↓s_law_order, hH1, hH2, fA, fB, hk]
      rfl
    · exact sA.trans sB

theorem rd_cell {H : AHeap} {v : Value} {l : List Cl} (hr : Rd ECl H v l) {i : Nat} (hi : i < l.length) : ∃ b o, ixS 5 v (.int .i64 (i : Int)) = some (.pointer (some ⟨b, o, none⟩)) ∧ cutB (H.f b) o 5 = some l[i].l ∧ cellB (H.f b) (o + 3) = some (.string l[i].s) := by
  obtain ⟨b1, o1, ix, hb, hc, _⟩ := hr.ix (q := .i64) hi
  have hc : cutB (H.f b1) o1 5 = some l[i].l := hc
  exact ⟨b1, o1, ix, hc, cutB_cell hc (i := 3) (by decide)⟩

theorem l_eqC (l m : List Cl) (v w : Value) (H : AHeap) (hv : Rd ECl H v l) (hw : Rd ECl H w m) (hlm : l.length = m.length) (hl : l.length ≤ 1000) : ∀ (x y : List Cl) (i : Nat), l.drop i = x → m.drop i = y →
    (x = y → ∀ K : K, l_slices_Equal_Cell_0 v w (.int .i64 (l.length : Int)) (.int .i64 (i : Int)) H (blkK [] 0 K) = K .normal [] H) ∧
    (x ≠ y → ∀ K : K, l_slices_Equal_Cell_0 v w (.int .i64 (l.length : Int)) (.int .i64 (i : Int)) H (blkK [] 0 K) = K .ret [(4, .bool false)] H)
  | [], y, i, hx, hy => by
    have h : l.length ≤ i := List.drop_eq_nil_iff.1 hx
    have hlt : ¬ (i : Int) < (l.length : Int) := by omega
    have hy0 : y = [] := by rw [← hy]; exact List.drop_eq_nil_of_le (by omega)
    subst hy0
    refine ⟨fun _ K => ?_, fun h => absurd rfl h⟩
    rw [r_slices_Equal_Cell_0]
    simp (disch := first | with_reducible rfl | assumption | omega | rfl | (simp only [go_sem]; first | done | omega)) only [go_sem, ↓reduceIte, reduceCtorEq, Nat.reduceEqDiff, Nat.reduceAdd, Nat.reduceSub, Nat.reduceMul, Nat.reduceDiv, Nat.reduceMod, Nat.reduceLeDiff, Nat.reduceLT, Nat.reduceBEq, Int.reduceEq, Int.reduceBEq, Int.reduceBNe, Int.reduceLT, Int.reduceLE, Int.reduceAdd, Int.reduceSub, Int.reduceNeg, Int.reduceToNat, Int.reducePow, Nat.reducePow, Int.reduceMul, Int.reduceDiv, ↓s_slices_Equal_Cell_b0, hlt]
  | a :: x, [], i, hx, hy => by
    obtain ⟨h, _⟩ := drop_cons hx
    have h2 : m.length ≤ i := List.drop_eq_nil_iff.1 hy
    omega
  | a :: x, b :: y, i, hx, hy => by
    obtain ⟨h, hxa, hx'⟩ := drop_cons hx
    obtain ⟨h2, hyb, hy'⟩ := drop_cons hy
    have hlt : (i : Int) < (l.length : Int) := by omega
    obtain ⟨ih1, ih2⟩ := l_eqC l m v w H hv hw hlm hl x y (i + 1) hx' hy'
    obtain ⟨b1, o1, i1, c1, _⟩ := rd_cell hv h
    obtain ⟨b2, o2, i2, c2, _⟩ := rd_cell hw h2
    rw [hxa] at c1
    rw [hyb] at c2
    rw [Int.natCast_add] at ih1 ih2
    by_cases he : a = b
    · have hd : decide (a = b) = true := decide_eq_true he
      refine ⟨fun h3 K => ?_, fun h3 K => ?_⟩
      · have := ih1 (List.cons.inj h3).2 K
        rw [r_slices_Equal_Cell_0]
        simp (disch := first | with_reducible rfl | assumption | omega | rfl | (simp only [go_sem]; first | done | omega)) only [go_sem, ↓reduceIte, reduceCtorEq, Nat.reduceEqDiff, Nat.reduceAdd, Nat.reduceSub, Nat.reduceMul, Nat.reduceDiv, Nat.reduceMod, Nat.reduceLeDiff, Nat.reduceLT, Nat.reduceBEq, Int.reduceEq, Int.reduceBEq, Int.reduceBNe, Int.reduceLT, Int.reduceLE, Int.reduceAdd, Int.reduceSub, Int.reduceNeg, Int.reduceToNat, Int.reducePow, Nat.reducePow, Int.reduceMul, Int.reduceDiv, ↓s_slices_Equal_Cell_b0, hlt, i1, c1, i2, c2, cell_ne, hd]
        exact this
      · have := ih2 (fun e => h3 (by rw [he, e])) K
        rw [r_slices_Equal_Cell_0]
        simp (disch := first | with_reducible rfl | assumption | omega | rfl | (simp only [go_sem]; first | done | omega)) only [go_sem, ↓reduceIte, reduceCtorEq, Nat.reduceEqDiff, Nat.reduceAdd, Nat.reduceSub, Nat.reduceMul, Nat.reduceDiv, Nat.reduceMod, Nat.reduceLeDiff, Nat.reduceLT, Nat.reduceBEq, Int.reduceEq, Int.reduceBEq, Int.reduceBNe, Int.reduceLT, Int.reduceLE, Int.reduceAdd, Int.reduceSub, Int.reduceNeg, Int.reduceToNat, Int.reducePow, Nat.reducePow, Int.reduceMul, Int.reduceDiv, ↓s_slices_Equal_Cell_b0, hlt, i1, c1, i2, c2, cell_ne, hd]
        exact this
    · have hd : decide (a = b) = false := decide_eq_false he
      refine ⟨fun h3 => absurd (List.cons.inj h3).1 he, fun _ K => ?_⟩
      rw [r_slices_Equal_Cell_0]
      simp (disch := first | with_reducible rfl | assumption | omega | rfl | (simp only [go_sem]; first | done | omega)) only [go_sem, ↓reduceIte, reduceCtorEq, Nat.reduceEqDiff, Nat.reduceAdd, Nat.reduceSub, Nat.reduceMul, Nat.reduceDiv, Nat.reduceMod, Nat.reduceLeDiff, Nat.reduceLT, Nat.reduceBEq, Int.reduceEq, Int.reduceBEq, Int.reduceBNe, Int.reduceLT, Int.reduceLE, Int.reduceAdd, Int.reduceSub, Int.reduceNeg, Int.reduceToNat, Int.reducePow, Nat.reducePow, Int.reduceMul, Int.reduceDiv, ↓s_slices_Equal_Cell_b0, hlt, i1, c1, i2, c2, cell_ne, hd]

theorem q_Equal (l m : List Cl) (v w : Value) (H : AHeap) (hv : Rd ECl H v l) (hw : Rd ECl H w m) (hl : l.length ≤ 1000) : CC F.rows_Equal [v, w] H = some (.bool (decide (l = m)), H) := by
  have l1 := hv.lenS
  have l2 := hw.lenS
  have key : CC F.slices_Equal_Cell [v, w] H = some (.bool (decide (l = m)), H) := by
    by_cases hlm : l.length = m.length
    · obtain ⟨z1, z2⟩ := l_eqC l m v w H hv hw hlm hl l m 0 rfl rfl
      have he : ((l.length : Int) = (m.length : Int)) = True := by simp [hlm]
      by_cases h : l = m
      · have z1 : ∀ K : K, l_slices_Equal_Cell_0 v w (.int .i64 (l.length : Int)) (.int .i64 0) H (blkK [] 0 K) = K .normal [] H := z1 h
        rw [decide_eq_true h]
        apply pure_of _ (d_slices_Equal_Cell _ _ H) rfl
        rotate_left 2
        · simp (disch := first | with_reducible rfl | assumption | omega | rfl | (simp only [go_sem]; first | done | omega)) only [go_sem, ↓reduceIte, reduceCtorEq, Nat.reduceEqDiff, Nat.reduceAdd, Nat.reduceSub, Nat.reduceMul, Nat.reduceDiv, Nat.reduceMod, Nat.reduceLeDiff, Nat.reduceLT, Nat.reduceBEq, Int.reduceEq, Int.reduceBEq, Int.reduceBNe, Int.reduceLT, Int.reduceLE, Int.reduceAdd, Int.reduceSub, Int.reduceNeg, Int.reduceToNat, Int.reducePow, Nat.reducePow, Int.reduceMul, Int.reduceDiv, ↓s_slices_Equal_Cell, l1, l2, he, z1]
          rfl
        · (repeat (first | exact Fr.refl _ | refine Fr.push ?_ _ | refine Fr.set ?_ _ _ (by intro h; first | omega | (simp only [go_sem] at h; omega))))
      · have z2 : ∀ K : K, l_slices_Equal_Cell_0 v w (.int .i64 (l.length : Int)) (.int .i64 0) H (blkK [] 0 K) = K .ret [(4, .bool false)] H := z2 h
        rw [decide_eq_false h]
        apply pure_of _ (d_slices_Equal_Cell _ _ H) rfl
        rotate_left 2
        · simp (disch := first | with_reducible rfl | assumption | omega | rfl | (simp only [go_sem]; first | done | omega)) only [go_sem, ↓reduceIte, reduceCtorEq, Nat.reduceEqDiff, Nat.reduceAdd, Nat.reduceSub, Nat.reduceMul, Nat.reduceDiv, Nat.reduceMod, Nat.reduceLeDiff, Nat.reduceLT, Nat.reduceBEq, Int.reduceEq, Int.reduceBEq, Int.reduceBNe, Int.reduceLT, Int.reduceLE, Int.reduceAdd, Int.reduceSub, Int.reduceNeg, Int.reduceToNat, Int.reducePow, Nat.reducePow, Int.reduceMul, Int.reduceDiv, ↓s_slices_Equal_Cell, l1, l2, he, z2]
          rfl
        · (repeat (first | exact Fr.refl _ | refine Fr.push ?_ _ | refine Fr.set ?_ _ _ (by intro h; first | omega | (simp only [go_sem] at h; omega))))
    · have he : ¬ ((l.length : Int) = (m.length : Int)) := by omega
      rw [decide_eq_false fun h => hlm (by rw [h])]
      apply pure_of _ (d_slices_Equal_Cell _ _ H) rfl
      rotate_left 2
      · simp (disch := first | with_reducible rfl | assumption | omega | rfl | (simp only [go_sem]; first | done | omega)) only [go_sem, ↓reduceIte, reduceCtorEq, Nat.reduceEqDiff, Nat.reduceAdd, Nat.reduceSub, Nat.reduceMul, Nat.reduceDiv, Nat.reduceMod, Nat.reduceLeDiff, Nat.reduceLT, Nat.reduceBEq, Int.reduceEq, Int.reduceBEq, Int.reduceBNe, Int.reduceLT, Int.reduceLE, Int.reduceAdd, Int.reduceSub, Int.reduceNeg, Int.reduceToNat, Int.reducePow, Nat.reducePow, Int.reduceMul, Int.reduceDiv, ↓s_slices_Equal_Cell, l1, l2, he]
        rfl
      · (repeat (first | exact Fr.refl _ | refine Fr.push ?_ _ | refine Fr.set ?_ _ _ (by intro h; first | omega | (simp only [go_sem] at h; omega))))
  apply pure_of _ (d_rows_Equal _ _ H) rfl
  rotate_left 2
  · simp (disch := first | with_reducible rfl | assumption | omega | rfl | (simp only [go_sem]; first | done | omega)) only [go_sem, ↓reduceIte, reduceCtorEq, Nat.reduceEqDiff, Nat.reduceAdd, Nat.reduceSub, Nat.reduceMul, Nat.reduceDiv, Nat.reduceMod, Nat.reduceLeDiff, Nat.reduceLT, Nat.reduceBEq, Int.reduceEq, Int.reduceBEq, Int.reduceBNe, Int.reduceLT, Int.reduceLE, Int.reduceAdd, Int.reduceSub, Int.reduceNeg, Int.reduceToNat, Int.reducePow, Nat.reducePow, Int.reduceMul, Int.reduceDiv, ↓s_rows_Equal, enterK_eq key]
    rfl
  · (repeat (first | exact Fr.refl _ | refine Fr.push ?_ _ | refine Fr.set ?_ _ _ (by intro h; first | omega | (simp only [go_sem] at h; omega))))

theorem l_same (l m : List Cl) (v w : Value) (H : AHeap) (hv : Rd ECl H v l) (hw : Rd ECl H w m) (hlm : l.length = m.length) (hl : l.length ≤ 1000) : ∀ (x y : List Cl) (i : Nat), l.drop i = x → m.drop i = y →
    (x = y → ∀ K : K, l_law_same_0 v w (.int .i64 (i : Int)) H (blkK [] 0 K) = K .normal [] H) ∧
    (x ≠ y → ∀ K : K, l_law_same_0 v w (.int .i64 (i : Int)) H (blkK [] 0 K) = K .ret [(4, .bool false)] H)
  | [], y, i, hx, hy => by
    have h : l.length ≤ i := List.drop_eq_nil_iff.1 hx
    have hlt : ¬ (i : Int) < (l.length : Int) := by omega
    have hlen := hv.lenS
    have hy0 : y = [] := by rw [← hy]; exact List.drop_eq_nil_of_le (by omega)
    subst hy0
    refine ⟨fun _ K => ?_, fun h => absurd rfl h⟩
    rw [r_law_same_0]
    simp (disch := first | with_reducible rfl | assumption | omega | rfl | (simp only [go_sem]; first | done | omega)) only [go_sem, ↓reduceIte, reduceCtorEq, Nat.reduceEqDiff, Nat.reduceAdd, Nat.reduceSub, Nat.reduceMul, Nat.reduceDiv, Nat.reduceMod, Nat.reduceLeDiff, Nat.reduceLT, Nat.reduceBEq, Int.reduceEq, Int.reduceBEq, Int.reduceBNe, Int.reduceLT, Int.reduceLE, Int.reduceAdd, Int.reduceSub, Int.reduceNeg, Int.reduceToNat, Int.reducePow, Nat.reducePow, Int.reduceMul, Int.reduceDiv, ↓s_law_same_b0, hlen, hlt]
  | a :: x, [], i, hx, hy => by
    obtain ⟨h, _⟩ := drop_cons hx
    have h2 : m.length ≤ i := List.drop_eq_nil_iff.1 hy
    omega
  | a :: x, b :: y, i, hx, hy => by
    obtain ⟨h, hxa, hx'⟩ := drop_cons hx
    obtain ⟨h2, hyb, hy'⟩ := drop_cons hy
    have hlt : (i : Int) < (l.length : Int) := by omega
    have hlen := hv.lenS
    obtain ⟨ih1, ih2⟩ := l_same l m v w H hv hw hlm hl x y (i + 1) hx' hy'
    obtain ⟨b1, o1, i1, c1, _⟩ := rd_cell hv h
    obtain ⟨b2, o2, i2, c2, _⟩ := rd_cell hw h2
    rw [hxa] at c1
    rw [hyb] at c2
    rw [Int.natCast_add] at ih1 ih2
    by_cases he : a = b
    · have hd : decide (a = b) = true := decide_eq_true he
      refine ⟨fun h3 K => ?_, fun h3 K => ?_⟩
      · have := ih1 (List.cons.inj h3).2 K
        rw [r_law_same_0]
        simp (disch := first | with_reducible rfl | assumption | omega | rfl | (simp only [go_sem]; first | done | omega)) only [go_sem, ↓reduceIte, reduceCtorEq, Nat.reduceEqDiff, Nat.reduceAdd, Nat.reduceSub, Nat.reduceMul, Nat.reduceDiv, Nat.reduceMod, Nat.reduceLeDiff, Nat.reduceLT, Nat.reduceBEq, Int.reduceEq, Int.reduceBEq, Int.reduceBNe, Int.reduceLT, Int.reduceLE, Int.reduceAdd, Int.reduceSub, Int.reduceNeg, Int.reduceToNat, Int.reducePow, Nat.reducePow, Int.reduceMul, Int.reduceDiv, ↓s_law_same_b0, hlen, hlt, i1, c1, i2, c2, cell_ne, hd]
        exact this
      · have := ih2 (fun e => h3 (by rw [he, e])) K
        rw [r_law_same_0]
        simp (disch := first | with_reducible rfl | assumption | omega | rfl | (simp only [go_sem]; first | done | omega)) only [go_sem, ↓reduceIte, reduceCtorEq, Nat.reduceEqDiff, Nat.reduceAdd, Nat.reduceSub, Nat.reduceMul, Nat.reduceDiv, Nat.reduceMod, Nat.reduceLeDiff, Nat.reduceLT, Nat.reduceBEq, Int.reduceEq, Int.reduceBEq, Int.reduceBNe, Int.reduceLT, Int.reduceLE, Int.reduceAdd, Int.reduceSub, Int.reduceNeg, Int.reduceToNat, Int.reducePow, Nat.reducePow, Int.reduceMul, Int.reduceDiv, ↓s_law_same_b0, hlen, hlt, i1, c1, i2, c2, cell_ne, hd]
        exact this
    · have hd : decide (a = b) = false := decide_eq_false he
      refine ⟨fun h3 => absurd (List.cons.inj h3).1 he, fun _ K => ?_⟩
      rw [r_law_same_0]
      simp (disch := first | with_reducible rfl | assumption | omega | rfl | (simp only [go_sem]; first | done | omega)) only [go_sem, ↓reduceIte, reduceCtorEq, Nat.reduceEqDiff, Nat.reduceAdd, Nat.reduceSub, Nat.reduceMul, Nat.reduceDiv, Nat.reduceMod, Nat.reduceLeDiff, Nat.reduceLT, Nat.reduceBEq, Int.reduceEq, Int.reduceBEq, Int.reduceBNe, Int.reduceLT, Int.reduceLE, Int.reduceAdd, Int.reduceSub, Int.reduceNeg, Int.reduceToNat, Int.reducePow, Nat.reducePow, Int.reduceMul, Int.reduceDiv, ↓s_law_same_b0, hlen, hlt, i1, c1, i2, c2, cell_ne, hd]

theorem q_same (l m : List Cl) (v w : Value) (H : AHeap) (hv : Rd ECl H v l) (hw : Rd ECl H w m) (hl : l.length ≤ 1000) : CC F.law_same [v, w] H = some (.bool (decide (l = m)), H) := by
  have l1 := hv.lenS
  have l2 := hw.lenS
  by_cases hlm : l.length = m.length
  · obtain ⟨z1, z2⟩ := l_same l m v w H hv hw hlm hl l m 0 rfl rfl
    have he : ((l.length : Int) = (m.length : Int)) = True := by simp [hlm]
    by_cases h : l = m
    · have z1 : ∀ K : K, l_law_same_0 v w (.int .i64 0) H (blkK [] 0 K) = K .normal [] H := z1 h
      rw [decide_eq_true h]
      apply pure_of _ (d_law_same _ _ H) rfl
      rotate_left 2
      · simp (disch := first | with_reducible rfl | assumption | omega | rfl | (simp only [go_sem]; first | done | omega)) only [go_sem, ↓reduceIte, reduceCtorEq, Nat.reduceEqDiff, Nat.reduceAdd, Nat.reduceSub, Nat.reduceMul, Nat.reduceDiv, Nat.reduceMod, Nat.reduceLeDiff, Nat.reduceLT, Nat.reduceBEq, Int.reduceEq, Int.reduceBEq, Int.reduceBNe, Int.reduceLT, Int.reduceLE, Int.reduceAdd, Int.reduceSub, Int.reduceNeg, Int.reduceToNat, Int.reducePow, Nat.reducePow, Int.reduceMul, Int.reduceDiv, ↓s_law_same, l1, l2, he, z1]
        rfl
      · (repeat (first | exact Fr.refl _ | refine Fr.push ?_ _ | refine Fr.set ?_ _ _ (by intro h; first | omega | (simp only [go_sem] at h; omega))))
    · have z2 : ∀ K : K, l_law_same_0 v w (.int .i64 0) H (blkK [] 0 K) = K .ret [(4, .bool false)] H := z2 h
      rw [decide_eq_false h]
      apply pure_of _ (d_law_same _ _ H) rfl
      rotate_left 2
      · simp (disch := first | with_reducible rfl | assumption | omega | rfl | (simp only [go_sem]; first | done | omega)) only [go_sem, ↓reduceIte, reduceCtorEq, Nat.reduceEqDiff, Nat.reduceAdd, Nat.reduceSub, Nat.reduceMul, Nat.reduceDiv, Nat.reduceMod, Nat.reduceLeDiff, Nat.reduceLT, Nat.reduceBEq, Int.reduceEq, Int.reduceBEq, Int.reduceBNe, Int.reduceLT, Int.reduceLE, Int.reduceAdd, Int.reduceSub, Int.reduceNeg, Int.reduceToNat, Int.reducePow, Nat.reducePow, Int.reduceMul, Int.reduceDiv, ↓s_law_same, l1, l2, he, z2]
        rfl
      · (repeat (first | exact Fr.refl _ | refine Fr.push ?_ _ | refine Fr.set ?_ _ _ (by intro h; first | omega | (simp only [go_sem] at h; omega))))
  · have he : ¬ ((l.length : Int) = (m.length : Int)) := by omega
    rw [decide_eq_false fun h => hlm (by rw [h])]
    apply pure_of _ (d_law_same _ _ H) rfl
    rotate_left 2
    · simp (disch := first | with_reducible rfl | assumption | omega | rfl | (simp only [go_sem]; first | done | omega)) only [go_sem, ↓reduceIte, reduceCtorEq, Nat.reduceEqDiff, Nat.reduceAdd, Nat.reduceSub, Nat.reduceMul, Nat.reduceDiv, Nat.reduceMod, Nat.reduceLeDiff, Nat.reduceLT, Nat.reduceBEq, Int.reduceEq, Int.reduceBEq, Int.reduceBNe, Int.reduceLT, Int.reduceLE, Int.reduceAdd, Int.reduceSub, Int.reduceNeg, Int.reduceToNat, Int.reducePow, Nat.reducePow, Int.reduceMul, Int.reduceDiv, ↓s_law_same, l1, l2, he]
      rfl
    · (repeat (first | exact Fr.refl _ | refine Fr.push ?_ _ | refine Fr.set ?_ _ _ (by intro h; first | omega | (simp only [go_sem] at h; omega))))

end Go.Proofs.YtlmhioanjmhaiaaDoor

/-
  Chapter 40: small.
  Conditions: none. By an AI agent.
-/
set_option maxRecDepth 10000
set_option linter.unusedSimpArgs false
set_option linter.unusedVariables false
namespace Go.Proofs.YtlmhioanjmhaiaaDoor
open Go Eng

def smC (a : Cl) : Bool := decide ((bl a.s).length ≤ 60)
theorem l_small (l : List Cl) (v w : Value) (H : AHeap) (hr : Rd ECl H v l) : ∀ (t : List Cl) (i : Nat), (l.take 21).drop i = t → i ≤ 21 →
    (t.all smC = true → ∀ K : K, l_law_small_0 v w (.int .i64 (i : Int)) H (blkK [1, 2] 0 K) = K .normal [(1, v), (2, w)] H) ∧
    (t.all smC = false → ∀ K : K, l_law_small_0 v w (.int .i64 (i : Int)) H (blkK [1, 2] 0 K) = K .ret [(4, .bool false)] H)
  | [], i, hx, h31 => by
    have h : (l.take 21).length ≤ i := List.drop_eq_nil_iff.1 hx
    have hlen := hr.lenS
    refine ⟨fun _ K => ?_, fun h => by simp at h⟩
    by_cases h1 : i < l.length
    · have hlt : (i : Int) < (l.length : Int) := by omega
      have h2 : ¬ (i : Int) < 21 := by simp at h; omega
      rw [r_law_small_0]
      simp (disch := first | with_reducible rfl | assumption | omega | rfl | (simp only [go_sem]; first | done | omega)) only [go_sem, ↓reduceIte, reduceCtorEq, Nat.reduceEqDiff, Nat.reduceAdd, Nat.reduceSub, Nat.reduceMul, Nat.reduceDiv, Nat.reduceMod, Nat.reduceLeDiff, Nat.reduceLT, Nat.reduceBEq, Int.reduceEq, Int.reduceBEq, Int.reduceBNe, Int.reduceLT, Int.reduceLE, Int.reduceAdd, Int.reduceSub, Int.reduceNeg, Int.reduceToNat, Int.reducePow, Nat.reducePow, Int.reduceMul, Int.reduceDiv, ↓s_law_small_b0, hlen, hlt, h2]
    · have hlt : ¬ (i : Int) < (l.length : Int) := by omega
      rw [r_law_small_0]
      simp (disch := first | with_reducible rfl | assumption | omega | rfl | (simp only [go_sem]; first | done | omega)) only [go_sem, ↓reduceIte, reduceCtorEq, Nat.reduceEqDiff, Nat.reduceAdd, Nat.reduceSub, Nat.reduceMul, Nat.reduceDiv, Nat.reduceMod, Nat.reduceLeDiff, Nat.reduceLT, Nat.reduceBEq, Int.reduceEq, Int.reduceBEq, Int.reduceBNe, Int.reduceLT, Int.reduceLE, Int.reduceAdd, Int.reduceSub, Int.reduceNeg, Int.reduceToNat, Int.reducePow, Nat.reducePow, Int.reduceMul, Int.reduceDiv, ↓s_law_small_b0, hlen, hlt]
  | a :: t, i, hx, h31 => by
    obtain ⟨h, hxa, hx'⟩ := drop_cons hx
    have hi : i < l.length ∧ i < 21 := by simp at h; omega
    have hlen := hr.lenS
    have hlt : (i : Int) < (l.length : Int) := by omega
    have h2 : (i : Int) < 21 := by omega
    obtain ⟨b1, o1, ix, _, c3⟩ := rd_cell hr hi.1
    have hla : l[i] = a := by rw [← hxa]; simp
    rw [hla] at c3
    obtain ⟨k1, k2⟩ := l_small l v w H hr t (i + 1) hx' (by omega)
    rw [Int.natCast_add] at k1 k2
    rw [List.all_cons]
    by_cases s1 : 60 < (bl a.s).length
    · have s1' : 60 < ((bl a.s).length : Int) := by omega
      have e : smC a = false := by unfold smC; simp; omega
      rw [e]
      refine ⟨fun h => by simp at h, fun _ K => ?_⟩
      rw [r_law_small_0]
      simp (disch := first | with_reducible rfl | assumption | omega | rfl | (simp only [go_sem]; first | done | omega)) only [go_sem, ↓reduceIte, reduceCtorEq, Nat.reduceEqDiff, Nat.reduceAdd, Nat.reduceSub, Nat.reduceMul, Nat.reduceDiv, Nat.reduceMod, Nat.reduceLeDiff, Nat.reduceLT, Nat.reduceBEq, Int.reduceEq, Int.reduceBEq, Int.reduceBNe, Int.reduceLT, Int.reduceLE, Int.reduceAdd, Int.reduceSub, Int.reduceNeg, Int.reduceToNat, Int.reducePow, Nat.reducePow, Int.reduceMul, Int.reduceDiv, ↓s_law_small_b0, hlen, hlt, h2, ix, c3, s1']
    · have s1' : ¬ 60 < ((bl a.s).length : Int) := by omega
      have e : smC a = true := by unfold smC; simp; omega
      rw [e]
      refine ⟨fun h3 K => ?_, fun h3 K => ?_⟩
      · have := k1 (by simpa using h3) K
        rw [r_law_small_0]
        simp (disch := first | with_reducible rfl | assumption | omega | rfl | (simp only [go_sem]; first | done | omega)) only [go_sem, ↓reduceIte, reduceCtorEq, Nat.reduceEqDiff, Nat.reduceAdd, Nat.reduceSub, Nat.reduceMul, Nat.reduceDiv, Nat.reduceMod, Nat.reduceLeDiff, Nat.reduceLT, Nat.reduceBEq, Int.reduceEq, Int.reduceBEq, Int.reduceBNe, Int.reduceLT, Int.reduceLE, Int.reduceAdd, Int.reduceSub, Int.reduceNeg, Int.reduceToNat, Int.reducePow, Nat.reducePow, Int.reduceMul, Int.reduceDiv, ↓s_law_small_b0, hlen, hlt, h2, ix, c3, s1']
        exact this
      · have := k2 (by simpa using h3) K
        rw [r_law_small_0]
        simp (disch := first | with_reducible rfl | assumption | omega | rfl | (simp only [go_sem]; first | done | omega)) only [go_sem, ↓reduceIte, reduceCtorEq, Nat.reduceEqDiff, Nat.reduceAdd, Nat.reduceSub, Nat.reduceMul, Nat.reduceDiv, Nat.reduceMod, Nat.reduceLeDiff, Nat.reduceLT, Nat.reduceBEq, Int.reduceEq, Int.reduceBEq, Int.reduceBNe, Int.reduceLT, Int.reduceLE, Int.reduceAdd, Int.reduceSub, Int.reduceNeg, Int.reduceToNat, Int.reducePow, Nat.reducePow, Int.reduceMul, Int.reduceDiv, ↓s_law_small_b0, hlen, hlt, h2, ix, c3, s1']
        exact this

/-- Of a table with so many kinds in its key and behind it. -/
def smallP (nk nr : Nat) (l : List Cl) : Bool := (l.take 21).all smC && (decide (nk ≤ 20) && (decide (nr ≤ 20) && decide (l.length ≤ 20)))
theorem q_small (n : Int) (kv rv : Value) (nk nr : Nat) (l : List Cl) (v : Value) (H : AHeap) (hk : lenS kv = some (.int .i64 (nk : Int))) (hrr : lenS rv = some (.int .i64 (nr : Int))) (ok : Eng.one kv = true) (orr : Eng.one rv = true) (hr : Rd ECl H v l) :
    CC F.law_small [.agg #[.int .i64 n, kv, rv], v] H = some (.bool (smallP nk nr l), H) := by
  obtain ⟨H1, hH1⟩ : ∃ H1, H.push (.cells [.int .i64 n, kv, rv] T.api_Table true) = H1 := ⟨_, rfl⟩
  have s1 : Still H H1 := by rw [← hH1]; exact (Fr.refl H).push _
  have f1 : H1.f H.n = .cells [.int .i64 n, kv, rv] T.api_Table true := by rw [← hH1]; exact push_f_eq rfl
  have hr1 := hr.still s1
  obtain ⟨z1, z2⟩ := l_small l v (.pointer (some ⟨H.n, 0, none⟩)) H1 hr1 (l.take 21) 0 (by simp) (by decide)
  have hlen := hr1.lenS
  unfold smallP
  cases h : (l.take 21).all smC with
  | false =>
    have z2 : ∀ K : K, l_law_small_0 v (.pointer (some ⟨H.n, 0, none⟩)) (.int .i64 0) H1 (blkK [1, 2] 0 K) = K .ret [(4, .bool false)] H1 := z2 h
    rw [Bool.false_and]
    apply pure_of _ (d_law_small _ _ H) rfl
    rotate_left 2
    · simp (disch := first | with_reducible rfl | assumption | omega | rfl | (simp only [go_sem]; first | done | omega)) only [go_sem, ↓reduceIte, reduceCtorEq, Nat.reduceEqDiff, Nat.reduceAdd, Nat.reduceSub, Nat.reduceMul, Nat.reduceDiv, Nat.reduceMod, Nat.reduceLeDiff, Nat.reduceLT, Nat.reduceBEq, Int.reduceEq, Int.reduceBEq, Int.reduceBNe, Int.reduceLT, Int.reduceLE, Int.reduceAdd, Int.reduceSub, Int.reduceNeg, Int.reduceToNat, Int.reducePow, Nat.reducePow, Int.reduceMul, Int.reduceDiv, ↓s_law_small, hH1, z2]
      rfl
    · exact s1
  | true =>
    have z1 : ∀ K : K, l_law_small_0 v (.pointer (some ⟨H.n, 0, none⟩)) (.int .i64 0) H1 (blkK [1, 2] 0 K) = K .normal [(1, v), (2, .pointer (some ⟨H.n, 0, none⟩))] H1 := z1 h
    rw [Bool.true_and]
    by_cases h1 : nk ≤ 20
    · have h1' : ((nk : Int) ≤ 20) = True := by simp; omega
      by_cases h2 : nr ≤ 20
      · have h2' : ((nr : Int) ≤ 20) = True := by simp; omega
        have e : (decide (l.length ≤ 20)) = decide ((l.length : Int) ≤ 20) := by congr 1; apply propext; omega
        rw [decide_eq_true h1, decide_eq_true h2, Bool.true_and, Bool.true_and, e]
        apply pure_of _ (d_law_small _ _ H) rfl
        rotate_left 2
        · simp (disch := first | with_reducible rfl | assumption | omega | rfl | (simp only [go_sem]; first | done | omega)) only [go_sem, ↓reduceIte, reduceCtorEq, Nat.reduceEqDiff, Nat.reduceAdd, Nat.reduceSub, Nat.reduceMul, Nat.reduceDiv, Nat.reduceMod, Nat.reduceLeDiff, Nat.reduceLT, Nat.reduceBEq, Int.reduceEq, Int.reduceBEq, Int.reduceBNe, Int.reduceLT, Int.reduceLE, Int.reduceAdd, Int.reduceSub, Int.reduceNeg, Int.reduceToNat, Int.reducePow, Nat.reducePow, Int.reduceMul, Int.reduceDiv, ↓s_law_small, hH1, z1, f1, hk, h1', hrr, h2', hlen]
          rfl
        · exact s1
      · have h2' : ¬ (nr : Int) ≤ 20 := by omega
        rw [decide_eq_true h1, decide_eq_false h2, Bool.true_and, Bool.false_and]
        apply pure_of _ (d_law_small _ _ H) rfl
        rotate_left 2
        · simp (disch := first | with_reducible rfl | assumption | omega | rfl | (simp only [go_sem]; first | done | omega)) only [go_sem, ↓reduceIte, reduceCtorEq, Nat.reduceEqDiff, Nat.reduceAdd, Nat.reduceSub, Nat.reduceMul, Nat.reduceDiv, Nat.reduceMod, Nat.reduceLeDiff, Nat.reduceLT, Nat.reduceBEq, Int.reduceEq, Int.reduceBEq, Int.reduceBNe, Int.reduceLT, Int.reduceLE, Int.reduceAdd, Int.reduceSub, Int.reduceNeg, Int.reduceToNat, Int.reducePow, Nat.reducePow, Int.reduceMul, Int.reduceDiv, ↓s_law_small, hH1, z1, f1, hk, h1', hrr, h2']
          rfl
        · exact s1
    · have h1' : ¬ (nk : Int) ≤ 20 := by omega
      rw [decide_eq_false h1, Bool.false_and]
      apply pure_of _ (d_law_small _ _ H) rfl
      rotate_left 2
      · simp (disch := first | with_reducible rfl | assumption | omega | rfl | (simp only [go_sem]; first | done | omega)) only [go_sem, ↓reduceIte, reduceCtorEq, Nat.reduceEqDiff, Nat.reduceAdd, Nat.reduceSub, Nat.reduceMul, Nat.reduceDiv, Nat.reduceMod, Nat.reduceLeDiff, Nat.reduceLT, Nat.reduceBEq, Int.reduceEq, Int.reduceBEq, Int.reduceBNe, Int.reduceLT, Int.reduceLE, Int.reduceAdd, Int.reduceSub, Int.reduceNeg, Int.reduceToNat, Int.reducePow, Nat.reducePow, Int.reduceMul, Int.reduceDiv, ↓s_law_small, hH1, z1, f1, hk, h1']
        rfl
      · exact s1
theorem smallP_ok {nk nr : Nat} {l : List Cl} (h : smallP nk nr l = true) : nk ≤ 20 ∧ nr ≤ 20 ∧ l.length ≤ 20 ∧ ∀ a ∈ l, (bl a.s).length ≤ 60 := by
  unfold smallP at h
  simp only [Bool.and_eq_true, decide_eq_true_eq] at h
  refine ⟨h.2.1, h.2.2.1, h.2.2.2, fun a ha => ?_⟩
  have := List.all_eq_true.1 h.1 a (by rw [List.take_of_length_le (by omega)]; exact ha)
  simpa [smC] using this

theorem decCl {W : World} {H : Type} {enc : TypeId × Value → H} {cs : List Value} {n : Nat} {y : DataW H × List MemPlace} (h : DataW.trod enc Tryd.prog W 0 (fun _ => true) true n T.api_Cell cs = some y) (hl : cs.length = ECl.w) :
    ∃ a : Cl, cs.map (conv2 W.heap.size) = ECl.enc a ∧ True := by
  have ht := Tryd.underlying44
  obtain ⟨c0, c1, c2, c3, c4, rfl⟩ : ∃ c0 c1 c2 c3 c4, cs = [c0, c1, c2, c3, c4] := by
    match cs, hl with
    | [c0, c1, c2, c3, c4], _ => exact ⟨_, _, _, _, _, rfl⟩
  obtain ⟨m0, z0, h0⟩ := dec_field ht h (i := 0) rfl rfl (by kernel_rfl) rfl
  obtain ⟨m1, z1, h1⟩ := dec_field ht h (i := 1) rfl rfl (by kernel_rfl) rfl
  obtain ⟨m2, z2, h2⟩ := dec_field ht h (i := 2) rfl rfl (by kernel_rfl) rfl
  obtain ⟨m3, z3, h3⟩ := dec_field ht h (i := 3) rfl rfl (by kernel_rfl) rfl
  obtain ⟨m4, z4, h4⟩ := dec_field ht h (i := 4) rfl rfl (by kernel_rfl) rfl
  obtain ⟨s0, rfl, _⟩ := dec_int Tryd.underlying41 h0
  obtain ⟨s1, rfl, _⟩ := dec_int Tryd.underlying42 h1
  obtain ⟨s2, rfl, _⟩ := dec_int Tryd.underlying3 h2
  obtain ⟨s3, rfl, _⟩ := dec_str Tryd.underlying9 h3
  obtain ⟨s4, rfl⟩ : ∃ b, c4 = .bool b := by
    obtain ⟨b, hb, _⟩ := DataW.trod_bool Tryd.underlying4 h4
    exact ⟨b, (List.cons.inj hb).1⟩
  exact ⟨⟨s0, s1, s2, s3, s4⟩, rfl, trivial⟩
theorem decClS {W : World} {H : Type} {enc : TypeId × Value → H} (_ : 0 < W.heap.size) {cs : List Value} {n : Nat} {y : DataW H × List MemPlace} (h : DataW.trod enc Tryd.prog W 0 (fun _ => true) true n T.api_Cell cs = some y) (hl : cs.length = ECl.w) :
    ∃ a : Cl, cs.map (conv2 W.heap.size) = ECl.enc a ∧ True := decCl h hl
theorem decClA {W : World} {H : Type} {enc : TypeId × Value → H} {cs : List Value} {n : Nat} {y : DataW H × List MemPlace} (_ : 0 < W.heap.size ∨ ∀ c, c ∈ cs → ∀ a, c ≠ .slice (some a) 0 0) (h : DataW.trod enc Tryd.prog W 0 (fun _ => true) true n T.api_Cell cs = some y) (hl : cs.length = ECl.w) :
    ∃ a : Cl, cs.map (conv2 W.heap.size) = ECl.enc a ∧ True := decCl h hl

end Go.Proofs.YtlmhioanjmhaiaaDoor
