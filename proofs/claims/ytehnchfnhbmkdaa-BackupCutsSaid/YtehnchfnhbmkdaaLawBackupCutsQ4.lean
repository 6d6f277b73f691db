/-
  14 texts in one (merge.py): Ds Eng23 Eng24 Eng25 Eng26 Eng30 Eng28 A B C D E F G.
  Conditions: none. By an AI agent.
-/
import Derived.Test.YtehnchfnhbmkdaaLawBackupCutsQ3
import Derived.Laws.StructEq

/-
  The equations of the seat's functions over calls in the limit (a program of ours printed it).
  Conditions: none. By an AI agent.
-/
set_option linter.unusedVariables false
namespace Go.Proofs.Ytehnchfnhbmkdaa
open Go Eng

theorem u_int : Try.prog.underlying T.int = Try.prog.underlying 3 := rfl
theorem u_bool : Try.prog.underlying T.bool = Try.prog.underlying 4 := rfl
theorem u_uint8 : Try.prog.underlying T.uint8 = Try.prog.underlying 5 := rfl
theorem u_string : Try.prog.underlying T.string = Try.prog.underlying 9 := rfl
theorem u_sl_uint8 : Try.prog.underlying T.sl_uint8 = Try.prog.underlying 22 := rfl
theorem u_sl_sl_uint8 : Try.prog.underlying T.sl_sl_uint8 = Try.prog.underlying 25 := rfl
theorem u_api_Errno : Try.prog.underlying T.api_Errno = Try.prog.underlying 32 := rfl
theorem u_sl_api_Pair : Try.prog.underlying T.sl_api_Pair = Try.prog.underlying 37 := rfl
theorem u_p_model_Model : Try.prog.underlying T.p_model_Model = Try.prog.underlying 39 := rfl
theorem u_uint32 : Try.prog.underlying T.uint32 = Try.prog.underlying 43 := rfl
theorem u_api_Pair : Try.prog.underlying T.api_Pair = Try.prog.underlying 60 := rfl
theorem u_model_Model : Try.prog.underlying T.model_Model = Try.prog.underlying 62 := rfl
theorem u_uint : Try.prog.underlying T.uint = Try.prog.underlying 73 := rfl
theorem u_map_uint32_uint8 : Try.prog.underlying T.map_uint32_uint8 = Try.prog.underlying 86 := rfl
@[go_sem] theorem x_int_uint8 {n : Int} {H : AHeap} : xconv Try.prog T.int T.uint8 (.int .i64 n) H = some (.int .u8 (IntKind.wrap .u8 n), H) := xconv_int (P := Try.prog) (s := 3) (t := 5) Try.underlying3 Try.underlying5
@[go_sem] theorem x_int_uint32 {n : Int} {H : AHeap} : xconv Try.prog T.int T.uint32 (.int .i64 n) H = some (.int .u32 (IntKind.wrap .u32 n), H) := xconv_int (P := Try.prog) (s := 3) (t := 43) Try.underlying3 Try.underlying43
@[go_sem] theorem x_int_uint {n : Int} {H : AHeap} : xconv Try.prog T.int T.uint (.int .i64 n) H = some (.int .u64 (IntKind.wrap .u64 n), H) := xconv_int (P := Try.prog) (s := 3) (t := 73) Try.underlying3 Try.underlying73
@[go_sem] theorem x_uint8_int {n : Int} {H : AHeap} : xconv Try.prog T.uint8 T.int (.int .u8 n) H = some (.int .i64 (IntKind.wrap .i64 n), H) := xconv_int (P := Try.prog) (s := 5) (t := 3) Try.underlying5 Try.underlying3
@[go_sem] theorem x_uint8_uint32 {n : Int} {H : AHeap} : xconv Try.prog T.uint8 T.uint32 (.int .u8 n) H = some (.int .u32 (IntKind.wrap .u32 n), H) := xconv_int (P := Try.prog) (s := 5) (t := 43) Try.underlying5 Try.underlying43
@[go_sem] theorem x_uint32_int {n : Int} {H : AHeap} : xconv Try.prog T.uint32 T.int (.int .u32 n) H = some (.int .i64 (IntKind.wrap .i64 n), H) := xconv_int (P := Try.prog) (s := 43) (t := 3) Try.underlying43 Try.underlying3
@[go_sem] theorem x_uint32_uint8 {n : Int} {H : AHeap} : xconv Try.prog T.uint32 T.uint8 (.int .u32 n) H = some (.int .u8 (IntKind.wrap .u8 n), H) := xconv_int (P := Try.prog) (s := 43) (t := 5) Try.underlying43 Try.underlying5
@[go_sem] theorem x_uint_int {n : Int} {H : AHeap} : xconv Try.prog T.uint T.int (.int .u64 n) H = some (.int .i64 (IntKind.wrap .i64 n), H) := xconv_int (P := Try.prog) (s := 73) (t := 3) Try.underlying73 Try.underlying3
theorem c_model_Model_Len {call : CallF} {x c : Array Value} {args : List Value} {H : AHeap} {k : Value → AHeap → Res} : callK Try.prog call (.func (.func F.model_Model_Len) x c) args H k = enterK call F.model_Model_Len (x.toList ++ args ++ c.toList) H k := by kernel_rfl
theorem c_slices_Chunk_byte_1 {call : CallF} {x c : Array Value} {args : List Value} {H : AHeap} {k : Value → AHeap → Res} : callK Try.prog call (.func (.func F.slices_Chunk_byte_1) x c) args H k = enterK call F.slices_Chunk_byte_1 (x.toList ++ args ++ c.toList) H k := by kernel_rfl
theorem c_model_check_1 {call : CallF} {x c : Array Value} {args : List Value} {H : AHeap} {k : Value → AHeap → Res} : callK Try.prog call (.func (.func F.model_check_1) x c) args H k = enterK call F.model_check_1 (x.toList ++ args ++ c.toList) H k := by kernel_rfl
theorem c_model_Model_place {call : CallF} {x c : Array Value} {args : List Value} {H : AHeap} {k : Value → AHeap → Res} : callK Try.prog call (.func (.func F.model_Model_place) x c) args H k = enterK call F.model_Model_place (x.toList ++ args ++ c.toList) H k := by kernel_rfl
theorem c_model_Model_place_1 {call : CallF} {x c : Array Value} {args : List Value} {H : AHeap} {k : Value → AHeap → Res} : callK Try.prog call (.func (.func F.model_Model_place_1) x c) args H k = enterK call F.model_Model_place_1 (x.toList ++ args ++ c.toList) H k := by kernel_rfl

theorem d_law_cuts (a0 : Value) (a1 : Value) (a2 : Value) (a3 : Value) (H : AHeap) {r : Value × AHeap} (h : s_law_cuts guardK condL shareL Try.prog CC a0 a1 a2 a3 H (endK Try.prog [.tmp 8]) = some r) : CC F.law_cuts [a0, a1, a2, a3] H = some (tidy H r) := D_body (by kernel_rfl) ((s_law_cuts_eq stdL CC limLP a0 a1 a2 a3 H).trans (Eq.trans (show s_law_cuts stdL.b.g stdL.c stdL.s Try.prog CC a0 a1 a2 a3 H (endK Try.prog [.tmp 8]) = s_law_cuts guardK condL shareL Try.prog CC a0 a1 a2 a3 H (endK Try.prog [.tmp 8]) by kernel_rfl) h))

noncomputable def l_law_pieces_0 (v0 : Value) (v1 : Value) (v5 : Value) (v6 : Value) (v7 : Value) (H : AHeap) (k : K) : Res := loopL stdL Try.prog hints CC limLP F.law_pieces 0 [(0, v0), (1, v1), (5, v5), (6, v6), (7, v7)] H k
theorem r_law_pieces_0 (v0 : Value) (v1 : Value) (v5 : Value) (v6 : Value) (v7 : Value) (H : AHeap) (k : K) : l_law_pieces_0 v0 v1 v5 v6 v7 H k = s_law_pieces_b0 guardK condL shareL Try.prog CC l_law_pieces_0 v0 v1 v5 v6 v7 H (seqK (fun T H => l_law_pieces_0 (get T 0) (get T 1) (get T 5) (get T 6) (get T 7) H k) k) := ((loopL_next (by kernel_rfl) rfl H k).trans (s_law_pieces_b0_eq stdL CC limLP v0 v1 v5 v6 v7 H _)).trans (by kernel_rfl)
theorem d_law_pieces (a0 : Value) (a1 : Value) (H : AHeap) {r : Value × AHeap} (h : s_law_pieces guardK condL shareL Try.prog CC l_law_pieces_0 a0 a1 H (endK Try.prog [.tmp 4]) = some r) : CC F.law_pieces [a0, a1] H = some (tidy H r) := D_body (by kernel_rfl) ((s_law_pieces_eq stdL CC limLP a0 a1 H).trans (Eq.trans (show s_law_pieces stdL.b.g stdL.c stdL.s Try.prog CC (fun v0 v1 v5 v6 v7 H k => loopL stdL Try.prog hints CC limLP F.law_pieces 0 [(0, v0), (1, v1), (5, v5), (6, v6), (7, v7)] H k) a0 a1 H (endK Try.prog [.tmp 4]) = s_law_pieces guardK condL shareL Try.prog CC l_law_pieces_0 a0 a1 H (endK Try.prog [.tmp 4]) by kernel_rfl) h))

theorem d_law_joins (a0 : Value) (a1 : Value) (a2 : Value) (H : AHeap) {r : Value × AHeap} (h : s_law_joins guardK condL shareL Try.prog CC a0 a1 a2 H (endK Try.prog [.tmp 6]) = some r) : CC F.law_joins [a0, a1, a2] H = some (tidy H r) := D_body (by kernel_rfl) ((s_law_joins_eq stdL CC limLP a0 a1 a2 H).trans (Eq.trans (show s_law_joins stdL.b.g stdL.c stdL.s Try.prog CC a0 a1 a2 H (endK Try.prog [.tmp 6]) = s_law_joins guardK condL shareL Try.prog CC a0 a1 a2 H (endK Try.prog [.tmp 6]) by kernel_rfl) h))

noncomputable def l_law_joined_0 (v0 : Value) (v4 : Value) (H : AHeap) (k : K) : Res := loopL stdL Try.prog hints CC limLP F.law_joined 0 [(0, v0), (4, v4)] H k
noncomputable def l_law_joined_1 (v0 : Value) (v10 : Value) (v12 : Value) (v15 : Value) (H : AHeap) (k : K) : Res := loopL stdL Try.prog hints CC limLP F.law_joined 1 [(0, v0), (10, v10), (12, v12), (15, v15)] H k
noncomputable def l_law_joined_2 (v0 : Value) (v10 : Value) (v12 : Value) (v15 : Value) (v17 : Value) (v19 : Value) (v21 : Value) (H : AHeap) (k : K) : Res := loopL stdL Try.prog hints CC limLP F.law_joined 2 [(0, v0), (10, v10), (12, v12), (15, v15), (17, v17), (19, v19), (21, v21)] H k
noncomputable def l_law_joined_3 (v0 : Value) (v10 : Value) (v12 : Value) (v27 : Value) (v28 : Value) (H : AHeap) (k : K) : Res := loopL stdL Try.prog hints CC limLP F.law_joined 3 [(0, v0), (10, v10), (12, v12), (27, v27), (28, v28)] H k
noncomputable def l_law_joined_4 (v0 : Value) (v10 : Value) (v12 : Value) (v27 : Value) (v28 : Value) (v29 : Value) (v30 : Value) (H : AHeap) (k : K) : Res := loopL stdL Try.prog hints CC limLP F.law_joined 4 [(0, v0), (10, v10), (12, v12), (27, v27), (28, v28), (29, v29), (30, v30)] H k
theorem r_law_joined_0 (v0 : Value) (v4 : Value) (H : AHeap) (k : K) : l_law_joined_0 v0 v4 H k = s_law_joined_b0 guardK condL shareL Try.prog CC l_law_joined_0 l_law_joined_1 l_law_joined_2 l_law_joined_3 l_law_joined_4 v0 v4 H (seqK (fun T H => l_law_joined_0 (get T 0) (get T 4) H k) k) := ((loopL_next (by kernel_rfl) rfl H k).trans (s_law_joined_b0_eq stdL CC limLP v0 v4 H _)).trans (by kernel_rfl)
theorem r_law_joined_1 (v0 : Value) (v10 : Value) (v12 : Value) (v15 : Value) (H : AHeap) (k : K) : l_law_joined_1 v0 v10 v12 v15 H k = s_law_joined_b1 guardK condL shareL Try.prog CC l_law_joined_0 l_law_joined_1 l_law_joined_2 l_law_joined_3 l_law_joined_4 v0 v10 v12 v15 H (seqK (fun T H => l_law_joined_1 (get T 0) (get T 10) (get T 12) (get T 15) H k) k) := ((loopL_next (by kernel_rfl) rfl H k).trans (s_law_joined_b1_eq stdL CC limLP v0 v10 v12 v15 H _)).trans (by kernel_rfl)
theorem r_law_joined_2 (v0 : Value) (v10 : Value) (v12 : Value) (v15 : Value) (v17 : Value) (v19 : Value) (v21 : Value) (H : AHeap) (k : K) : l_law_joined_2 v0 v10 v12 v15 v17 v19 v21 H k = s_law_joined_b2 guardK condL shareL Try.prog CC l_law_joined_0 l_law_joined_1 l_law_joined_2 l_law_joined_3 l_law_joined_4 v0 v10 v12 v15 v17 v19 v21 H (seqK (fun T H => l_law_joined_2 (get T 0) (get T 10) (get T 12) (get T 15) (get T 17) (get T 19) (get T 21) H k) k) := ((loopL_next (by kernel_rfl) rfl H k).trans (s_law_joined_b2_eq stdL CC limLP v0 v10 v12 v15 v17 v19 v21 H _)).trans (by kernel_rfl)
theorem r_law_joined_3 (v0 : Value) (v10 : Value) (v12 : Value) (v27 : Value) (v28 : Value) (H : AHeap) (k : K) : l_law_joined_3 v0 v10 v12 v27 v28 H k = s_law_joined_b3 guardK condL shareL Try.prog CC l_law_joined_0 l_law_joined_1 l_law_joined_2 l_law_joined_3 l_law_joined_4 v0 v10 v12 v27 v28 H (seqK (fun T H => l_law_joined_3 (get T 0) (get T 10) (get T 12) (get T 27) (get T 28) H k) k) := ((loopL_next (by kernel_rfl) rfl H k).trans (s_law_joined_b3_eq stdL CC limLP v0 v10 v12 v27 v28 H _)).trans (by kernel_rfl)
theorem r_law_joined_4 (v0 : Value) (v10 : Value) (v12 : Value) (v27 : Value) (v28 : Value) (v29 : Value) (v30 : Value) (H : AHeap) (k : K) : l_law_joined_4 v0 v10 v12 v27 v28 v29 v30 H k = s_law_joined_b4 guardK condL shareL Try.prog CC l_law_joined_0 l_law_joined_1 l_law_joined_2 l_law_joined_3 l_law_joined_4 v0 v10 v12 v27 v28 v29 v30 H (seqK (fun T H => l_law_joined_4 (get T 0) (get T 10) (get T 12) (get T 27) (get T 28) (get T 29) (get T 30) H k) k) := ((loopL_next (by kernel_rfl) rfl H k).trans (s_law_joined_b4_eq stdL CC limLP v0 v10 v12 v27 v28 v29 v30 H _)).trans (by kernel_rfl)
theorem d_law_joined (a0 : Value) (H : AHeap) {r : Value × AHeap} (h : s_law_joined guardK condL shareL Try.prog CC l_law_joined_0 l_law_joined_1 l_law_joined_2 l_law_joined_3 l_law_joined_4 a0 H (endK Try.prog [.tmp 2, .tmp 3]) = some r) : CC F.law_joined [a0] H = some (tidy H r) := D_body (by kernel_rfl) ((s_law_joined_eq stdL CC limLP a0 H).trans (Eq.trans (show s_law_joined stdL.b.g stdL.c stdL.s Try.prog CC (fun v0 v4 H k => loopL stdL Try.prog hints CC limLP F.law_joined 0 [(0, v0), (4, v4)] H k) (fun v0 v10 v12 v15 H k => loopL stdL Try.prog hints CC limLP F.law_joined 1 [(0, v0), (10, v10), (12, v12), (15, v15)] H k) (fun v0 v10 v12 v15 v17 v19 v21 H k => loopL stdL Try.prog hints CC limLP F.law_joined 2 [(0, v0), (10, v10), (12, v12), (15, v15), (17, v17), (19, v19), (21, v21)] H k) (fun v0 v10 v12 v27 v28 H k => loopL stdL Try.prog hints CC limLP F.law_joined 3 [(0, v0), (10, v10), (12, v12), (27, v27), (28, v28)] H k) (fun v0 v10 v12 v27 v28 v29 v30 H k => loopL stdL Try.prog hints CC limLP F.law_joined 4 [(0, v0), (10, v10), (12, v12), (27, v27), (28, v28), (29, v29), (30, v30)] H k) a0 H (endK Try.prog [.tmp 2, .tmp 3]) = s_law_joined guardK condL shareL Try.prog CC l_law_joined_0 l_law_joined_1 l_law_joined_2 l_law_joined_3 l_law_joined_4 a0 H (endK Try.prog [.tmp 2, .tmp 3]) by kernel_rfl) h))

noncomputable def l_backup_Cut_0 (v6 : Value) (v7 : Value) (v8 : Value) (v37 : Value) (v38 : Value) (v39 : Value) (H : AHeap) (k : K) : Res := loopL stdL Try.prog hints CC limLP F.backup_Cut 0 [(6, v6), (7, v7), (8, v8), (37, v37), (38, v38), (39, v39)] H k
theorem r_backup_Cut_0 (v6 : Value) (v7 : Value) (v8 : Value) (v37 : Value) (v38 : Value) (v39 : Value) (H : AHeap) (k : K) : l_backup_Cut_0 v6 v7 v8 v37 v38 v39 H k = s_backup_Cut_b0 guardK condL shareL Try.prog CC l_backup_Cut_0 v6 v7 v8 v37 v38 v39 H (seqK (fun T H => l_backup_Cut_0 (get T 6) (get T 7) (get T 8) (get T 37) (get T 38) (get T 39) H k) k) := ((loopL_next (by kernel_rfl) rfl H k).trans (s_backup_Cut_b0_eq stdL CC limLP v6 v7 v8 v37 v38 v39 H _)).trans (by kernel_rfl)
theorem d_backup_Cut (a0 : Value) (a1 : Value) (H : AHeap) {r : Value × AHeap} (h : s_backup_Cut guardK condL shareL Try.prog CC l_backup_Cut_0 a0 a1 H (endK Try.prog [.tmp 4, .tmp 5]) = some r) : CC F.backup_Cut [a0, a1] H = some (tidy H r) := D_body (by kernel_rfl) ((s_backup_Cut_eq stdL CC limLP a0 a1 H).trans (Eq.trans (show s_backup_Cut stdL.b.g stdL.c stdL.s Try.prog CC (fun v6 v7 v8 v37 v38 v39 H k => loopL stdL Try.prog hints CC limLP F.backup_Cut 0 [(6, v6), (7, v7), (8, v8), (37, v37), (38, v38), (39, v39)] H k) a0 a1 H (endK Try.prog [.tmp 4, .tmp 5]) = s_backup_Cut guardK condL shareL Try.prog CC l_backup_Cut_0 a0 a1 H (endK Try.prog [.tmp 4, .tmp 5]) by kernel_rfl) h))

theorem d_law_decodes (a0 : Value) (a1 : Value) (a2 : Value) (H : AHeap) {r : Value × AHeap} (h : s_law_decodes guardK condL shareL Try.prog CC a0 a1 a2 H (endK Try.prog [.tmp 6]) = some r) : CC F.law_decodes [a0, a1, a2] H = some (tidy H r) := D_body (by kernel_rfl) ((s_law_decodes_eq stdL CC limLP a0 a1 a2 H).trans (Eq.trans (show s_law_decodes stdL.b.g stdL.c stdL.s Try.prog CC a0 a1 a2 H (endK Try.prog [.tmp 6]) = s_law_decodes guardK condL shareL Try.prog CC a0 a1 a2 H (endK Try.prog [.tmp 6]) by kernel_rfl) h))

noncomputable def l_law_small_0 (v0 : Value) (v3 : Value) (H : AHeap) (k : K) : Res := loopL stdL Try.prog hints CC limLP F.law_small 0 [(0, v0), (3, v3)] H k
theorem r_law_small_0 (v0 : Value) (v3 : Value) (H : AHeap) (k : K) : l_law_small_0 v0 v3 H k = s_law_small_b0 guardK condL shareL Try.prog CC l_law_small_0 v0 v3 H (seqK (fun T H => l_law_small_0 (get T 0) (get T 3) H k) k) := ((loopL_next (by kernel_rfl) rfl H k).trans (s_law_small_b0_eq stdL CC limLP v0 v3 H _)).trans (by kernel_rfl)
theorem d_law_small (a0 : Value) (H : AHeap) {r : Value × AHeap} (h : s_law_small guardK condL shareL Try.prog CC l_law_small_0 a0 H (endK Try.prog [.tmp 2]) = some r) : CC F.law_small [a0] H = some (tidy H r) := D_body (by kernel_rfl) ((s_law_small_eq stdL CC limLP a0 H).trans (Eq.trans (show s_law_small stdL.b.g stdL.c stdL.s Try.prog CC (fun v0 v3 H k => loopL stdL Try.prog hints CC limLP F.law_small 0 [(0, v0), (3, v3)] H k) a0 H (endK Try.prog [.tmp 2]) = s_law_small guardK condL shareL Try.prog CC l_law_small_0 a0 H (endK Try.prog [.tmp 2]) by kernel_rfl) h))

noncomputable def l_law_filled_0 (v0 : Value) (v3 : Value) (v4 : Value) (H : AHeap) (k : K) : Res := loopL stdL Try.prog hints CC limLP F.law_filled 0 [(0, v0), (3, v3), (4, v4)] H k
theorem r_law_filled_0 (v0 : Value) (v3 : Value) (v4 : Value) (H : AHeap) (k : K) : l_law_filled_0 v0 v3 v4 H k = s_law_filled_b0 guardK condL shareL Try.prog CC l_law_filled_0 v0 v3 v4 H (seqK (fun T H => l_law_filled_0 (get T 0) (get T 3) (get T 4) H k) k) := ((loopL_next (by kernel_rfl) rfl H k).trans (s_law_filled_b0_eq stdL CC limLP v0 v3 v4 H _)).trans (by kernel_rfl)
theorem d_law_filled (a0 : Value) (H : AHeap) {r : Value × AHeap} (h : s_law_filled guardK condL shareL Try.prog CC l_law_filled_0 a0 H (endK Try.prog [.tmp 2]) = some r) : CC F.law_filled [a0] H = some (tidy H r) := D_body (by kernel_rfl) ((s_law_filled_eq stdL CC limLP a0 H).trans (Eq.trans (show s_law_filled stdL.b.g stdL.c stdL.s Try.prog CC (fun v0 v3 v4 H k => loopL stdL Try.prog hints CC limLP F.law_filled 0 [(0, v0), (3, v3), (4, v4)] H k) a0 H (endK Try.prog [.tmp 2]) = s_law_filled guardK condL shareL Try.prog CC l_law_filled_0 a0 H (endK Try.prog [.tmp 2]) by kernel_rfl) h))

noncomputable def l_law_bytesOf_0 (v0 : Value) (v3 : Value) (v4 : Value) (H : AHeap) (k : K) : Res := loopL stdL Try.prog hints CC limLP F.law_bytesOf 0 [(0, v0), (3, v3), (4, v4)] H k
noncomputable def l_law_bytesOf_1 (v0 : Value) (v3 : Value) (v4 : Value) (v5 : Value) (H : AHeap) (k : K) : Res := loopL stdL Try.prog hints CC limLP F.law_bytesOf 1 [(0, v0), (3, v3), (4, v4), (5, v5)] H k
theorem r_law_bytesOf_0 (v0 : Value) (v3 : Value) (v4 : Value) (H : AHeap) (k : K) : l_law_bytesOf_0 v0 v3 v4 H k = s_law_bytesOf_b0 guardK condL shareL Try.prog CC l_law_bytesOf_0 l_law_bytesOf_1 v0 v3 v4 H (seqK (fun T H => l_law_bytesOf_0 (get T 0) (get T 3) (get T 4) H k) k) := ((loopL_next (by kernel_rfl) rfl H k).trans (s_law_bytesOf_b0_eq stdL CC limLP v0 v3 v4 H _)).trans (by kernel_rfl)
theorem r_law_bytesOf_1 (v0 : Value) (v3 : Value) (v4 : Value) (v5 : Value) (H : AHeap) (k : K) : l_law_bytesOf_1 v0 v3 v4 v5 H k = s_law_bytesOf_b1 guardK condL shareL Try.prog CC l_law_bytesOf_0 l_law_bytesOf_1 v0 v3 v4 v5 H (seqK (fun T H => l_law_bytesOf_1 (get T 0) (get T 3) (get T 4) (get T 5) H k) k) := ((loopL_next (by kernel_rfl) rfl H k).trans (s_law_bytesOf_b1_eq stdL CC limLP v0 v3 v4 v5 H _)).trans (by kernel_rfl)
theorem d_law_bytesOf (a0 : Value) (H : AHeap) {r : Value × AHeap} (h : s_law_bytesOf guardK condL shareL Try.prog CC l_law_bytesOf_0 l_law_bytesOf_1 a0 H (endK Try.prog [.tmp 2]) = some r) : CC F.law_bytesOf [a0] H = some (tidy H r) := D_body (by kernel_rfl) ((s_law_bytesOf_eq stdL CC limLP a0 H).trans (Eq.trans (show s_law_bytesOf stdL.b.g stdL.c stdL.s Try.prog CC (fun v0 v3 v4 H k => loopL stdL Try.prog hints CC limLP F.law_bytesOf 0 [(0, v0), (3, v3), (4, v4)] H k) (fun v0 v3 v4 v5 H k => loopL stdL Try.prog hints CC limLP F.law_bytesOf 1 [(0, v0), (3, v3), (4, v4), (5, v5)] H k) a0 H (endK Try.prog [.tmp 2]) = s_law_bytesOf guardK condL shareL Try.prog CC l_law_bytesOf_0 l_law_bytesOf_1 a0 H (endK Try.prog [.tmp 2]) by kernel_rfl) h))

theorem d_model_Model_Pairs (a0 : Value) (H : AHeap) {r : Value × AHeap} (h : s_model_Model_Pairs guardK condL shareL Try.prog CC a0 H (endK Try.prog [.tmp 2]) = some r) : CC F.model_Model_Pairs [a0] H = some (tidy H r) := D_body (by kernel_rfl) ((s_model_Model_Pairs_eq stdL CC limLP a0 H).trans (Eq.trans (show s_model_Model_Pairs stdL.b.g stdL.c stdL.s Try.prog CC a0 H (endK Try.prog [.tmp 2]) = s_model_Model_Pairs guardK condL shareL Try.prog CC a0 H (endK Try.prog [.tmp 2]) by kernel_rfl) h))

noncomputable def l_backup_Check_0 (v3 : Value) (v4 : Value) (v7 : Value) (v8 : Value) (v9 : Value) (H : AHeap) (k : K) : Res := loopL stdL Try.prog hints CC limLP F.backup_Check 0 [(3, v3), (4, v4), (7, v7), (8, v8), (9, v9)] H k
theorem r_backup_Check_0 (v3 : Value) (v4 : Value) (v7 : Value) (v8 : Value) (v9 : Value) (H : AHeap) (k : K) : l_backup_Check_0 v3 v4 v7 v8 v9 H k = s_backup_Check_b0 guardK condL shareL Try.prog CC l_backup_Check_0 v3 v4 v7 v8 v9 H (seqK (fun T H => l_backup_Check_0 (get T 3) (get T 4) (get T 7) (get T 8) (get T 9) H k) k) := ((loopL_next (by kernel_rfl) rfl H k).trans (s_backup_Check_b0_eq stdL CC limLP v3 v4 v7 v8 v9 H _)).trans (by kernel_rfl)
theorem d_backup_Check (a0 : Value) (H : AHeap) {r : Value × AHeap} (h : s_backup_Check guardK condL shareL Try.prog CC l_backup_Check_0 a0 H (endK Try.prog [.tmp 2]) = some r) : CC F.backup_Check [a0] H = some (tidy H r) := D_body (by kernel_rfl) ((s_backup_Check_eq stdL CC limLP a0 H).trans (Eq.trans (show s_backup_Check stdL.b.g stdL.c stdL.s Try.prog CC (fun v3 v4 v7 v8 v9 H k => loopL stdL Try.prog hints CC limLP F.backup_Check 0 [(3, v3), (4, v4), (7, v7), (8, v8), (9, v9)] H k) a0 H (endK Try.prog [.tmp 2]) = s_backup_Check guardK condL shareL Try.prog CC l_backup_Check_0 a0 H (endK Try.prog [.tmp 2]) by kernel_rfl) h))

noncomputable def l_law_check_0 (v0 : Value) (v3 : Value) (v4 : Value) (v5 : Value) (H : AHeap) (k : K) : Res := loopL stdL Try.prog hints CC limLP F.law_check 0 [(0, v0), (3, v3), (4, v4), (5, v5)] H k
theorem r_law_check_0 (v0 : Value) (v3 : Value) (v4 : Value) (v5 : Value) (H : AHeap) (k : K) : l_law_check_0 v0 v3 v4 v5 H k = s_law_check_b0 guardK condL shareL Try.prog CC l_law_check_0 v0 v3 v4 v5 H (seqK (fun T H => l_law_check_0 (get T 0) (get T 3) (get T 4) (get T 5) H k) k) := ((loopL_next (by kernel_rfl) rfl H k).trans (s_law_check_b0_eq stdL CC limLP v0 v3 v4 v5 H _)).trans (by kernel_rfl)
theorem d_law_check (a0 : Value) (H : AHeap) {r : Value × AHeap} (h : s_law_check guardK condL shareL Try.prog CC l_law_check_0 a0 H (endK Try.prog [.tmp 2]) = some r) : CC F.law_check [a0] H = some (tidy H r) := D_body (by kernel_rfl) ((s_law_check_eq stdL CC limLP a0 H).trans (Eq.trans (show s_law_check stdL.b.g stdL.c stdL.s Try.prog CC (fun v0 v3 v4 v5 H k => loopL stdL Try.prog hints CC limLP F.law_check 0 [(0, v0), (3, v3), (4, v4), (5, v5)] H k) a0 H (endK Try.prog [.tmp 2]) = s_law_check guardK condL shareL Try.prog CC l_law_check_0 a0 H (endK Try.prog [.tmp 2]) by kernel_rfl) h))

theorem d_law_encodes (a0 : Value) (a1 : Value) (a2 : Value) (H : AHeap) {r : Value × AHeap} (h : s_law_encodes guardK condL shareL Try.prog CC a0 a1 a2 H (endK Try.prog [.tmp 6]) = some r) : CC F.law_encodes [a0, a1, a2] H = some (tidy H r) := D_body (by kernel_rfl) ((s_law_encodes_eq stdL CC limLP a0 a1 a2 H).trans (Eq.trans (show s_law_encodes stdL.b.g stdL.c stdL.s Try.prog CC a0 a1 a2 H (endK Try.prog [.tmp 6]) = s_law_encodes guardK condL shareL Try.prog CC a0 a1 a2 H (endK Try.prog [.tmp 6]) by kernel_rfl) h))

noncomputable def l_law_many_0 (v0 : Value) (v5 : Value) (v6 : Value) (H : AHeap) (k : K) : Res := loopL stdL Try.prog hints CC limLP F.law_many 0 [(0, v0), (5, v5), (6, v6)] H k
theorem r_law_many_0 (v0 : Value) (v5 : Value) (v6 : Value) (H : AHeap) (k : K) : l_law_many_0 v0 v5 v6 H k = s_law_many_b0 guardK condL shareL Try.prog CC l_law_many_0 v0 v5 v6 H (seqK (fun T H => l_law_many_0 (get T 0) (get T 5) (get T 6) H k) k) := ((loopL_next (by kernel_rfl) rfl H k).trans (s_law_many_b0_eq stdL CC limLP v0 v5 v6 H _)).trans (by kernel_rfl)
theorem d_law_many (a0 : Value) (a1 : Value) (H : AHeap) {r : Value × AHeap} (h : s_law_many guardK condL shareL Try.prog CC l_law_many_0 a0 a1 H (endK Try.prog [.tmp 4]) = some r) : CC F.law_many [a0, a1] H = some (tidy H r) := D_body (by kernel_rfl) ((s_law_many_eq stdL CC limLP a0 a1 H).trans (Eq.trans (show s_law_many stdL.b.g stdL.c stdL.s Try.prog CC (fun v0 v5 v6 H k => loopL stdL Try.prog hints CC limLP F.law_many 0 [(0, v0), (5, v5), (6, v6)] H k) a0 a1 H (endK Try.prog [.tmp 4]) = s_law_many guardK condL shareL Try.prog CC l_law_many_0 a0 a1 H (endK Try.prog [.tmp 4]) by kernel_rfl) h))

theorem d_law_right (a0 : Value) (H : AHeap) {r : Value × AHeap} (h : s_law_right guardK condL shareL Try.prog CC a0 H (endK Try.prog [.tmp 2]) = some r) : CC F.law_right [a0] H = some (tidy H r) := D_body (by kernel_rfl) ((s_law_right_eq stdL CC limLP a0 H).trans (Eq.trans (show s_law_right stdL.b.g stdL.c stdL.s Try.prog CC a0 H (endK Try.prog [.tmp 2]) = s_law_right guardK condL shareL Try.prog CC a0 H (endK Try.prog [.tmp 2]) by kernel_rfl) h))

noncomputable def l_backup_Encode_0 (v5 : Value) (v6 : Value) (v20 : Value) (v21 : Value) (v22 : Value) (H : AHeap) (k : K) : Res := loopL stdL Try.prog hints CC limLP F.backup_Encode 0 [(5, v5), (6, v6), (20, v20), (21, v21), (22, v22)] H k
theorem r_backup_Encode_0 (v5 : Value) (v6 : Value) (v20 : Value) (v21 : Value) (v22 : Value) (H : AHeap) (k : K) : l_backup_Encode_0 v5 v6 v20 v21 v22 H k = s_backup_Encode_b0 guardK condL shareL Try.prog CC l_backup_Encode_0 v5 v6 v20 v21 v22 H (seqK (fun T H => l_backup_Encode_0 (get T 5) (get T 6) (get T 20) (get T 21) (get T 22) H k) k) := ((loopL_next (by kernel_rfl) rfl H k).trans (s_backup_Encode_b0_eq stdL CC limLP v5 v6 v20 v21 v22 H _)).trans (by kernel_rfl)
theorem d_backup_Encode (a0 : Value) (H : AHeap) {r : Value × AHeap} (h : s_backup_Encode guardK condL shareL Try.prog CC l_backup_Encode_0 a0 H (endK Try.prog [.tmp 2, .tmp 3]) = some r) : CC F.backup_Encode [a0] H = some (tidy H r) := D_body (by kernel_rfl) ((s_backup_Encode_eq stdL CC limLP a0 H).trans (Eq.trans (show s_backup_Encode stdL.b.g stdL.c stdL.s Try.prog CC (fun v5 v6 v20 v21 v22 H k => loopL stdL Try.prog hints CC limLP F.backup_Encode 0 [(5, v5), (6, v6), (20, v20), (21, v21), (22, v22)] H k) a0 H (endK Try.prog [.tmp 2, .tmp 3]) = s_backup_Encode guardK condL shareL Try.prog CC l_backup_Encode_0 a0 H (endK Try.prog [.tmp 2, .tmp 3]) by kernel_rfl) h))

theorem d_model_Equal (a0 : Value) (a1 : Value) (H : AHeap) {r : Value × AHeap} (h : s_model_Equal guardK condL shareL Try.prog CC a0 a1 H (endK Try.prog [.tmp 4]) = some r) : CC F.model_Equal [a0, a1] H = some (tidy H r) := D_body (by kernel_rfl) ((s_model_Equal_eq stdL CC limLP a0 a1 H).trans (Eq.trans (show s_model_Equal stdL.b.g stdL.c stdL.s Try.prog CC a0 a1 H (endK Try.prog [.tmp 4]) = s_model_Equal guardK condL shareL Try.prog CC a0 a1 H (endK Try.prog [.tmp 4]) by kernel_rfl) h))

noncomputable def l_backup_Decode_0 (v0 : Value) (v4 : Value) (v5 : Value) (v6 : Value) (v26 : Value) (v27 : Value) (H : AHeap) (k : K) : Res := loopL stdL Try.prog hints CC limLP F.backup_Decode 0 [(0, v0), (4, v4), (5, v5), (6, v6), (26, v26), (27, v27)] H k
theorem r_backup_Decode_0 (v0 : Value) (v4 : Value) (v5 : Value) (v6 : Value) (v26 : Value) (v27 : Value) (H : AHeap) (k : K) : l_backup_Decode_0 v0 v4 v5 v6 v26 v27 H k = s_backup_Decode_b0 guardK condL shareL Try.prog CC l_backup_Decode_0 v0 v4 v5 v6 v26 v27 H (seqK (fun T H => l_backup_Decode_0 (get T 0) (get T 4) (get T 5) (get T 6) (get T 26) (get T 27) H k) k) := ((loopL_next (by kernel_rfl) rfl H k).trans (s_backup_Decode_b0_eq stdL CC limLP v0 v4 v5 v6 v26 v27 H _)).trans (by kernel_rfl)
theorem d_backup_Decode (a0 : Value) (H : AHeap) {r : Value × AHeap} (h : s_backup_Decode guardK condL shareL Try.prog CC l_backup_Decode_0 a0 H (endK Try.prog [.tmp 2, .tmp 3]) = some r) : CC F.backup_Decode [a0] H = some (tidy H r) := D_body (by kernel_rfl) ((s_backup_Decode_eq stdL CC limLP a0 H).trans (Eq.trans (show s_backup_Decode stdL.b.g stdL.c stdL.s Try.prog CC (fun v0 v4 v5 v6 v26 v27 H k => loopL stdL Try.prog hints CC limLP F.backup_Decode 0 [(0, v0), (4, v4), (5, v5), (6, v6), (26, v26), (27, v27)] H k) a0 H (endK Try.prog [.tmp 2, .tmp 3]) = s_backup_Decode guardK condL shareL Try.prog CC l_backup_Decode_0 a0 H (endK Try.prog [.tmp 2, .tmp 3]) by kernel_rfl) h))

noncomputable def l_model_Of_0 (v0 : Value) (v7 : Value) (v8 : Value) (v9 : Value) (H : AHeap) (k : K) : Res := loopL stdL Try.prog hints CC limLP F.model_Of 0 [(0, v0), (7, v7), (8, v8), (9, v9)] H k
theorem r_model_Of_0 (v0 : Value) (v7 : Value) (v8 : Value) (v9 : Value) (H : AHeap) (k : K) : l_model_Of_0 v0 v7 v8 v9 H k = s_model_Of_b0 guardK condL shareL Try.prog CC l_model_Of_0 v0 v7 v8 v9 H (seqK (fun T H => l_model_Of_0 (get T 0) (get T 7) (get T 8) (get T 9) H k) k) := ((loopL_next (by kernel_rfl) rfl H k).trans (s_model_Of_b0_eq stdL CC limLP v0 v7 v8 v9 H _)).trans (by kernel_rfl)
theorem d_model_Of (a0 : Value) (H : AHeap) {r : Value × AHeap} (h : s_model_Of guardK condL shareL Try.prog CC l_model_Of_0 a0 H (endK Try.prog [.tmp 2, .tmp 3]) = some r) : CC F.model_Of [a0] H = some (tidy H r) := D_body (by kernel_rfl) ((s_model_Of_eq stdL CC limLP a0 H).trans (Eq.trans (show s_model_Of stdL.b.g stdL.c stdL.s Try.prog CC (fun v0 v7 v8 v9 H k => loopL stdL Try.prog hints CC limLP F.model_Of 0 [(0, v0), (7, v7), (8, v8), (9, v9)] H k) a0 H (endK Try.prog [.tmp 2, .tmp 3]) = s_model_Of guardK condL shareL Try.prog CC l_model_Of_0 a0 H (endK Try.prog [.tmp 2, .tmp 3]) by kernel_rfl) h))

noncomputable def l_law_same_0 (v0 : Value) (v1 : Value) (v5 : Value) (H : AHeap) (k : K) : Res := loopL stdL Try.prog hints CC limLP F.law_same 0 [(0, v0), (1, v1), (5, v5)] H k
theorem r_law_same_0 (v0 : Value) (v1 : Value) (v5 : Value) (H : AHeap) (k : K) : l_law_same_0 v0 v1 v5 H k = s_law_same_b0 guardK condL shareL Try.prog CC l_law_same_0 v0 v1 v5 H (seqK (fun T H => l_law_same_0 (get T 0) (get T 1) (get T 5) H k) k) := ((loopL_next (by kernel_rfl) rfl H k).trans (s_law_same_b0_eq stdL CC limLP v0 v1 v5 H _)).trans (by kernel_rfl)
theorem d_law_same (a0 : Value) (a1 : Value) (H : AHeap) {r : Value × AHeap} (h : s_law_same guardK condL shareL Try.prog CC l_law_same_0 a0 a1 H (endK Try.prog [.tmp 4]) = some r) : CC F.law_same [a0, a1] H = some (tidy H r) := D_body (by kernel_rfl) ((s_law_same_eq stdL CC limLP a0 a1 H).trans (Eq.trans (show s_law_same stdL.b.g stdL.c stdL.s Try.prog CC (fun v0 v1 v5 H k => loopL stdL Try.prog hints CC limLP F.law_same 0 [(0, v0), (1, v1), (5, v5)] H k) a0 a1 H (endK Try.prog [.tmp 4]) = s_law_same guardK condL shareL Try.prog CC l_law_same_0 a0 a1 H (endK Try.prog [.tmp 4]) by kernel_rfl) h))

noncomputable def l_backup_Join_0 (v0 : Value) (v4 : Value) (v20 : Value) (v21 : Value) (v22 : Value) (H : AHeap) (k : K) : Res := loopL stdL Try.prog hints CC limLP F.backup_Join 0 [(0, v0), (4, v4), (20, v20), (21, v21), (22, v22)] H k
noncomputable def l_backup_Join_1 (v0 : Value) (v35 : Value) (v36 : Value) (v37 : Value) (H : AHeap) (k : K) : Res := loopL stdL Try.prog hints CC limLP F.backup_Join 1 [(0, v0), (35, v35), (36, v36), (37, v37)] H k
noncomputable def l_backup_Join_2 (v0 : Value) (v9 : Value) (v58 : Value) (v59 : Value) (v60 : Value) (H : AHeap) (k : K) : Res := loopL stdL Try.prog hints CC limLP F.backup_Join 2 [(0, v0), (9, v9), (58, v58), (59, v59), (60, v60)] H k
noncomputable def l_backup_Join_3 (v0 : Value) (v9 : Value) (v15 : Value) (v118 : Value) (v119 : Value) (H : AHeap) (k : K) : Res := loopL stdL Try.prog hints CC limLP F.backup_Join 3 [(0, v0), (9, v9), (15, v15), (118, v118), (119, v119)] H k
theorem r_backup_Join_0 (v0 : Value) (v4 : Value) (v20 : Value) (v21 : Value) (v22 : Value) (H : AHeap) (k : K) : l_backup_Join_0 v0 v4 v20 v21 v22 H k = s_backup_Join_b0 guardK condL shareL Try.prog CC l_backup_Join_0 l_backup_Join_1 l_backup_Join_2 l_backup_Join_3 v0 v4 v20 v21 v22 H (seqK (fun T H => l_backup_Join_0 (get T 0) (get T 4) (get T 20) (get T 21) (get T 22) H k) k) := ((loopL_next (by kernel_rfl) rfl H k).trans (s_backup_Join_b0_eq stdL CC limLP v0 v4 v20 v21 v22 H _)).trans (by kernel_rfl)
theorem r_backup_Join_1 (v0 : Value) (v35 : Value) (v36 : Value) (v37 : Value) (H : AHeap) (k : K) : l_backup_Join_1 v0 v35 v36 v37 H k = s_backup_Join_b1 guardK condL shareL Try.prog CC l_backup_Join_0 l_backup_Join_1 l_backup_Join_2 l_backup_Join_3 v0 v35 v36 v37 H (seqK (fun T H => l_backup_Join_1 (get T 0) (get T 35) (get T 36) (get T 37) H k) k) := ((loopL_next (by kernel_rfl) rfl H k).trans (s_backup_Join_b1_eq stdL CC limLP v0 v35 v36 v37 H _)).trans (by kernel_rfl)
theorem r_backup_Join_2 (v0 : Value) (v9 : Value) (v58 : Value) (v59 : Value) (v60 : Value) (H : AHeap) (k : K) : l_backup_Join_2 v0 v9 v58 v59 v60 H k = s_backup_Join_b2 guardK condL shareL Try.prog CC l_backup_Join_0 l_backup_Join_1 l_backup_Join_2 l_backup_Join_3 v0 v9 v58 v59 v60 H (seqK (fun T H => l_backup_Join_2 (get T 0) (get T 9) (get T 58) (get T 59) (get T 60) H k) k) := ((loopL_next (by kernel_rfl) rfl H k).trans (s_backup_Join_b2_eq stdL CC limLP v0 v9 v58 v59 v60 H _)).trans (by kernel_rfl)
theorem r_backup_Join_3 (v0 : Value) (v9 : Value) (v15 : Value) (v118 : Value) (v119 : Value) (H : AHeap) (k : K) : l_backup_Join_3 v0 v9 v15 v118 v119 H k = s_backup_Join_b3 guardK condL shareL Try.prog CC l_backup_Join_0 l_backup_Join_1 l_backup_Join_2 l_backup_Join_3 v0 v9 v15 v118 v119 H (seqK (fun T H => l_backup_Join_3 (get T 0) (get T 9) (get T 15) (get T 118) (get T 119) H k) k) := ((loopL_next (by kernel_rfl) rfl H k).trans (s_backup_Join_b3_eq stdL CC limLP v0 v9 v15 v118 v119 H _)).trans (by kernel_rfl)
theorem d_backup_Join (a0 : Value) (H : AHeap) {r : Value × AHeap} (h : s_backup_Join guardK condL shareL Try.prog CC l_backup_Join_0 l_backup_Join_1 l_backup_Join_2 l_backup_Join_3 a0 H (endK Try.prog [.tmp 2, .tmp 3]) = some r) : CC F.backup_Join [a0] H = some (tidy H r) := D_body (by kernel_rfl) ((s_backup_Join_eq stdL CC limLP a0 H).trans (Eq.trans (show s_backup_Join stdL.b.g stdL.c stdL.s Try.prog CC (fun v0 v4 v20 v21 v22 H k => loopL stdL Try.prog hints CC limLP F.backup_Join 0 [(0, v0), (4, v4), (20, v20), (21, v21), (22, v22)] H k) (fun v0 v35 v36 v37 H k => loopL stdL Try.prog hints CC limLP F.backup_Join 1 [(0, v0), (35, v35), (36, v36), (37, v37)] H k) (fun v0 v9 v58 v59 v60 H k => loopL stdL Try.prog hints CC limLP F.backup_Join 2 [(0, v0), (9, v9), (58, v58), (59, v59), (60, v60)] H k) (fun v0 v9 v15 v118 v119 H k => loopL stdL Try.prog hints CC limLP F.backup_Join 3 [(0, v0), (9, v9), (15, v15), (118, v118), (119, v119)] H k) a0 H (endK Try.prog [.tmp 2, .tmp 3]) = s_backup_Join guardK condL shareL Try.prog CC l_backup_Join_0 l_backup_Join_1 l_backup_Join_2 l_backup_Join_3 a0 H (endK Try.prog [.tmp 2, .tmp 3]) by kernel_rfl) h))

theorem d_law_part (a0 : Value) (H : AHeap) {r : Value × AHeap} (h : s_law_part guardK condL shareL Try.prog CC a0 H (endK Try.prog [.tmp 2, .tmp 3, .tmp 4, .tmp 5, .tmp 6]) = some r) : CC F.law_part [a0] H = some (tidy H r) := D_body (by kernel_rfl) ((s_law_part_eq stdL CC limLP a0 H).trans (Eq.trans (show s_law_part stdL.b.g stdL.c stdL.s Try.prog CC a0 H (endK Try.prog [.tmp 2, .tmp 3, .tmp 4, .tmp 5, .tmp 6]) = s_law_part guardK condL shareL Try.prog CC a0 H (endK Try.prog [.tmp 2, .tmp 3, .tmp 4, .tmp 5, .tmp 6]) by kernel_rfl) h))

theorem d_slices_Chunk_byte (a0 : Value) (a1 : Value) (H : AHeap) {r : Value × AHeap} (h : s_slices_Chunk_byte guardK condL shareL Try.prog CC a0 a1 H (endK Try.prog [.tmp 4]) = some r) : CC F.slices_Chunk_byte [a0, a1] H = some (tidy H r) := D_body (by kernel_rfl) ((s_slices_Chunk_byte_eq stdL CC limLP a0 a1 H).trans (Eq.trans (show s_slices_Chunk_byte stdL.b.g stdL.c stdL.s Try.prog CC a0 a1 H (endK Try.prog [.tmp 4]) = s_slices_Chunk_byte guardK condL shareL Try.prog CC a0 a1 H (endK Try.prog [.tmp 4]) by kernel_rfl) h))

theorem d_backup_four (a0 : Value) (H : AHeap) {r : Value × AHeap} (h : s_backup_four guardK condL shareL Try.prog CC a0 H (endK Try.prog [.tmp 2]) = some r) : CC F.backup_four [a0] H = some (tidy H r) := D_body (by kernel_rfl) ((s_backup_four_eq stdL CC limLP a0 H).trans (Eq.trans (show s_backup_four stdL.b.g stdL.c stdL.s Try.prog CC a0 H (endK Try.prog [.tmp 2]) = s_backup_four guardK condL shareL Try.prog CC a0 H (endK Try.prog [.tmp 2]) by kernel_rfl) h))

theorem d_slices_Clone_byte (a0 : Value) (H : AHeap) {r : Value × AHeap} (h : s_slices_Clone_byte guardK condL shareL Try.prog CC a0 H (endK Try.prog [.tmp 2]) = some r) : CC F.slices_Clone_byte [a0] H = some (tidy H r) := D_body (by kernel_rfl) ((s_slices_Clone_byte_eq stdL CC limLP a0 H).trans (Eq.trans (show s_slices_Clone_byte stdL.b.g stdL.c stdL.s Try.prog CC a0 H (endK Try.prog [.tmp 2]) = s_slices_Clone_byte guardK condL shareL Try.prog CC a0 H (endK Try.prog [.tmp 2]) by kernel_rfl) h))

theorem d_model_Model_Put (a0 : Value) (a1 : Value) (a2 : Value) (H : AHeap) {r : Value × AHeap} (h : s_model_Model_Put guardK condL shareL Try.prog CC a0 a1 a2 H (endK Try.prog [.tmp 6]) = some r) : CC F.model_Model_Put [a0, a1, a2] H = some (tidy H r) := D_body (by kernel_rfl) ((s_model_Model_Put_eq stdL CC limLP a0 a1 a2 H).trans (Eq.trans (show s_model_Model_Put stdL.b.g stdL.c stdL.s Try.prog CC a0 a1 a2 H (endK Try.prog [.tmp 6]) = s_model_Model_Put guardK condL shareL Try.prog CC a0 a1 a2 H (endK Try.prog [.tmp 6]) by kernel_rfl) h))

theorem d_slices_Clone_Pair (a0 : Value) (H : AHeap) {r : Value × AHeap} (h : s_slices_Clone_Pair guardK condL shareL Try.prog CC a0 H (endK Try.prog [.tmp 2]) = some r) : CC F.slices_Clone_Pair [a0] H = some (tidy H r) := D_body (by kernel_rfl) ((s_slices_Clone_Pair_eq stdL CC limLP a0 H).trans (Eq.trans (show s_slices_Clone_Pair stdL.b.g stdL.c stdL.s Try.prog CC a0 H (endK Try.prog [.tmp 2]) = s_slices_Clone_Pair guardK condL shareL Try.prog CC a0 H (endK Try.prog [.tmp 2]) by kernel_rfl) h))

noncomputable def l_law_read_0 (v0 : Value) (v4 : Value) (v5 : Value) (H : AHeap) (k : K) : Res := loopL stdL Try.prog hints CC limLP F.law_read 0 [(0, v0), (4, v4), (5, v5)] H k
noncomputable def l_law_read_1 (v0 : Value) (v4 : Value) (v6 : Value) (v7 : Value) (v8 : Value) (H : AHeap) (k : K) : Res := loopL stdL Try.prog hints CC limLP F.law_read 1 [(0, v0), (4, v4), (6, v6), (7, v7), (8, v8)] H k
noncomputable def l_law_read_2 (v0 : Value) (v4 : Value) (v6 : Value) (v7 : Value) (v8 : Value) (v9 : Value) (v10 : Value) (H : AHeap) (k : K) : Res := loopL stdL Try.prog hints CC limLP F.law_read 2 [(0, v0), (4, v4), (6, v6), (7, v7), (8, v8), (9, v9), (10, v10)] H k
theorem r_law_read_0 (v0 : Value) (v4 : Value) (v5 : Value) (H : AHeap) (k : K) : l_law_read_0 v0 v4 v5 H k = s_law_read_b0 guardK condL shareL Try.prog CC l_law_read_0 l_law_read_1 l_law_read_2 v0 v4 v5 H (seqK (fun T H => l_law_read_0 (get T 0) (get T 4) (get T 5) H k) k) := ((loopL_next (by kernel_rfl) rfl H k).trans (s_law_read_b0_eq stdL CC limLP v0 v4 v5 H _)).trans (by kernel_rfl)
theorem r_law_read_1 (v0 : Value) (v4 : Value) (v6 : Value) (v7 : Value) (v8 : Value) (H : AHeap) (k : K) : l_law_read_1 v0 v4 v6 v7 v8 H k = s_law_read_b1 guardK condL shareL Try.prog CC l_law_read_0 l_law_read_1 l_law_read_2 v0 v4 v6 v7 v8 H (seqK (fun T H => l_law_read_1 (get T 0) (get T 4) (get T 6) (get T 7) (get T 8) H k) k) := ((loopL_next (by kernel_rfl) rfl H k).trans (s_law_read_b1_eq stdL CC limLP v0 v4 v6 v7 v8 H _)).trans (by kernel_rfl)
theorem r_law_read_2 (v0 : Value) (v4 : Value) (v6 : Value) (v7 : Value) (v8 : Value) (v9 : Value) (v10 : Value) (H : AHeap) (k : K) : l_law_read_2 v0 v4 v6 v7 v8 v9 v10 H k = s_law_read_b2 guardK condL shareL Try.prog CC l_law_read_0 l_law_read_1 l_law_read_2 v0 v4 v6 v7 v8 v9 v10 H (seqK (fun T H => l_law_read_2 (get T 0) (get T 4) (get T 6) (get T 7) (get T 8) (get T 9) (get T 10) H k) k) := ((loopL_next (by kernel_rfl) rfl H k).trans (s_law_read_b2_eq stdL CC limLP v0 v4 v6 v7 v8 v9 v10 H _)).trans (by kernel_rfl)
theorem d_law_read (a0 : Value) (H : AHeap) {r : Value × AHeap} (h : s_law_read guardK condL shareL Try.prog CC l_law_read_0 l_law_read_1 l_law_read_2 a0 H (endK Try.prog [.tmp 2, .tmp 3]) = some r) : CC F.law_read [a0] H = some (tidy H r) := D_body (by kernel_rfl) ((s_law_read_eq stdL CC limLP a0 H).trans (Eq.trans (show s_law_read stdL.b.g stdL.c stdL.s Try.prog CC (fun v0 v4 v5 H k => loopL stdL Try.prog hints CC limLP F.law_read 0 [(0, v0), (4, v4), (5, v5)] H k) (fun v0 v4 v6 v7 v8 H k => loopL stdL Try.prog hints CC limLP F.law_read 1 [(0, v0), (4, v4), (6, v6), (7, v7), (8, v8)] H k) (fun v0 v4 v6 v7 v8 v9 v10 H k => loopL stdL Try.prog hints CC limLP F.law_read 2 [(0, v0), (4, v4), (6, v6), (7, v7), (8, v8), (9, v9), (10, v10)] H k) a0 H (endK Try.prog [.tmp 2, .tmp 3]) = s_law_read guardK condL shareL Try.prog CC l_law_read_0 l_law_read_1 l_law_read_2 a0 H (endK Try.prog [.tmp 2, .tmp 3]) by kernel_rfl) h))

noncomputable def l_keys_Prefix_0 (v0 : Value) (v1 : Value) (v5 : Value) (H : AHeap) (k : K) : Res := loopL stdL Try.prog hints CC limLP F.keys_Prefix 0 [(0, v0), (1, v1), (5, v5)] H k
theorem r_keys_Prefix_0 (v0 : Value) (v1 : Value) (v5 : Value) (H : AHeap) (k : K) : l_keys_Prefix_0 v0 v1 v5 H k = s_keys_Prefix_b0 guardK condL shareL Try.prog CC l_keys_Prefix_0 v0 v1 v5 H (seqK (fun T H => l_keys_Prefix_0 (get T 0) (get T 1) (get T 5) H k) k) := ((loopL_next (by kernel_rfl) rfl H k).trans (s_keys_Prefix_b0_eq stdL CC limLP v0 v1 v5 H _)).trans (by kernel_rfl)
theorem d_keys_Prefix (a0 : Value) (a1 : Value) (H : AHeap) {r : Value × AHeap} (h : s_keys_Prefix guardK condL shareL Try.prog CC l_keys_Prefix_0 a0 a1 H (endK Try.prog [.tmp 4]) = some r) : CC F.keys_Prefix [a0, a1] H = some (tidy H r) := D_body (by kernel_rfl) ((s_keys_Prefix_eq stdL CC limLP a0 a1 H).trans (Eq.trans (show s_keys_Prefix stdL.b.g stdL.c stdL.s Try.prog CC (fun v0 v1 v5 H k => loopL stdL Try.prog hints CC limLP F.keys_Prefix 0 [(0, v0), (1, v1), (5, v5)] H k) a0 a1 H (endK Try.prog [.tmp 4]) = s_keys_Prefix guardK condL shareL Try.prog CC l_keys_Prefix_0 a0 a1 H (endK Try.prog [.tmp 4]) by kernel_rfl) h))

theorem d_model_Model_Len (a0 : Value) (H : AHeap) {r : Value × AHeap} (h : s_model_Model_Len guardK condL shareL Try.prog CC a0 H (endK Try.prog [.tmp 2]) = some r) : CC F.model_Model_Len [a0] H = some (tidy H r) := D_body (by kernel_rfl) ((s_model_Model_Len_eq stdL CC limLP a0 H).trans (Eq.trans (show s_model_Model_Len stdL.b.g stdL.c stdL.s Try.prog CC a0 H (endK Try.prog [.tmp 2]) = s_model_Model_Len guardK condL shareL Try.prog CC a0 H (endK Try.prog [.tmp 2]) by kernel_rfl) h))

noncomputable def l_slices_Equal_Pair_0 (v0 : Value) (v1 : Value) (v12 : Value) (v13 : Value) (H : AHeap) (k : K) : Res := loopL stdL Try.prog hints CC limLP F.slices_Equal_Pair 0 [(0, v0), (1, v1), (12, v12), (13, v13)] H k
theorem r_slices_Equal_Pair_0 (v0 : Value) (v1 : Value) (v12 : Value) (v13 : Value) (H : AHeap) (k : K) : l_slices_Equal_Pair_0 v0 v1 v12 v13 H k = s_slices_Equal_Pair_b0 guardK condL shareL Try.prog CC l_slices_Equal_Pair_0 v0 v1 v12 v13 H (seqK (fun T H => l_slices_Equal_Pair_0 (get T 0) (get T 1) (get T 12) (get T 13) H k) k) := ((loopL_next (by kernel_rfl) rfl H k).trans (s_slices_Equal_Pair_b0_eq stdL CC limLP v0 v1 v12 v13 H _)).trans (by kernel_rfl)
theorem d_slices_Equal_Pair (a0 : Value) (a1 : Value) (H : AHeap) {r : Value × AHeap} (h : s_slices_Equal_Pair guardK condL shareL Try.prog CC l_slices_Equal_Pair_0 a0 a1 H (endK Try.prog [.tmp 4]) = some r) : CC F.slices_Equal_Pair [a0, a1] H = some (tidy H r) := D_body (by kernel_rfl) ((s_slices_Equal_Pair_eq stdL CC limLP a0 a1 H).trans (Eq.trans (show s_slices_Equal_Pair stdL.b.g stdL.c stdL.s Try.prog CC (fun v0 v1 v12 v13 H k => loopL stdL Try.prog hints CC limLP F.slices_Equal_Pair 0 [(0, v0), (1, v1), (12, v12), (13, v13)] H k) a0 a1 H (endK Try.prog [.tmp 4]) = s_slices_Equal_Pair guardK condL shareL Try.prog CC l_slices_Equal_Pair_0 a0 a1 H (endK Try.prog [.tmp 4]) by kernel_rfl) h))

noncomputable def l_backup_number_0 (v3 : Value) (v6 : Value) (v7 : Value) (v8 : Value) (H : AHeap) (k : K) : Res := loopL stdL Try.prog hints CC limLP F.backup_number 0 [(3, v3), (6, v6), (7, v7), (8, v8)] H k
theorem r_backup_number_0 (v3 : Value) (v6 : Value) (v7 : Value) (v8 : Value) (H : AHeap) (k : K) : l_backup_number_0 v3 v6 v7 v8 H k = s_backup_number_b0 guardK condL shareL Try.prog CC l_backup_number_0 v3 v6 v7 v8 H (seqK (fun T H => l_backup_number_0 (get T 3) (get T 6) (get T 7) (get T 8) H k) k) := ((loopL_next (by kernel_rfl) rfl H k).trans (s_backup_number_b0_eq stdL CC limLP v3 v6 v7 v8 H _)).trans (by kernel_rfl)
theorem d_backup_number (a0 : Value) (H : AHeap) {r : Value × AHeap} (h : s_backup_number guardK condL shareL Try.prog CC l_backup_number_0 a0 H (endK Try.prog [.tmp 2]) = some r) : CC F.backup_number [a0] H = some (tidy H r) := D_body (by kernel_rfl) ((s_backup_number_eq stdL CC limLP a0 H).trans (Eq.trans (show s_backup_number stdL.b.g stdL.c stdL.s Try.prog CC (fun v3 v6 v7 v8 H k => loopL stdL Try.prog hints CC limLP F.backup_number 0 [(3, v3), (6, v6), (7, v7), (8, v8)] H k) a0 H (endK Try.prog [.tmp 2]) = s_backup_number guardK condL shareL Try.prog CC l_backup_number_0 a0 H (endK Try.prog [.tmp 2]) by kernel_rfl) h))

theorem d_backup_take (a0 : Value) (H : AHeap) {r : Value × AHeap} (h : s_backup_take guardK condL shareL Try.prog CC a0 H (endK Try.prog [.tmp 2, .tmp 3, .tmp 4]) = some r) : CC F.backup_take [a0] H = some (tidy H r) := D_body (by kernel_rfl) ((s_backup_take_eq stdL CC limLP a0 H).trans (Eq.trans (show s_backup_take stdL.b.g stdL.c stdL.s Try.prog CC a0 H (endK Try.prog [.tmp 2, .tmp 3, .tmp 4]) = s_backup_take guardK condL shareL Try.prog CC a0 H (endK Try.prog [.tmp 2, .tmp 3, .tmp 4]) by kernel_rfl) h))

theorem d_model_Model_Insert (a0 : Value) (a1 : Value) (a2 : Value) (H : AHeap) {r : Value × AHeap} (h : s_model_Model_Insert guardK condL shareL Try.prog CC a0 a1 a2 H (endK Try.prog [.tmp 6]) = some r) : CC F.model_Model_Insert [a0, a1, a2] H = some (tidy H r) := D_body (by kernel_rfl) ((s_model_Model_Insert_eq stdL CC limLP a0 a1 a2 H).trans (Eq.trans (show s_model_Model_Insert stdL.b.g stdL.c stdL.s Try.prog CC a0 a1 a2 H (endK Try.prog [.tmp 6]) = s_model_Model_Insert guardK condL shareL Try.prog CC a0 a1 a2 H (endK Try.prog [.tmp 6]) by kernel_rfl) h))

theorem d_bytes_Equal (a0 : Value) (a1 : Value) (H : AHeap) {r : Value × AHeap} (h : s_bytes_Equal guardK condL shareL Try.prog CC a0 a1 H (endK Try.prog [.tmp 4]) = some r) : CC F.bytes_Equal [a0, a1] H = some (tidy H r) := D_body (by kernel_rfl) ((s_bytes_Equal_eq stdL CC limLP a0 a1 H).trans (Eq.trans (show s_bytes_Equal stdL.b.g stdL.c stdL.s Try.prog CC a0 a1 H (endK Try.prog [.tmp 4]) = s_bytes_Equal guardK condL shareL Try.prog CC a0 a1 H (endK Try.prog [.tmp 4]) by kernel_rfl) h))

theorem d_model_check (a0 : Value) (a1 : Value) (H : AHeap) {r : Value × AHeap} (h : s_model_check guardK condL shareL Try.prog CC a0 a1 H (endK Try.prog [.tmp 4]) = some r) : CC F.model_check [a0, a1] H = some (tidy H r) := D_body (by kernel_rfl) ((s_model_check_eq stdL CC limLP a0 a1 H).trans (Eq.trans (show s_model_check stdL.b.g stdL.c stdL.s Try.prog CC a0 a1 H (endK Try.prog [.tmp 4]) = s_model_check guardK condL shareL Try.prog CC a0 a1 H (endK Try.prog [.tmp 4]) by kernel_rfl) h))

theorem d_keys_Compare (a0 : Value) (a1 : Value) (H : AHeap) {r : Value × AHeap} (h : s_keys_Compare guardK condL shareL Try.prog CC a0 a1 H (endK Try.prog [.tmp 4]) = some r) : CC F.keys_Compare [a0, a1] H = some (tidy H r) := D_body (by kernel_rfl) ((s_keys_Compare_eq stdL CC limLP a0 a1 H).trans (Eq.trans (show s_keys_Compare stdL.b.g stdL.c stdL.s Try.prog CC a0 a1 H (endK Try.prog [.tmp 4]) = s_keys_Compare guardK condL shareL Try.prog CC a0 a1 H (endK Try.prog [.tmp 4]) by kernel_rfl) h))

noncomputable def l_slices_Chunk_byte_1_0 (v0 : Value) (v1 : Value) (v2 : Value) (v4 : Value) (H : AHeap) (k : K) : Res := loopL stdL Try.prog hints CC limLP F.slices_Chunk_byte_1 0 [(0, v0), (1, v1), (2, v2), (4, v4)] H k
theorem r_slices_Chunk_byte_1_0 (v0 : Value) (v1 : Value) (v2 : Value) (v4 : Value) (H : AHeap) (k : K) : l_slices_Chunk_byte_1_0 v0 v1 v2 v4 H k = s_slices_Chunk_byte_1_b0 guardK condL shareL Try.prog CC l_slices_Chunk_byte_1_0 v0 v1 v2 v4 H (seqK (fun T H => l_slices_Chunk_byte_1_0 (get T 0) (get T 1) (get T 2) (get T 4) H k) k) := ((loopL_next (by kernel_rfl) rfl H k).trans (s_slices_Chunk_byte_1_b0_eq stdL CC limLP v0 v1 v2 v4 H _)).trans (by kernel_rfl)
theorem d_slices_Chunk_byte_1 (a0 : Value) (a1 : Value) (a2 : Value) (H : AHeap) {r : Value × AHeap} (h : s_slices_Chunk_byte_1 guardK condL shareL Try.prog CC l_slices_Chunk_byte_1_0 a0 a1 a2 H (endK Try.prog []) = some r) : CC F.slices_Chunk_byte_1 [a0, a1, a2] H = some (tidy H r) := D_body (by kernel_rfl) ((s_slices_Chunk_byte_1_eq stdL CC limLP a0 a1 a2 H).trans (Eq.trans (show s_slices_Chunk_byte_1 stdL.b.g stdL.c stdL.s Try.prog CC (fun v0 v1 v2 v4 H k => loopL stdL Try.prog hints CC limLP F.slices_Chunk_byte_1 0 [(0, v0), (1, v1), (2, v2), (4, v4)] H k) a0 a1 a2 H (endK Try.prog []) = s_slices_Chunk_byte_1 guardK condL shareL Try.prog CC l_slices_Chunk_byte_1_0 a0 a1 a2 H (endK Try.prog []) by kernel_rfl) h))

theorem d_model_Model_at (a0 : Value) (a1 : Value) (a2 : Value) (H : AHeap) {r : Value × AHeap} (h : s_model_Model_at guardK condL shareL Try.prog CC a0 a1 a2 H (endK Try.prog [.tmp 6, .tmp 7, .tmp 8]) = some r) : CC F.model_Model_at [a0, a1, a2] H = some (tidy H r) := D_body (by kernel_rfl) ((s_model_Model_at_eq stdL CC limLP a0 a1 a2 H).trans (Eq.trans (show s_model_Model_at stdL.b.g stdL.c stdL.s Try.prog CC a0 a1 a2 H (endK Try.prog [.tmp 6, .tmp 7, .tmp 8]) = s_model_Model_at guardK condL shareL Try.prog CC a0 a1 a2 H (endK Try.prog [.tmp 6, .tmp 7, .tmp 8]) by kernel_rfl) h))

theorem d_model_Model_set (a0 : Value) (a1 : Value) (a2 : Value) (a3 : Value) (H : AHeap) {r : Value × AHeap} (h : s_model_Model_set guardK condL shareL Try.prog CC a0 a1 a2 a3 H (endK Try.prog [.tmp 8]) = some r) : CC F.model_Model_set [a0, a1, a2, a3] H = some (tidy H r) := D_body (by kernel_rfl) ((s_model_Model_set_eq stdL CC limLP a0 a1 a2 a3 H).trans (Eq.trans (show s_model_Model_set stdL.b.g stdL.c stdL.s Try.prog CC a0 a1 a2 a3 H (endK Try.prog [.tmp 8]) = s_model_Model_set guardK condL shareL Try.prog CC a0 a1 a2 a3 H (endK Try.prog [.tmp 8]) by kernel_rfl) h))

theorem d_slices_ContainsFunc_string (a0 : Value) (a1 : Value) (H : AHeap) {r : Value × AHeap} (h : s_slices_ContainsFunc_string guardK condL shareL Try.prog CC a0 a1 H (endK Try.prog [.tmp 4]) = some r) : CC F.slices_ContainsFunc_string [a0, a1] H = some (tidy H r) := D_body (by kernel_rfl) ((s_slices_ContainsFunc_string_eq stdL CC limLP a0 a1 H).trans (Eq.trans (show s_slices_ContainsFunc_string stdL.b.g stdL.c stdL.s Try.prog CC a0 a1 H (endK Try.prog [.tmp 4]) = s_slices_ContainsFunc_string guardK condL shareL Try.prog CC a0 a1 H (endK Try.prog [.tmp 4]) by kernel_rfl) h))

theorem d_model_check_1 (a0 : Value) (H : AHeap) {r : Value × AHeap} (h : s_model_check_1 guardK condL shareL Try.prog CC a0 H (endK Try.prog [.tmp 2]) = some r) : CC F.model_check_1 [a0] H = some (tidy H r) := D_body (by kernel_rfl) ((s_model_check_1_eq stdL CC limLP a0 H).trans (Eq.trans (show s_model_check_1 stdL.b.g stdL.c stdL.s Try.prog CC a0 H (endK Try.prog [.tmp 2]) = s_model_check_1 guardK condL shareL Try.prog CC a0 H (endK Try.prog [.tmp 2]) by kernel_rfl) h))

theorem d_strings_Compare (a0 : Value) (a1 : Value) (H : AHeap) {r : Value × AHeap} (h : s_strings_Compare guardK condL shareL Try.prog CC a0 a1 H (endK Try.prog [.tmp 4]) = some r) : CC F.strings_Compare [a0, a1] H = some (tidy H r) := D_body (by kernel_rfl) ((s_strings_Compare_eq stdL CC limLP a0 a1 H).trans (Eq.trans (show s_strings_Compare stdL.b.g stdL.c stdL.s Try.prog CC a0 a1 H (endK Try.prog [.tmp 4]) = s_strings_Compare guardK condL shareL Try.prog CC a0 a1 H (endK Try.prog [.tmp 4]) by kernel_rfl) h))

theorem d_model_Model_place (a0 : Value) (a1 : Value) (H : AHeap) {r : Value × AHeap} (h : s_model_Model_place guardK condL shareL Try.prog CC a0 a1 H (endK Try.prog [.tmp 4, .tmp 5]) = some r) : CC F.model_Model_place [a0, a1] H = some (tidy H r) := D_body (by kernel_rfl) ((s_model_Model_place_eq stdL CC limLP a0 a1 H).trans (Eq.trans (show s_model_Model_place stdL.b.g stdL.c stdL.s Try.prog CC a0 a1 H (endK Try.prog [.tmp 4, .tmp 5]) = s_model_Model_place guardK condL shareL Try.prog CC a0 a1 H (endK Try.prog [.tmp 4, .tmp 5]) by kernel_rfl) h))

noncomputable def l_slices_IndexFunc_string_0 (v0 : Value) (v1 : Value) (v7 : Value) (v8 : Value) (H : AHeap) (k : K) : Res := loopL stdL Try.prog hints CC limLP F.slices_IndexFunc_string 0 [(0, v0), (1, v1), (7, v7), (8, v8)] H k
theorem r_slices_IndexFunc_string_0 (v0 : Value) (v1 : Value) (v7 : Value) (v8 : Value) (H : AHeap) (k : K) : l_slices_IndexFunc_string_0 v0 v1 v7 v8 H k = s_slices_IndexFunc_string_b0 guardK condL shareL Try.prog CC l_slices_IndexFunc_string_0 v0 v1 v7 v8 H (seqK (fun T H => l_slices_IndexFunc_string_0 (get T 0) (get T 1) (get T 7) (get T 8) H k) k) := ((loopL_next (by kernel_rfl) rfl H k).trans (s_slices_IndexFunc_string_b0_eq stdL CC limLP v0 v1 v7 v8 H _)).trans (by kernel_rfl)
theorem d_slices_IndexFunc_string (a0 : Value) (a1 : Value) (H : AHeap) {r : Value × AHeap} (h : s_slices_IndexFunc_string guardK condL shareL Try.prog CC l_slices_IndexFunc_string_0 a0 a1 H (endK Try.prog [.tmp 4]) = some r) : CC F.slices_IndexFunc_string [a0, a1] H = some (tidy H r) := D_body (by kernel_rfl) ((s_slices_IndexFunc_string_eq stdL CC limLP a0 a1 H).trans (Eq.trans (show s_slices_IndexFunc_string stdL.b.g stdL.c stdL.s Try.prog CC (fun v0 v1 v7 v8 H k => loopL stdL Try.prog hints CC limLP F.slices_IndexFunc_string 0 [(0, v0), (1, v1), (7, v7), (8, v8)] H k) a0 a1 H (endK Try.prog [.tmp 4]) = s_slices_IndexFunc_string guardK condL shareL Try.prog CC l_slices_IndexFunc_string_0 a0 a1 H (endK Try.prog [.tmp 4]) by kernel_rfl) h))

theorem d_internal_bytealg_CompareString (a0 : Value) (a1 : Value) (H : AHeap) {r : Value × AHeap} (h : s_internal_bytealg_CompareString guardK condL shareL Try.prog CC a0 a1 H (endK Try.prog [.tmp 4]) = some r) : CC F.internal_bytealg_CompareString [a0, a1] H = some (tidy H r) := D_body (by kernel_rfl) ((s_internal_bytealg_CompareString_eq stdL CC limLP a0 a1 H).trans (Eq.trans (show s_internal_bytealg_CompareString stdL.b.g stdL.c stdL.s Try.prog CC a0 a1 H (endK Try.prog [.tmp 4]) = s_internal_bytealg_CompareString guardK condL shareL Try.prog CC a0 a1 H (endK Try.prog [.tmp 4]) by kernel_rfl) h))

noncomputable def l_slices_BinarySearchFunc_string_0 (v0 : Value) (v1 : Value) (v2 : Value) (v8 : Value) (v9 : Value) (v10 : Value) (H : AHeap) (k : K) : Res := loopL stdL Try.prog hints CC limLP F.slices_BinarySearchFunc_string 0 [(0, v0), (1, v1), (2, v2), (8, v8), (9, v9), (10, v10)] H k
theorem r_slices_BinarySearchFunc_string_0 (v0 : Value) (v1 : Value) (v2 : Value) (v8 : Value) (v9 : Value) (v10 : Value) (H : AHeap) (k : K) : l_slices_BinarySearchFunc_string_0 v0 v1 v2 v8 v9 v10 H k = s_slices_BinarySearchFunc_string_b0 guardK condL shareL Try.prog CC l_slices_BinarySearchFunc_string_0 v0 v1 v2 v8 v9 v10 H (seqK (fun T H => l_slices_BinarySearchFunc_string_0 (get T 0) (get T 1) (get T 2) (get T 8) (get T 9) (get T 10) H k) k) := ((loopL_next (by kernel_rfl) rfl H k).trans (s_slices_BinarySearchFunc_string_b0_eq stdL CC limLP v0 v1 v2 v8 v9 v10 H _)).trans (by kernel_rfl)
theorem d_slices_BinarySearchFunc_string (a0 : Value) (a1 : Value) (a2 : Value) (H : AHeap) {r : Value × AHeap} (h : s_slices_BinarySearchFunc_string guardK condL shareL Try.prog CC l_slices_BinarySearchFunc_string_0 a0 a1 a2 H (endK Try.prog [.tmp 6, .tmp 7]) = some r) : CC F.slices_BinarySearchFunc_string [a0, a1, a2] H = some (tidy H r) := D_body (by kernel_rfl) ((s_slices_BinarySearchFunc_string_eq stdL CC limLP a0 a1 a2 H).trans (Eq.trans (show s_slices_BinarySearchFunc_string stdL.b.g stdL.c stdL.s Try.prog CC (fun v0 v1 v2 v8 v9 v10 H k => loopL stdL Try.prog hints CC limLP F.slices_BinarySearchFunc_string 0 [(0, v0), (1, v1), (2, v2), (8, v8), (9, v9), (10, v10)] H k) a0 a1 a2 H (endK Try.prog [.tmp 6, .tmp 7]) = s_slices_BinarySearchFunc_string guardK condL shareL Try.prog CC l_slices_BinarySearchFunc_string_0 a0 a1 a2 H (endK Try.prog [.tmp 6, .tmp 7]) by kernel_rfl) h))

theorem d_model_Model_place_1 (a0 : Value) (a1 : Value) (H : AHeap) {r : Value × AHeap} (h : s_model_Model_place_1 guardK condL shareL Try.prog CC a0 a1 H (endK Try.prog [.tmp 4]) = some r) : CC F.model_Model_place_1 [a0, a1] H = some (tidy H r) := D_body (by kernel_rfl) ((s_model_Model_place_1_eq stdL CC limLP a0 a1 H).trans (Eq.trans (show s_model_Model_place_1 stdL.b.g stdL.c stdL.s Try.prog CC a0 a1 H (endK Try.prog [.tmp 4]) = s_model_Model_place_1 guardK condL shareL Try.prog CC a0 a1 H (endK Try.prog [.tmp 4]) by kernel_rfl) h))

theorem d_slices_rotateRight_Pair (a0 : Value) (a1 : Value) (H : AHeap) {r : Value × AHeap} (h : s_slices_rotateRight_Pair guardK condL shareL Try.prog CC a0 a1 H (endK Try.prog []) = some r) : CC F.slices_rotateRight_Pair [a0, a1] H = some (tidy H r) := D_body (by kernel_rfl) ((s_slices_rotateRight_Pair_eq stdL CC limLP a0 a1 H).trans (Eq.trans (show s_slices_rotateRight_Pair stdL.b.g stdL.c stdL.s Try.prog CC a0 a1 H (endK Try.prog []) = s_slices_rotateRight_Pair guardK condL shareL Try.prog CC a0 a1 H (endK Try.prog []) by kernel_rfl) h))

theorem d_slices_rotateLeft_Pair (a0 : Value) (a1 : Value) (H : AHeap) {r : Value × AHeap} (h : s_slices_rotateLeft_Pair guardK condL shareL Try.prog CC a0 a1 H (endK Try.prog []) = some r) : CC F.slices_rotateLeft_Pair [a0, a1] H = some (tidy H r) := D_body (by kernel_rfl) ((s_slices_rotateLeft_Pair_eq stdL CC limLP a0 a1 H).trans (Eq.trans (show s_slices_rotateLeft_Pair stdL.b.g stdL.c stdL.s Try.prog CC a0 a1 H (endK Try.prog []) = s_slices_rotateLeft_Pair guardK condL shareL Try.prog CC a0 a1 H (endK Try.prog []) by kernel_rfl) h))

noncomputable def l_slices_Reverse_Pair_0 (v0 : Value) (v2 : Value) (v3 : Value) (H : AHeap) (k : K) : Res := loopL stdL Try.prog hints CC limLP F.slices_Reverse_Pair 0 [(0, v0), (2, v2), (3, v3)] H k
theorem r_slices_Reverse_Pair_0 (v0 : Value) (v2 : Value) (v3 : Value) (H : AHeap) (k : K) : l_slices_Reverse_Pair_0 v0 v2 v3 H k = s_slices_Reverse_Pair_b0 guardK condL shareL Try.prog CC l_slices_Reverse_Pair_0 v0 v2 v3 H (seqK (fun T H => l_slices_Reverse_Pair_0 (get T 0) (get T 2) (get T 3) H k) k) := ((loopL_next (by kernel_rfl) rfl H k).trans (s_slices_Reverse_Pair_b0_eq stdL CC limLP v0 v2 v3 H _)).trans (by kernel_rfl)
theorem d_slices_Reverse_Pair (a0 : Value) (H : AHeap) {r : Value × AHeap} (h : s_slices_Reverse_Pair guardK condL shareL Try.prog CC l_slices_Reverse_Pair_0 a0 H (endK Try.prog []) = some r) : CC F.slices_Reverse_Pair [a0] H = some (tidy H r) := D_body (by kernel_rfl) ((s_slices_Reverse_Pair_eq stdL CC limLP a0 H).trans (Eq.trans (show s_slices_Reverse_Pair stdL.b.g stdL.c stdL.s Try.prog CC (fun v0 v2 v3 H k => loopL stdL Try.prog hints CC limLP F.slices_Reverse_Pair 0 [(0, v0), (2, v2), (3, v3)] H k) a0 H (endK Try.prog []) = s_slices_Reverse_Pair guardK condL shareL Try.prog CC l_slices_Reverse_Pair_0 a0 H (endK Try.prog []) by kernel_rfl) h))

end Go.Proofs.Ytehnchfnhbmkdaa

/-
  The engine, part 23: lists that lie in rows of cells: reading, slicing, appending.
  Conditions: none. By an AI agent.
-/
namespace Go.Proofs.Ytehnchfnhbmkdaa.Eng
open Go
set_option linter.unusedVariables false
set_option linter.unusedSimpArgs false

/-- How an element lies in cells. -/
structure Enc (α : Type) where
  w : Nat
  enc : α → List Value
  len : ∀ a, (enc a).length = w
  pos : 0 < w
  one : ∀ a, (enc a).all one = true

namespace Enc
variable {α : Type} (E : Enc α)

def cells (l : List α) : List Value := l.flatMap E.enc
@[simp] theorem cells_nil : E.cells [] = [] := rfl
@[simp] theorem cells_cons (a : α) (l : List α) : E.cells (a :: l) = E.enc a ++ E.cells l := rfl
theorem cells_append (l m : List α) : E.cells (l ++ m) = E.cells l ++ E.cells m := by simp [cells]
@[simp] theorem cells_len : ∀ (l : List α), (E.cells l).length = l.length * E.w
  | [] => by simp
  | a :: l => by simp [E.len, cells_len l, Nat.add_mul]; omega
theorem cells_one : ∀ (l : List α), (E.cells l).all Eng.one = true
  | [] => rfl
  | a :: l => by rw [cells_cons, List.all_append, E.one, cells_one l]; rfl
theorem cells_drop : ∀ (l : List α) (i : Nat), (E.cells l).drop (i * E.w) = E.cells (l.drop i)
  | l, 0 => by simp
  | [], i + 1 => by simp
  | a :: l, i + 1 => by
    rw [cells_cons, List.drop_append, E.len, List.drop_eq_nil_of_le (by rw [E.len, Nat.add_mul]; omega)]
    rw [show (i + 1) * E.w - E.w = i * E.w by rw [Nat.add_mul]; omega, cells_drop l i]
    simp
theorem cells_take : ∀ (l : List α) (i : Nat), (E.cells l).take (i * E.w) = E.cells (l.take i)
  | l, 0 => by simp
  | [], i + 1 => by simp
  | a :: l, i + 1 => by
    rw [cells_cons, List.take_append, E.len, List.take_of_length_le (by rw [E.len, Nat.add_mul]; omega)]
    rw [show (i + 1) * E.w - E.w = i * E.w by rw [Nat.add_mul]; omega, cells_take l i]
    simp
theorem cells_elem (l : List α) (i : Nat) (h : i < l.length) : ((E.cells l).drop (i * E.w)).take E.w = E.enc l[i] := by
  rw [cells_drop, List.drop_eq_getElem_cons h, cells_cons, List.take_append, E.len, Nat.sub_self, List.take_zero, List.append_nil, List.take_of_length_le (by rw [E.len]; exact Nat.le_refl _)]
end Enc

variable {P : Program} {α : Type} {E : Enc α} {H H' : AHeap} {v : Value} {l : List α} {e : TypeId}

/-- A slice that reads as a list. -/
def Rd (E : Enc α) (H : AHeap) (v : Value) (l : List α) : Prop :=
  (l = [] ∧ v = .slice none 0 0) ∨ (l = [] ∧ ∃ a k, v = .slice (some a) 0 k ∧ a.spot = none) ∨
  ∃ b o c, v = .slice (some ⟨b, o, none⟩) l.length c ∧ l ≠ [] ∧ b < H.n ∧ cutB (H.f b) o (l.length * E.w) = some (E.cells l)

/-- The block of a slice that has elements. -/
def Off (S : Nat → Prop) (v : Value) : Prop := ∀ b, blockOf v = some b → ¬ S b

theorem Rd.keep {S : Nat → Prop} (r : Rd E H v l) (h : Fr S H H') (hs : Off S v) : Rd E H' v l := by
  rcases r with r | r | ⟨b, o, c, rfl, hl, hb, hc⟩
  · exact .inl r
  · exact .inr (.inl r)
  · exact .inr (.inr ⟨b, o, c, rfl, hl, Nat.lt_of_lt_of_le hb h.n, by rw [h.f hb (hs b rfl)]; exact hc⟩)
theorem Rd.still (r : Rd E H v l) (h : Still H H') : Rd E H' v l := r.keep h fun _ _ h => h

theorem cutB_sub {k : Blk} {o n : Nat} {xs : List Value} (h : cutB k o n = some xs) {i m : Nat} (hi : i + m ≤ n) : cutB k (o + i) m = some ((xs.drop i).take m) := by
  unfold cutB at h ⊢
  cases k with
  | cells ys e rw =>
    simp only at h ⊢
    split at h
    · cases h
      rw [if_pos (by omega), List.drop_take, List.take_take, List.drop_drop, Nat.min_eq_left (by omega)]
    · cases h
  | _ => cases h

theorem cutB_len {k : Blk} {o n : Nat} {xs : List Value} (h : cutB k o n = some xs) : xs.length = n := by
  unfold cutB at h
  cases k with
  | cells ys e rw =>
    simp only at h
    split at h
    · cases h
      simp; omega
    · cases h
  | _ => cases h

theorem cutB_cell {k : Blk} {o n : Nat} {xs : List Value} (h : cutB k o n = some xs) {i : Nat} (hi : i < n) : cellB k (o + i) = xs[i]? := by
  unfold cutB at h
  unfold cellB
  cases k with
  | cells ys e rw =>
    simp only at h ⊢
    split at h
    · cases h
      rw [List.getElem?_take_of_lt hi, List.getElem?_drop]
    · cases h
  | _ => cases h

/-- Its elements, one by one. -/
theorem Rd.elem (r : Rd E H v l) {i : Nat} (hi : i < l.length) : ∃ b o c, v = .slice (some ⟨b, o, none⟩) l.length c ∧ b < H.n ∧ cutB (H.f b) (o + i * E.w) E.w = some (E.enc l[i]) := by
  rcases r with ⟨rfl, _⟩ | ⟨rfl, _⟩ | ⟨b, o, c, hv, hl, hb, hc⟩
  · simp at hi
  · simp at hi
  · refine ⟨b, o, c, hv, hb, ?_⟩
    rw [cutB_sub hc (i := i * E.w) (m := E.w) (by have := Nat.mul_le_mul_right E.w hi; rw [Nat.succ_mul] at this; exact this), E.cells_elem l i hi]

theorem Rd.shape (r : Rd E H v l) : ∃ a c, v = .slice a l.length c := by
  rcases r with ⟨rfl, rfl⟩ | ⟨rfl, a, k, rfl, _⟩ | ⟨b, o, c, rfl, hl, hb, hc⟩ <;> exact ⟨_, _, rfl⟩

theorem Rd.lenS (r : Rd E H v l) : Eng.lenS v = some (.int .i64 l.length) := by
  obtain ⟨a, c, rfl⟩ := r.shape
  rfl

/-- What append takes of it. -/
theorem Rd.src (r : Rd E H v l) {sz : Nat} (hsz : sz = E.w) : srcS sz v H = some (l.length, E.cells l) := by
  subst hsz
  rcases r with ⟨rfl, rfl⟩ | ⟨rfl, ⟨b, o, s⟩, k, rfl, hs⟩ | ⟨b, o, c, rfl, hl, hb, hc⟩
  · rfl
  · simp only at hs
    subst hs
    rfl
  · unfold srcS
    have h0 : l.length ≠ 0 := fun h => hl (List.length_eq_zero_iff.1 h)
    simp only [h0, if_false, cut_b, hc, Option.map_some]

@[go_sem] theorem ixS_int {sz b o len code : Nat} {i : Int} {q : IntKind} (h : 0 ≤ i ∧ i < (len : Int)) : ixS sz (.slice (some ⟨b, o, none⟩) len code) (.int q i) = some (.pointer (some ⟨b, o + i.toNat * sz, none⟩)) := by
  unfold ixS
  simp only
  rw [if_pos h]
theorem ixS_nat {sz b o len code k : Nat} {q : IntKind} (h : k < len) : ixS sz (.slice (some ⟨b, o, none⟩) len code) (.int q (k : Int)) = some (.pointer (some ⟨b, o + k * sz, none⟩)) := by
  rw [ixS_int ⟨by omega, by omega⟩, Int.toNat_natCast]
attribute [go_sem] Int.toNat_natCast Nat.zero_mul Nat.mul_one

theorem Rd.ix (r : Rd E H v l) {i : Nat} (hi : i < l.length) {q : IntKind} : ∃ b o, ixS E.w v (.int q (i : Int)) = some (.pointer (some ⟨b, o, none⟩)) ∧ b < H.n ∧ cutB (H.f b) o E.w = some (E.enc l[i]) ∧ blockOf v = some b := by
  obtain ⟨b, o, c, rfl, hb, hc⟩ := r.elem hi
  exact ⟨b, o + i * E.w, ixS_nat hi, hb, hc, rfl⟩

/-! ### Rows that are the function's own, and may grow -/

/-- A list in a row of its own that ends with the row's end; or an empty one. -/
def Own (E : Enc α) (H : AHeap) (e : TypeId) (v : Value) (l : List α) : Prop :=
  (l = [] ∧ v = .slice none 0 0) ∨ (l = [] ∧ ∃ a, v = .slice (some a) 0 0 ∧ a.spot = none ∧ a.block < H.n) ∨
  ∃ b o c xs, v = .slice (some ⟨b, o, none⟩) l.length (2 * c + 1) ∧ l.length ≤ c ∧ b < H.n ∧ H.f b = .cells xs e true ∧ o + c * E.w = xs.length ∧ (xs.drop o).take (l.length * E.w) = E.cells l

theorem Own.rd (r : Own E H e v l) : Rd E H v l := by
  rcases r with r | ⟨hl, a, h, hs, _⟩ | ⟨b, o, c, xs, rfl, hl, hb, hf, ho, hx⟩
  · exact .inl r
  · exact .inr (.inl ⟨hl, a, 0, h, hs⟩)
  · by_cases h0 : l = []
    · subst h0; exact .inr (.inl ⟨rfl, _, _, rfl, rfl⟩)
    · refine .inr (.inr ⟨b, o, _, rfl, h0, hb, ?_⟩)
      rw [hf]
      unfold cutB
      simp only
      rw [if_pos (by have := Nat.mul_le_mul_right E.w hl; omega), hx]

theorem Own.keep {S : Nat → Prop} (r : Own E H e v l) (h : Fr S H H') (hs : Off S v) : Own E H' e v l := by
  rcases r with r | ⟨hl, a, hv, hsp, hb⟩ | ⟨b, o, c, xs, rfl, hl, hb, hf, ho, hx⟩
  · exact .inl r
  · exact .inr (.inl ⟨hl, a, hv, hsp, Nat.lt_of_lt_of_le hb h.n⟩)
  · exact .inr (.inr ⟨b, o, c, xs, rfl, hl, Nat.lt_of_lt_of_le hb h.n, by rw [h.f hb (hs b rfl)]; exact hf, ho, hx⟩)
theorem Own.cell (r : Own E H e v l) : Eng.one v = true := by
  rcases r with ⟨_, rfl⟩ | ⟨_, a, rfl, _, hb⟩ | ⟨b', o, c, xs, rfl, _, hb, _⟩ <;> rfl
theorem Own.blk (r : Own E H e v l) {b : Nat} (h : blockOf v = some b) : b < H.n := by
  rcases r with ⟨_, rfl⟩ | ⟨_, a, rfl, _, hb⟩ | ⟨b', o, c, xs, rfl, _, hb, _⟩
  · cases h
  · cases h; exact hb
  · cases h; exact hb
theorem Own.still (r : Own E H e v l) (h : Still H H') : Own E H' e v l := r.keep h fun _ _ h => h

/-- Only its block, or one that is new, may be turned when it grows. -/
def OnlyOf (v : Value) : Nat → Prop := fun b => blockOf v = some b

theorem Fr.kill (H : AHeap) (b : Nat) : Fr (fun c => c = b) H (H.set b .dead) := (Fr.refl H).set b _ fun _ => rfl

/-- Appending to a list of its own. -/
theorem Own.app (r : Own E H e v l) {m : List α} (hm : m ≠ []) {sz bytes : Nat} (hsz : sz = E.w) (hb : (l.length + m.length) * bytes ≤ 140737488355328) (hn : l.length + m.length ≤ 140737488355328)
    {src : Option (Nat × List Value)} (hsrc : src = some (m.length, E.cells m)) :
    ∃ v' H', Eng.app e sz bytes v src H = some (v', H') ∧ Own E H' e v' (l ++ m) ∧ Fr (OnlyOf v) H H' ∧ (blockOf v' = blockOf v ∨ blockOf v' = some H.n) ∧ gr 9 v' = false := by
  subst hsz hsrc
  have hm0 : m.length ≠ 0 := fun h => hm (List.length_eq_zero_iff.1 h)
  have hbig : ¬ ((l.length + m.length) * bytes > 140737488355328 ∨ l.length + m.length > 140737488355328) := by omega
  have hone := E.cells_one m
  rcases r with ⟨rfl, rfl⟩ | ⟨rfl, ⟨b, o, s⟩, rfl, hs, hbb⟩ | ⟨b, o, c, xs, rfl, hl, hbn, hf, ho, hx⟩
  · refine ⟨.slice (some ⟨H.n, 0, none⟩) m.length (2 * m.length + 1), H.push (.cells (E.cells m) e true), ?_, ?_, (Fr.refl H).push _, .inr rfl, rfl⟩
    · simp only [List.length_nil, Nat.zero_add] at hbig
      simp only [Eng.app, Option.bind_some, hm0, if_false, Nat.zero_add, hbig, Nat.zero_div, Nat.le_zero_eq, hone, Bool.true_eq_false, oldOf, if_true, Nat.zero_mod, Option.map_some, List.nil_append]
    · refine .inr (.inr ⟨H.n, 0, m.length, E.cells m, by simp, by simp, by simp, by simp, by simp, ?_⟩)
      simp only [List.drop_zero, List.nil_append]
      rw [List.take_of_length_le (by simp)]
  · simp only at hs
    subst hs
    refine ⟨.slice (some ⟨H.n, 0, none⟩) m.length (2 * m.length + 1), H.push (.cells (E.cells m) e true), ?_, ?_, (Fr.refl H).push _, .inr rfl, rfl⟩
    · simp only [List.length_nil, Nat.zero_add] at hbig
      simp only [Eng.app, Option.bind_some, hm0, if_false, Nat.zero_add, hbig, Nat.zero_div, Nat.le_zero_eq, hone, Bool.true_eq_false, oldOf, if_true, Nat.zero_mod, Option.map_some, List.nil_append]
    · refine .inr (.inr ⟨H.n, 0, m.length, E.cells m, by simp, by simp, by simp, by simp, by simp, ?_⟩)
      simp only [List.drop_zero, List.nil_append]
      rw [List.take_of_length_le (by simp)]
  · have hc2 : (2 * c + 1) / 2 = c := by omega
    have hc3 : (2 * c + 1) % 2 = 1 := by omega
    have hmulc := Nat.mul_le_mul_right E.w hl
    by_cases hroom : l.length + m.length ≤ c
    · have hmul := Nat.mul_le_mul_right E.w hroom
      rw [Nat.add_mul] at hmul
      refine ⟨.slice (some ⟨b, o, none⟩) (l.length + m.length) (2 * c + 1), H.set b (.cells (spl xs (o + l.length * E.w) (E.cells m)) e true), ?_, ?_, (Fr.refl H).set b _ fun _ => rfl, .inl rfl, rfl⟩
      · simp only [Eng.app, Option.bind_some, hm0, if_false, hbig, hc2, hroom, if_true, stL_b, hf]
        rw [wrL_c (by simp; omega) hone]
        rfl
      · refine .inr (.inr ⟨b, o, c, _, by simp, by simp; omega, by simpa using hbn, set_f_eq, ?_, ?_⟩)
        · rw [spl_length, ho]
        · apply List.ext_getElem?
          intro j
          rw [List.length_append, Nat.add_mul]
          by_cases hj : j < l.length * E.w + m.length * E.w
          · rw [List.getElem?_take_of_lt hj, List.getElem?_drop, spl_get _ _ _ _ (by simp; omega), E.cells_append, List.getElem?_append, E.cells_len, E.cells_len]
            by_cases h1 : j < l.length * E.w
            · rw [if_neg (by omega), if_pos h1, ← hx, List.getElem?_take_of_lt h1, List.getElem?_drop]
            · rw [if_pos (by omega), if_neg h1, show o + j - (o + l.length * E.w) = j - l.length * E.w by omega]
          · rw [List.getElem?_eq_none (by simp; omega), List.getElem?_eq_none (by simp [Nat.add_mul]; omega)]
    · refine ⟨.slice (some ⟨H.n, 0, none⟩) (l.length + m.length) (2 * (l.length + m.length) + 1), (H.set b .dead).push (.cells (E.cells l ++ E.cells m) e true), ?_, ?_, Fr.push (Fr.set (S := OnlyOf (.slice (some ⟨b, o, none⟩) l.length (2 * c + 1))) (Fr.refl H) b _ (fun _ => rfl)) _, .inr rfl, rfl⟩
      · have hold : oldOf E.w l.length H (some ⟨b, o, none⟩) = some (E.cells l) := by
          unfold oldOf
          split
          · rename_i h0; rw [List.length_eq_zero_iff.1 h0]; rfl
          · simp only [cut_b, hf]
            rw [cutB_c (by omega), hx]
        have hkill : kill H e c E.w (some ⟨b, o, none⟩) = some (H.set b .dead) := by
          unfold kill
          simp only [hf, true_and, ho, if_true]
        simp only [Eng.app, Option.bind_some, hm0, if_false, hbig, hc2, hroom, hone, Bool.true_eq_false, hold, hc3, Nat.one_ne_zero, hkill, Option.map_some, set_n']
      · refine .inr (.inr ⟨H.n, 0, l.length + m.length, E.cells l ++ E.cells m, by simp, by simp, by simp, push_f_eq rfl, by simp [Nat.add_mul], ?_⟩)
        simp only [List.drop_zero]
        rw [List.take_of_length_le (by simp [Nat.add_mul]), E.cells_append]

/-- Cutting off the front. -/
theorem Own.drop (r : Own E H e v l) {sz : Nat} (hsz : sz = E.w) {i : Nat} (hi : i ≤ l.length) {q : IntKind} : ∃ v', slS e sz v (some (.int q (i : Int))) none none H = some v' ∧ Own E H e v' (l.drop i) ∧ blockOf v' = blockOf v := by
  subst hsz
  rcases r with ⟨rfl, rfl⟩ | ⟨rfl, ⟨b, o, s⟩, rfl, hs, hbb⟩ | ⟨b, o, c, xs, rfl, hl, hbn, hf, ho, hx⟩
  · simp only [List.length_nil, Nat.le_zero_eq] at hi
    subst hi
    exact ⟨.slice none 0 0, rfl, .inl ⟨by simp, rfl⟩, rfl⟩
  · simp only at hs
    subst hs
    simp only [List.length_nil, Nat.le_zero_eq] at hi
    subst hi
    exact ⟨.slice (some ⟨b, o, none⟩) 0 0, by simp [slS, highOf, lowOf, bnd], .inr (.inl ⟨by simp, _, rfl, rfl, hbb⟩), rfl⟩
  · have hc2 : (2 * c + 1) / 2 = c := by omega
    have hmul := Nat.mul_le_mul_right E.w hl
    have hmi := Nat.mul_le_mul_right E.w hi
    refine ⟨.slice (some ⟨b, o + i * E.w, none⟩) (l.length - i) (2 * (c - i) + 1), ?_, .inr (.inr ⟨b, o + i * E.w, c - i, xs, by simp, by simp; omega, hbn, hf, by rw [Nat.sub_mul]; omega, ?_⟩), rfl⟩
    · simp only [slS, highOf, lowOf, bnd, hc2, Option.bind_some, show (0 : Int) ≤ (i : Int) ∧ (i : Int) ≤ (l.length : Nat) from ⟨by omega, by omega⟩, Int.toNat_natCast, hl, hf, rowOf, show (2 * c + 1) % 2 = 1 by omega]
      simp
    · rw [List.length_drop, Nat.sub_mul, ← E.cells_drop, ← hx, List.drop_take, List.drop_drop]

/-- A front part that is only read. -/
theorem Own.front (r : Own E H e v l) {sz : Nat} (hsz : sz = E.w) {i : Nat} (hi : i ≤ l.length) {q : IntKind} : ∃ v', slS e sz v none (some (.int q (i : Int))) (some (.int q (i : Int))) H = some v' ∧ Rd E H v' (l.take i) ∧ blockOf v' = blockOf v := by
  subst hsz
  rcases r with ⟨rfl, rfl⟩ | ⟨rfl, ⟨b, o, s⟩, rfl, hs, hbb⟩ | ⟨b, o, c, xs, rfl, hl, hbn, hf, ho, hx⟩
  · simp only [List.length_nil, Nat.le_zero_eq] at hi
    subst hi
    exact ⟨.slice none 0 0, rfl, .inl ⟨by simp, rfl⟩, rfl⟩
  · simp only at hs
    subst hs
    simp only [List.length_nil, Nat.le_zero_eq] at hi
    subst hi
    exact ⟨.slice (some ⟨b, o, none⟩) 0 0, by simp [slS, lowOf, bnd], .inr (.inl ⟨by simp, _, _, rfl, rfl⟩), rfl⟩
  · have hc2 : (2 * c + 1) / 2 = c := by omega
    have hmul := Nat.mul_le_mul_right E.w hl
    have hmi := Nat.mul_le_mul_right E.w hi
    have hval : slS e E.w (.slice (some ⟨b, o, none⟩) l.length (2 * c + 1)) none (some (.int q (i : Int))) (some (.int q (i : Int))) H = some (.slice (some ⟨b, if i = 0 then o else o + 0 * E.w, none⟩) (i - 0) (2 * (i - 0))) := by
      simp only [slS, lowOf, bnd, hc2, Option.bind_some, show (0 : Int) ≤ (i : Int) ∧ (i : Int) ≤ (c : Nat) from ⟨by omega, by omega⟩, show (0 : Int) ≤ (i : Int) ∧ (i : Int) ≤ (i : Nat) from ⟨by omega, by omega⟩, Int.toNat_natCast, and_self, if_true, Option.map_some]
    refine ⟨_, hval, ?_, rfl⟩
    have e1 : (if i = 0 then o else o + 0 * E.w) = o := by split <;> omega
    rw [e1, Nat.sub_zero]
    by_cases h0 : i = 0
    · subst h0; exact .inr (.inl ⟨by simp, _, _, rfl, rfl⟩)
    · have hlen : (l.take i).length = i := by simp; omega
      refine .inr (.inr ⟨b, o, 2 * i, by rw [hlen], fun h => h0 (by rw [← hlen, h]; rfl), hbn, ?_⟩)
      rw [hlen, hf, cutB_c (by omega), ← E.cells_take, ← hx, List.take_take, Nat.min_eq_left hmi]

end Go.Proofs.Ytehnchfnhbmkdaa.Eng

/-
  The engine, part 24: more numbers: shifts, quotients, conversions.
  Conditions: none. By an AI agent.
-/
namespace Go.Proofs.Ytehnchfnhbmkdaa.Eng
open Go

variable {P : Program} {H : AHeap}

theorem xbin_gr {op : BinOp} {t : TypeId} {ox oy : Operand} {q q' : IntKind} {a b : Int} {v : Value} (h : pv P (do eqGuard op t ox oy (.int q a) (.int q' b); binOp op t (.int q a) (.int q' b)) = some v) (hg : gr 9 v = true) :
    xbin P op t ox oy (.int q a) (.int q' b) = some v := by
  have e : xbin P op t ox oy (.int q a) (.int q' b) = pvg P (do eqGuard op t ox oy (.int q a) (.int q' b); binOp op t (.int q a) (.int q' b)) := rfl
  rw [e, pvg_some h hg]

@[go_sem] theorem shr_lit {t : TypeId} {ox oy : Operand} {q q' : IntKind} {a b : Int} (h : 0 ≤ b ∧ b < 8) : xbin P .shr t ox oy (.int q a) (.int q' b) = some (.int q (a / 2 ^ b.toNat)) := by
  refine xbin_gr ?_ rfl
  have hb : ¬ b < 0 := by omega
  have hm : min b.toNat q.bits = b.toNat := by cases q <;> simp [IntKind.bits] <;> omega
  simp [eqGuard, binOp, Op.shift, Bind.bind, Sem.bind, Pure.pure, pv, hb, hm]
  rw [Int.fdiv_eq_ediv_of_nonneg]
  exact Int.pow_nonneg (by decide)

theorem wrap_u64 {n : Int} (h1 : 0 ≤ n ∧ n < 18446744073709551616) : IntKind.wrap .u64 n = n := by
  unfold IntKind.wrap
  simp only [IntKind.bits, IntKind.signed, Bool.false_and]
  simp
  omega
theorem wrap_u32 {n : Int} (h1 : 0 ≤ n ∧ n < 4294967296) : IntKind.wrap .u32 n = n := by
  unfold IntKind.wrap
  simp only [IntKind.bits, IntKind.signed, Bool.false_and]
  simp
  omega
theorem wrap_u8 {n : Int} (h1 : 0 ≤ n ∧ n < 256) : IntKind.wrap .u8 n = n := by
  unfold IntKind.wrap
  simp only [IntKind.bits, IntKind.signed, Bool.false_and]
  simp
  omega
attribute [go_sem] wrap_i64 wrap_u64 wrap_u32 wrap_u8

end Go.Proofs.Ytehnchfnhbmkdaa.Eng

/-
  The engine, part 25: inserting into, and deleting from, a list of its own.
  Conditions: none. By an AI agent.
-/
namespace Go.Proofs.Ytehnchfnhbmkdaa.Eng
open Go
set_option linter.unusedVariables false
set_option linter.unusedSimpArgs false

variable {P : Program} {α : Type} {E : Enc α} {H H' : AHeap} {v : Value} {l : List α} {e : TypeId}

theorem bnd_nat {y i : Nat} {q : IntKind} (h : i ≤ y) : bnd y (.int q (i : Int)) = some i := by
  unfold bnd
  simp only [Int.toNat_natCast]
  rw [if_pos ⟨by omega, by omega⟩]

theorem sl_lo {b o n c i sz : Nat} {q : IntKind} {xs : List Value} (hf : H.f b = .cells xs e true) (hi : i ≤ n) (hn : n ≤ c) :
    slS e sz (.slice (some ⟨b, o, none⟩) n (2 * c + 1)) (some (.int q (i : Int))) none none H = some (.slice (some ⟨b, o + i * sz, none⟩) (n - i) (2 * (c - i) + 1)) := by
  simp only [slS, highOf, lowOf, bnd_nat hi, show (2 * c + 1) / 2 = c by omega, Option.bind_some, hn, if_true, show ¬ ((2 * c + 1) % 2 = 0) by omega, if_false, hf, rowOf, beq_self_eq_true]
theorem sl_hi {b o n c i sz : Nat} {q : IntKind} {xs : List Value} (hf : H.f b = .cells xs e true) (hi : i ≤ c) :
    slS e sz (.slice (some ⟨b, o, none⟩) n (2 * c + 1)) none (some (.int q (i : Int))) none H = some (.slice (some ⟨b, o, none⟩) i (2 * c + 1)) := by
  simp only [slS, highOf, lowOf, show (2 * c + 1) / 2 = c by omega, bnd_nat hi, Option.bind_some, hi, if_true, show ¬ ((2 * c + 1) % 2 = 0) by omega, if_false, hf, rowOf, beq_self_eq_true]
  simp
theorem sl_lohi {b o n c i j sz : Nat} {q q' : IntKind} {xs : List Value} (hf : H.f b = .cells xs e true) (hi : i ≤ j) (hj : j ≤ c) :
    slS e sz (.slice (some ⟨b, o, none⟩) n (2 * c + 1)) (some (.int q (i : Int))) (some (.int q' (j : Int))) none H = some (.slice (some ⟨b, o + i * sz, none⟩) (j - i) (2 * (c - i) + 1)) := by
  simp only [slS, highOf, lowOf, show (2 * c + 1) / 2 = c by omega, bnd_nat hj, bnd_nat hi, Option.bind_some, hj, if_true, show ¬ ((2 * c + 1) % 2 = 0) by omega, if_false, hf, rowOf, beq_self_eq_true]
theorem sl_three {b o n c i j m sz : Nat} {q q' q'' : IntKind} (hi : i ≤ j) (hj : j ≤ m) (hm : m ≤ c) :
    slS e sz (.slice (some ⟨b, o, none⟩) n (2 * c + 1)) (some (.int q (i : Int))) (some (.int q' (j : Int))) (some (.int q'' (m : Int))) H = some (.slice (some ⟨b, if m = i then o else o + i * sz, none⟩) (j - i) (2 * (m - i))) := by
  simp only [slS, lowOf, show (2 * c + 1) / 2 = c by omega, bnd_nat hm, bnd_nat hj, bnd_nat hi, Option.bind_some, Option.map_some]

/-! ### Insert -/
theorem Enc.cells_ins (E : Enc α) (l m : List α) (i : Nat) : E.cells (l.take i ++ (m ++ l.drop i)) = E.cells (l.take i) ++ (E.cells m ++ E.cells (l.drop i)) := by
  rw [E.cells_append, E.cells_append]

theorem zeros_all {z : List Value} (h : z.all one = true) : ∀ n, (zeros z n).all one = true
  | 0 => rfl
  | n + 1 => by rw [zeros, List.all_append, h, zeros_all h n]; rfl

theorem insS_own {el : TypeId} {z : List Value} {b o c i bv ov cv : Nat} {xs ys : List Value} {ev : TypeId} {m : List α} (hz : z.length = E.w) (hzo : z.all one = true)
    (hl : l.length ≤ c) (hb : b < H.n) (hf : H.f b = .cells xs el true) (ho : o + c * E.w = xs.length) (hx : (xs.drop o).take (l.length * E.w) = E.cells l)
    (hi : i < l.length) (hm : m ≠ []) (hfv : H.f bv = .cells ys ev true) (hbv : bv ≠ b) (htq : tailQ P ev = 1) (hy : ov + m.length * E.w ≤ ys.length) (hyc : (ys.drop ov).take (m.length * E.w) = E.cells m)
    (h1 : (l.length + m.length) * P.bytesOf el ≤ 140737488355328) (h2 : l.length + m.length ≤ 140737488355328) :
    ∃ v' H', insS P el z [.slice (some ⟨b, o, none⟩) l.length (2 * c + 1), .int .i64 (i : Int), .slice (some ⟨bv, ov, none⟩) m.length cv] H = some (v', H') ∧ Own E H' el v' (l.take i ++ (m ++ l.drop i)) ∧
      Fr (fun x => x = b) H H' ∧ (blockOf v' = some b ∨ blockOf v' = some H.n) := by
  have hw := E.pos
  have hm0 : m.length ≠ 0 := fun h => hm (List.length_eq_zero_iff.1 h)
  have hc2 : (2 * c + 1) / 2 = c := by omega
  have hmul := Nat.mul_le_mul_right E.w hl
  have hmi := Nat.mul_le_mul_right E.w (Nat.le_of_lt hi)
  have hsub : (l.length - i) * E.w = l.length * E.w - i * E.w := Nat.sub_mul ..
  have htail : (xs.drop (o + i * E.w)).take ((l.length - i) * E.w) = E.cells (l.drop i) := by
    rw [← E.cells_drop, ← hx, List.drop_take, List.drop_drop, hsub]
  have hhead : (xs.drop o).take (i * E.w) = E.cells (l.take i) := by
    rw [← E.cells_take, ← hx, List.take_take, Nat.min_eq_left hmi]
  have hxpos : 0 < xs.length := by
    have : 0 < l.length := by omega
    have := Nat.mul_pos this hw
    omega
  have hcond : (2 * c + 1) % 2 = 1 ∧ True ∧ i < l.length ∧ l.length ≤ (2 * c + 1) / 2 ∧ m.length ≠ 0 ∧ (l.length + m.length) * P.bytesOf el ≤ 140737488355328 ∧ l.length + m.length ≤ 140737488355328 ∧ bv ≠ b ∧ tailQ P ev = 1 ∧ o + (2 * c + 1) / 2 * z.length = xs.length ∧
          ov + m.length * z.length ≤ ys.length ∧ 0 < xs.length ∧ ((ys.drop ov).take (m.length * z.length)).all one = true ∧ ((xs.drop (o + i * z.length)).take ((l.length - i) * z.length)).all one = true ∧ (zeros z (l.length + m.length - i)).all one = true := by
    rw [hc2, hz]
    exact ⟨by omega, trivial, hi, hl, hm0, h1, h2, hbv, htq, ho, hy, hxpos, by rw [hyc]; exact E.cells_one m, by rw [htail]; exact E.cells_one _, zeros_all hzo _⟩
  have hval : insS P el z [.slice (some ⟨b, o, none⟩) l.length (2 * c + 1), .int .i64 (i : Int), .slice (some ⟨bv, ov, none⟩) m.length cv] H =
      if l.length + m.length ≤ c then
          some (.slice (some ⟨b, o, none⟩) (l.length + m.length) (2 * c + 1),
            (H.set b (.cells (spl xs (o + (i + m.length) * E.w) (E.cells (l.drop i))) el true)).set b
              (.cells (spl (spl xs (o + (i + m.length) * E.w) (E.cells (l.drop i))) (o + i * E.w) (E.cells m)) el true))
        else some (.slice (some ⟨H.n, 0, none⟩) (l.length + m.length) (2 * (l.length + m.length) + 1),
            (H.set b .dead).push (.cells (E.cells (l.take i) ++ (E.cells m ++ E.cells (l.drop i))) el true)) := by
    show (match H.f b, H.f bv with
      | .cells xs e true, .cells ys ev true => _
      | _, _ => none) = _
    rw [hf, hfv]
    simp only
    rw [if_pos hcond]
    simp only [hc2, hz, htail, hhead, hyc]
  have hlen3 : (l.take i ++ (m ++ l.drop i)).length = l.length + m.length := by simp; omega
  rw [hval]
  by_cases hroom : l.length + m.length ≤ c
  · rw [if_pos hroom]
    have hmulr := Nat.mul_le_mul_right E.w hroom
    rw [Nat.add_mul] at hmulr
    refine ⟨_, _, rfl, ?_, Fr.set (S := fun x => x = b) (Fr.set (Fr.refl H) b _ (fun _ => rfl)) b _ (fun _ => rfl), .inl rfl⟩
    refine .inr (.inr ⟨b, o, c, _, by rw [hlen3], by rw [hlen3]; exact hroom, hb, set_f_eq, by rw [spl_length, spl_length, ho], ?_⟩)
    rw [hlen3, E.cells_ins]
    have hA : i * E.w + m.length * E.w + (l.length - i) * E.w = (l.length + m.length) * E.w := by rw [hsub, Nat.add_mul]; omega
    have hcl : (E.cells (l.drop i)).length = (l.length - i) * E.w := by simp
    have hclm : (E.cells m).length = m.length * E.w := by simp
    have hins := fun j hj => ins_cells (xs := xs) (new := E.cells m) (o := o) (A := i * E.w) (M := m.length * E.w) (T := (l.length - i) * E.w) (by omega) hclm (j := j) hj
    apply List.ext_getElem?
    intro j
    by_cases hj : j < (l.length + m.length) * E.w
    · rw [List.getElem?_take_of_lt hj, List.getElem?_drop]
      have := hins j (by rw [hA]; exact hj)
      rw [htail, hhead] at this
      rw [show o + (i + m.length) * E.w = o + (i * E.w + m.length * E.w) by rw [Nat.add_mul]]
      exact this
    · have hlt : (E.cells (l.take i)).length = i * E.w := by rw [E.cells_len, List.length_take, Nat.min_eq_left (Nat.le_of_lt hi)]
      rw [List.getElem?_eq_none (by simp only [List.length_take]; omega), List.getElem?_eq_none (by rw [List.length_append, List.length_append, hlt, hclm, hcl]; omega)]
  · rw [if_neg hroom]
    refine ⟨_, _, rfl, ?_, Fr.push (Fr.set (S := fun x => x = b) (Fr.refl H) b _ (fun _ => rfl)) _, .inr rfl⟩
    refine .inr (.inr ⟨H.n, 0, l.length + m.length, _, by rw [hlen3], by rw [hlen3]; exact Nat.le_refl _, by simp, push_f_eq rfl, ?_, ?_⟩)
    · rw [List.length_append, List.length_append, E.cells_len, E.cells_len, E.cells_len, List.length_take, List.length_drop, Nat.min_eq_left (Nat.le_of_lt hi), hsub, Nat.add_mul]; omega
    · rw [hlen3, E.cells_ins, List.drop_zero]
      apply List.take_of_length_le
      rw [List.length_append, List.length_append, E.cells_len, E.cells_len, E.cells_len, List.length_take, List.length_drop, Nat.min_eq_left (Nat.le_of_lt hi), hsub, Nat.add_mul]; omega

theorem del_cells {xs z : List Value} {o i : Nat} (hz : z.length = E.w) (hi : i < l.length) (hxl : o + l.length * E.w ≤ xs.length) (hx : (xs.drop o).take (l.length * E.w) = E.cells l) :
    ((spl (spl xs (o + i * E.w) (E.cells (l.drop (i + 1)))) (o + (l.length - 1) * E.w) z).drop o).take ((l.take i ++ l.drop (i + 1)).length * E.w) = E.cells (l.take i ++ l.drop (i + 1)) := by
  have hlen : (l.take i ++ l.drop (i + 1)).length = l.length - 1 := by simp; omega
  have hm1 : (l.length - 1) * E.w = l.length * E.w - E.w := by rw [Nat.sub_mul, Nat.one_mul]
  have hm2 : (l.length - (i + 1)) * E.w = l.length * E.w - (i * E.w + E.w) := by rw [Nat.sub_mul, Nat.add_mul, Nat.one_mul]
  have hm3 : (i + 1) * E.w ≤ l.length * E.w := Nat.mul_le_mul_right _ hi
  rw [Nat.add_mul, Nat.one_mul] at hm3
  have hcl : (E.cells (l.drop (i + 1))).length = l.length * E.w - (i * E.w + E.w) := by rw [E.cells_len, List.length_drop, hm2]
  have hct : (E.cells (l.take i)).length = i * E.w := by rw [E.cells_len, List.length_take, Nat.min_eq_left (Nat.le_of_lt hi)]
  rw [hlen, hm1, E.cells_append]
  apply List.ext_getElem?
  intro j
  by_cases hj : j < l.length * E.w - E.w
  · rw [List.getElem?_take_of_lt hj, List.getElem?_drop, spl_get _ _ _ _ (by rw [spl_length, hz]; omega), if_neg (by omega), spl_get _ _ _ _ (by rw [hcl]; omega), hcl, List.getElem?_append, hct]
    by_cases h1 : j < i * E.w
    · rw [if_neg (by omega), if_pos h1, ← E.cells_take, List.getElem?_take_of_lt h1, ← hx, List.getElem?_take_of_lt (by omega), List.getElem?_drop]
    · rw [if_pos (by omega), if_neg h1, show o + j - (o + i * E.w) = j - i * E.w by omega]
  · rw [List.getElem?_eq_none (by simp only [List.length_take]; omega), List.getElem?_eq_none (by rw [List.length_append, hct, hcl]; omega)]

/-! ### Functions without loops, run as they stand -/
def noLoop : DCode → Bool
  | .seq a b => noLoop a && noLoop b
  | .cond _ _ a b => noLoop a && noLoop b
  | .block _ _ b => noLoop b
  | .loop _ _ => false
  | _ => true

theorem dCode_noLoop {N n : Nat} {call : CallF} : ∀ (c : DCode), noLoop c = true → dCode P N call n c = dCodeI P N call c
  | .skip, _ => rfl
  | .region _ _ _, _ => rfl
  | .seq a b, h => by
    simp only [noLoop, Bool.and_eq_true] at h
    funext T H
    rw [dCode, dCodeI, dCode_noLoop a h.1, dCode_noLoop b h.2]
    rfl
  | .cond keep c a b, h => by
    simp only [noLoop, Bool.and_eq_true] at h
    funext T H
    rw [dCode, dCodeI, dCode_noLoop a h.1, dCode_noLoop b h.2]
    rfl
  | .block keep id b, h => by
    funext T H
    rw [dCode, dCodeI, dCode_noLoop b h]
    rfl
  | .loop _ _, h => by simp [noLoop] at h
  | .exit _, _ => rfl
  | .ret _, _ => rfl
  | .bad _, _ => rfl

theorem dBody_noLoop {hints : Hints} {call : CallF} {n : Nat} {f : FuncId} {args : List Value} (h : noLoop (codeOf P hints f) = true) : dBody P hints call n f args H = dBodyL stdL P hints call limLP f args H := by
  unfold codeOf at h
  unfold dBody dBodyL
  cases hf : P.funcs[f]? with
  | none => rfl
  | some fn =>
    rw [hf] at h
    simp only at h ⊢
    cases hb : fn.body with
    | none => rfl
    | some c =>
      rw [hb] at h
      simp only at h ⊢
      rw [dCodeL_eq, dCode_noLoop _ h]
      congr 1
      funext r
      obtain ⟨x, T, H⟩ := r
      cases x with
      | normal => simp only [endK]; rw [resValsK_eq]; cases resVals P H T _ <;> rfl
      | exit i => rfl
      | ret => simp only [endK]; rw [resValsK_eq]; cases resVals P H T _ <;> rfl

@[go_sem, go_sem ↓] theorem nextK_none {call : CallF} {k : Value → AHeap → Res} : nextK call H none k = none := _root_.id rfl
@[go_sem, go_sem ↓] theorem bareK_none {k : Value → AHeap → Res} : bareK none H k = none := _root_.id rfl
theorem cap_odd {t : TypeId} {b o n c : Nat} : xbuiltin P .cap [t] [.slice (some ⟨b, o, none⟩) n (2 * c + 1)] H = none := by
  show bare (xcap P [t] (.slice (some ⟨b, o, none⟩) n (2 * c + 1))) H = none
  have : xcap P [t] (.slice (some ⟨b, o, none⟩) n (2 * c + 1)) = none := by
    unfold xcap
    simp only
    split
    · rename_i h; cases h
    · rename_i h
      cases h
      rw [if_neg (by omega)]
    · rfl
  rw [this]; rfl

end Go.Proofs.Ytehnchfnhbmkdaa.Eng

/-
  The engine, part 26: structs of plain fields, compared.
  Conditions: none. By an AI agent.
-/
namespace Go.Proofs.Ytehnchfnhbmkdaa.Eng
open Go
set_option linter.unusedVariables false
set_option linter.unusedSimpArgs false

variable {P : Program} {H : AHeap}

theorem pv_bind {α β : Type} {P : Program} : ∀ (s : Sem α) (f : α → Sem β), pv P (s.bind f) = (pv P s).bind fun a => pv P (f a)
  | .pure a, f => rfl
  | .program k, f => pv_bind (k P) f
  | .load m a k, f => rfl
  | .store m a v k, f => rfl
  | .new o k, f => rfl
  | .shape r k, f => rfl
  | .freeze a n k, f => rfl
  | .frozen a k, f => rfl
  | .getObj r k, f => rfl
  | .setObj r o k, f => rfl
  | .choose q k, f => rfl
  | .sys c k, f => rfl
  | .mark m k, f => rfl
  | .halt h, f => rfl
theorem pv_bind' {α β : Type} (s : Sem α) (f : α → Sem β) : pv P (s >>= f) = (pv P s).bind fun a => pv P (f a) := pv_bind s f
theorem pv_pure {α : Type} (a : α) : pv P (pure a : Sem α) = some a := rfl
theorem pv_program : pv P program = some P := rfl
theorem pv_ite {α : Type} {c : Prop} [Decidable c] (a b : Sem α) : pv P (if c then a else b) = if c then pv P a else pv P b := by split <;> rfl
theorem pv_und {t : TypeId} {d : TypeDesc} (h : P.underlying t = some d) : pv P (underlying t) = some d := by
  unfold underlying
  simp only [pv_bind', pv_program, Option.bind_some, h]
  rfl

def ceq : Value → Value → Bool
  | .int _ a, .int _ b => decide (a = b)
  | .string a, .string b => decide (bl a = bl b)
  | .bool a, .bool b => a == b
  | _, _ => false

def ceqs : List Value → List Value → Bool
  | [], [] => true
  | a :: x, b :: y => ceq a b && ceqs x y
  | _, _ => false

def fitC (P : Program) (t : TypeId) (v w : Value) : Bool :=
  match P.underlying t, v, w with
  | some (.int _), .int k _, .int k' _ => k == k'
  | some .string, .string _, .string _ => true
  | some .bool, .bool _, .bool _ => true
  | _, _, _ => false

def fits (P : Program) : List Field → Nat → List Value → List Value → Bool
  | [], _, [], [] => true
  | f :: fs, i, a :: x, b :: y => f.name != "_" && f.offset == i && fitC P f.type a b && fits P fs (i + 1) x y
  | _, _, _, _ => false

theorem bytes_beq (a b : ByteArray) : (a == b) = decide (bl a = bl b) := by
  rw [beq_toListBytes, ByteArray.toList_eq, ByteArray.toList_eq, Bool.beq_eq_decide_eq]
  rfl

theorem pv_cell {t : TypeId} {d : Nat} {a b : Value} (h : fitC P t a b = true) : pv P (Op.equalIn (d + 1) t a b) = some (ceq a b) := by
  unfold fitC at h
  split at h
  · rename_i k k1 x k2 y hu
    have hk : k1 = k2 := by simpa using h
    subst hk
    simp only [Op.equalIn, pv_bind', pv_und hu, Option.bind_some, if_true, pv_pure, ceq, Bool.beq_eq_decide_eq]
  · rename_i x y hu
    simp only [Op.equalIn, pv_bind', pv_und hu, Option.bind_some, pv_pure, ceq, bytes_beq]
  · rename_i x y hu
    simp only [Op.equalIn, pv_bind', pv_und hu, Option.bind_some, pv_pure, ceq]
  · cases h

theorem pv_part {t : TypeId} {a b : Value} (h : fitC P t a b = true) {xs : Array Value} {o : Nat} {v : Value} (hx : xs[o]? = some v) : pv P (part t xs o) = some v := by
  have hagg : pv P (isAgg t) = some false := by
    unfold isAgg
    unfold fitC at h
    split at h
    · rename_i hu; simp only [pv_bind', pv_und hu, Option.bind_some]; rfl
    · rename_i hu; simp only [pv_bind', pv_und hu, Option.bind_some]; rfl
    · rename_i hu; simp only [pv_bind', pv_und hu, Option.bind_some]; rfl
    · cases h
  unfold part
  simp only [pv_bind', hagg, Option.bind_some, Bool.false_eq_true, if_false, hx, pv_pure]

theorem pv_eqFields {d : Nat} : ∀ (fs : List Field) (i : Nat) (xs ys : Array Value) (x y : List Value), (∀ j, xs[i + j]? = x[j]?) → (∀ j, ys[i + j]? = y[j]?) → fits P fs i x y = true →
    pv P (Op.eqFields (d + 1) xs ys fs) = some (ceqs x y)
  | [], i, xs, ys, [], [], _, _, _ => rfl
  | f :: fs, i, xs, ys, a :: x, b :: y, hx, hy, h => by
    simp only [fits, Bool.and_eq_true, bne_iff_ne, ne_eq, beq_iff_eq] at h
    obtain ⟨⟨⟨h1, h2⟩, h3⟩, h4⟩ := h
    have ha : xs[i]? = some a := by simpa using hx 0
    have hb : ys[i]? = some b := by simpa using hy 0
    have ih := pv_eqFields (d := d) fs (i + 1) xs ys x y (fun j => by rw [show i + 1 + j = i + (j + 1) by omega, hx]; rfl) (fun j => by rw [show i + 1 + j = i + (j + 1) by omega, hy]; rfl) h4
    rw [Op.eqFields]
    simp only [ne_eq, h1, not_false_eq_true, if_true, pv_bind', h2, pv_part h3 ha, pv_part h3 hb, Option.bind_some, pv_cell h3, pv_ite, pv_pure, ih, ceqs]
    cases ceq a b <;> simp
  | [], _, _, _, _ :: _, _, _, _, h => by simp [fits] at h
  | [], _, _, _, [], _ :: _, _, _, h => by simp [fits] at h
  | _ :: _, _, _, _, [], _, _, _, h => by simp [fits] at h
  | _ :: _, _, _, _, _ :: _, [], _, _, h => by simp [fits] at h

theorem pv_equalIn_struct {d : Nat} {t : TypeId} {fs : Array Field} (xs ys : Array Value) (ht : P.underlying t = some (.struct fs)) (hp : P.stoodInHeld t = false) :
    pv P (Op.equalIn (d + 1) t (.agg xs) (.agg ys)) = pv P (Op.eqFields d xs ys fs.toList) := by
  simp only [Op.equalIn, pv_bind', pv_und ht, pv_program, Option.bind_some, hp, Bool.false_eq_true, if_false]
  rw [← Array.forIn_toList]
  generalize fs.toList = l
  clear ht
  induction l with
  | nil => simp [Op.eqFields, pv_pure]
  | cons f l ih =>
    simp only [List.forIn_cons, Op.eqFields, pv_bind', pv_ite]
    split
    · cases pv P (part f.type xs f.offset) with
      | none => rfl
      | some a =>
        simp only [Option.bind_some]
        cases pv P (part f.type ys f.offset) with
        | none => rfl
        | some b =>
          simp only [Option.bind_some]
          cases pv P (Op.equalIn d f.type a b) with
          | none => rfl
          | some r =>
            cases r
            · simp [pv_pure]
            · simp only [Option.bind_some, Bool.not_true, Bool.false_eq_true, if_false, pv_pure]
              exact ih
    · simp only [pv_pure, Option.bind_some]
      exact ih

theorem pv_equal {t : TypeId} {fs : Array Field} {xs ys : List Value} (ht : P.underlying t = some (.struct fs)) (hp : P.stoodInHeld t = false) (hf : fits P fs.toList 0 xs ys = true) :
    pv P (Op.equal t (.agg ⟨xs⟩) (.agg ⟨ys⟩)) = some (ceqs xs ys) := by
  have h := pv_equalIn_struct (P := P) (d := 9999) (t := t) ⟨xs⟩ ⟨ys⟩ ht hp
  have h2 := pv_eqFields (P := P) (d := 9998) fs.toList 0 ⟨xs⟩ ⟨ys⟩ xs ys (fun j => by simp) (fun j => by simp) hf
  exact h.trans h2

theorem agg_eq {t : TypeId} {fs : Array Field} {xs ys : List Value} {ox oy : Operand} (ht : P.underlying t = some (.struct fs)) (hp : P.stoodInHeld t = false) (hg : P.eqGuardType P.depth t = false) (hf : fits P fs.toList 0 xs ys = true)
    (g1 : gr 9 (.agg ⟨xs⟩) = true) (g2 : gr 9 (.agg ⟨ys⟩) = true) : xbin P .eql t ox oy (.agg ⟨xs⟩) (.agg ⟨ys⟩) = some (.bool (ceqs xs ys)) := by
  have e : xbin P .eql t ox oy (.agg ⟨xs⟩) (.agg ⟨ys⟩) = if gr 9 (.agg ⟨xs⟩) && gr 9 (.agg ⟨ys⟩) then pvg P (do eqGuard .eql t ox oy (.agg ⟨xs⟩) (.agg ⟨ys⟩); binOp .eql t (.agg ⟨xs⟩) (.agg ⟨ys⟩)) else (nilTest P t (.agg ⟨xs⟩) (.agg ⟨ys⟩)).map .bool := rfl
  rw [e, g1, g2]
  simp only [Bool.and_self, if_true]
  refine pvg_some ?_ rfl
  simp only [eqGuard, binOp, pv_bind', pv_program, Option.bind_some, hg, Bool.not_false, if_true, pv_pure, Bool.not_true, Bool.false_eq_true, if_false, pv_equal ht hp hf]
theorem agg_ne {t : TypeId} {fs : Array Field} {xs ys : List Value} {ox oy : Operand} (ht : P.underlying t = some (.struct fs)) (hp : P.stoodInHeld t = false) (hg : P.eqGuardType P.depth t = false) (hf : fits P fs.toList 0 xs ys = true)
    (g1 : gr 9 (.agg ⟨xs⟩) = true) (g2 : gr 9 (.agg ⟨ys⟩) = true) : xbin P .neq t ox oy (.agg ⟨xs⟩) (.agg ⟨ys⟩) = some (.bool (!ceqs xs ys)) := by
  have e : xbin P .neq t ox oy (.agg ⟨xs⟩) (.agg ⟨ys⟩) = if gr 9 (.agg ⟨xs⟩) && gr 9 (.agg ⟨ys⟩) then pvg P (do eqGuard .neq t ox oy (.agg ⟨xs⟩) (.agg ⟨ys⟩); binOp .neq t (.agg ⟨xs⟩) (.agg ⟨ys⟩)) else (nilTest P t (.agg ⟨xs⟩) (.agg ⟨ys⟩)).map fun b => .bool !b := rfl
  rw [e, g1, g2]
  simp only [Bool.and_self, if_true]
  refine pvg_some ?_ rfl
  simp only [eqGuard, binOp, pv_bind', pv_program, Option.bind_some, hg, Bool.not_false, if_true, pv_pure, Bool.not_true, Bool.false_eq_true, if_false, pv_equal ht hp hf]

/-! ### With fuel again: for what the kernel can reckon -/
def finLP (n : Nat) : LoopH := fun body keep T H k => dLoopK body keep n T H k

theorem dCodeL_fin {P : Program} {N n : Nat} {call : CallF} : ∀ (c : DCode), PieceK (dCode P N call n c) (dCodeL stdL P N call (finLP n) c)
  | .skip => fun _ _ _ => rfl
  | .region id ops draw => fun T H k => dCodeK_eq (P := P) (N := N) (call := call) (n := n) (.region id ops draw) T H k
  | .seq a b => fun T H k => by
    rw [dCodeL, dCode, dCodeL_fin a]
    cases dCode P N call n a T H with
    | none => rfl
    | some r =>
      obtain ⟨e, T', H'⟩ := r
      cases e with
      | normal => simp only [Option.bind_some, seqK]; exact dCodeL_fin b T' H' k
      | exit i => rfl
      | ret => rfl
  | .cond keep c x y => fun T H k => by
    rw [dCodeL, dCode, stdL_c]
    unfold condL
    cases ev T c with
    | bool b =>
      cases b with
      | true =>
        have hx := dCodeL_fin (P := P) (N := N) (call := call) (n := n) x T H (afterK keep k)
        simp only [if_true]
        rw [hx]
        cases dCode P N call n x T H with
        | none => rfl
        | some r => obtain ⟨e, T', H'⟩ := r; cases e <;> rfl
      | false =>
        have hy := dCodeL_fin (P := P) (N := N) (call := call) (n := n) y T H (afterK keep k)
        simp only [Bool.false_eq_true, if_false]
        rw [hy]
        cases dCode P N call n y T H with
        | none => rfl
        | some r => obtain ⟨e, T', H'⟩ := r; cases e <;> rfl
    | _ => rfl
  | .block keep id b => fun T H k => by
    rw [dCodeL, dCode, stdL_s]
    unfold shareL
    dsimp only
    rw [dCodeL_fin b]
    cases dCode P N call n b T H with
    | none => rfl
    | some r =>
      obtain ⟨e, T', H'⟩ := r
      cases e with
      | normal => rfl
      | exit j => simp only [Option.bind_some, Option.map_some, blkK]; split <;> rfl
      | ret => rfl
  | .loop keep b => fun T H k => by
    rw [dCodeL, dCode]
    exact dLoopK_eq (dCodeL_fin b) keep n T H k
  | .exit id => fun _ _ _ => rfl
  | .ret keep => fun _ _ _ => rfl
  | .bad c => fun _ _ _ => rfl

theorem dBody_fin {hints : Hints} {call : CallF} {n : Nat} {f : FuncId} {args : List Value} : dBody P hints call n f args H = dBodyL stdL P hints call (finLP n) f args H := by
  unfold dBody dBodyL
  cases hf : P.funcs[f]? with
  | none => rfl
  | some fn =>
    simp only
    cases hb : fn.body with
    | none => rfl
    | some c =>
      simp only
      rw [dCodeL_fin]
      congr 1
      funext r
      obtain ⟨x, T, H⟩ := r
      cases x with
      | normal => simp only [endK]; rw [resValsK_eq]; cases resVals P H T _ <;> rfl
      | exit i => rfl
      | ret => simp only [endK]; rw [resValsK_eq]; cases resVals P H T _ <;> rfl

/-- A law's run, by the value alone. -/
theorem run_fst {prims : Prims} {hints : Hints} {n : Nat} {f : FuncId} {args : List Value} (hp : prims f = none) (h : (dBodyL stdL P hints (dCall P prims hints n) (finLP n) f args H).map (·.1) = some (.bool true)) :
    ∃ k H', dCall P prims hints k f args H = some (.bool true, H') := by
  refine ⟨n + 1, ?_⟩
  have e : dCall P prims hints (n + 1) f args H = (dBody P hints (dCall P prims hints n) n f args H).map (tidy H) := by simp only [dCall, hp]
  rw [e, dBody_fin]
  cases hq : dBodyL stdL P hints (dCall P prims hints n) (finLP n) f args H with
  | none => rw [hq] at h; cases h
  | some r =>
    rw [hq] at h
    obtain ⟨v, H1⟩ := r
    simp at h
    subst h
    simp only [Option.map_some, tidy]
    split <;> exact ⟨_, rfl⟩

end Go.Proofs.Ytehnchfnhbmkdaa.Eng

/-
  The engine, part 30: more numbers: quotients, remainders, shifts, bits; bytes: rows of them, and strings out of them.
  Conditions: none. By an AI agent.
-/
namespace Go.Proofs.Ytehnchfnhbmkdaa.Eng
open Go
set_option linter.unusedVariables false
set_option linter.unusedSimpArgs false

variable {P : Program} {H H' : AHeap}

theorem tdiv_pos {a b : Int} (h0 : 0 ≤ a) (h : 0 < b) : a.tdiv b = a / b := Int.tdiv_eq_ediv_of_nonneg h0
theorem tmod_pos {a b : Int} (h0 : 0 ≤ a) : a.tmod b = a % b := Int.tmod_eq_emod_of_nonneg h0

@[go_sem] theorem remP {t : TypeId} {ox oy : Operand} {q : IntKind} {a b : Int} (h0 : 0 ≤ a) (h : 0 < b) : xbin P .rem t ox oy (.int q a) (.int q b) = some (.int q (a % b)) := by
  have hb : b ≠ 0 := by omega
  refine xbin_gr ?_ rfl
  simp [eqGuard, binOp, Op.intDiv, Bind.bind, Sem.bind, Pure.pure, pv, hb, tmod_pos h0]
@[go_sem] theorem quoP {t : TypeId} {ox oy : Operand} {q : IntKind} {a b : Int} (h0 : 0 ≤ a) (h : 0 < b) : xbin P .quo t ox oy (.int q a) (.int q b) = some (.int q (q.wrap (a / b))) := by
  have hb : b ≠ 0 := by omega
  refine xbin_gr ?_ rfl
  simp [eqGuard, binOp, Op.intDiv, Bind.bind, Sem.bind, Pure.pure, pv, hb, tdiv_pos h0 h]
theorem quoI {t : TypeId} {ox oy : Operand} {a b : Int} (h0 : 0 ≤ a) (h : 0 < b) (h1 : a < 9223372036854775808) : xbin P .quo t ox oy (.int .i64 a) (.int .i64 b) = some (.int .i64 (a / b)) := by
  rw [quoP h0 h, wrap_i64]
  have : a / b ≤ a := Int.ediv_le_self b h0
  have : 0 ≤ a / b := Int.ediv_nonneg h0 (by omega)
  omega

theorem shlP {t : TypeId} {ox oy : Operand} {q q' : IntKind} {a b : Int} (h : 0 ≤ b ∧ b < q.bits) : xbin P .shl t ox oy (.int q a) (.int q' b) = some (.int q (q.wrap (a * 2 ^ b.toNat))) := by
  refine xbin_gr ?_ rfl
  have hb : ¬ b < 0 := by omega
  have hm : min b.toNat q.bits = b.toNat := by omega
  simp [eqGuard, binOp, Op.shift, Bind.bind, Sem.bind, Pure.pure, pv, hb, hm]
theorem shrP {t : TypeId} {ox oy : Operand} {q q' : IntKind} {a b : Int} (h : 0 ≤ b ∧ b < q.bits) : xbin P .shr t ox oy (.int q a) (.int q' b) = some (.int q (a / 2 ^ b.toNat)) := by
  refine xbin_gr ?_ rfl
  have hb : ¬ b < 0 := by omega
  have hm : min b.toNat q.bits = b.toNat := by omega
  simp [eqGuard, binOp, Op.shift, Bind.bind, Sem.bind, Pure.pure, pv, hb, hm]
  rw [Int.fdiv_eq_ediv_of_nonneg]
  exact Int.pow_nonneg (by decide)
theorem orU {t : TypeId} {ox oy : Operand} {q : IntKind} {a b : Nat} (ha : a < 2 ^ q.bits) (hb : b < 2 ^ q.bits) : xbin P .or t ox oy (.int q (a : Int)) (.int q (b : Int)) = some (.int q (q.wrap ((a ||| b : Nat) : Int))) := by
  refine xbin_gr ?_ rfl
  simp [eqGuard, binOp, Bind.bind, Sem.bind, Pure.pure, pv, Op.intBits, Nat.mod_eq_of_lt ha, Nat.mod_eq_of_lt hb]
theorem or_add {a b k : Nat} (hb : b < 2 ^ k) : a * 2 ^ k ||| b = a * 2 ^ k + b := by
  rw [← Nat.shiftLeft_eq, ← Nat.shiftLeft_add_eq_or_of_lt hb]

theorem mulN {t : TypeId} {ox oy : Operand} {a b : Nat} (h : a * b < 9223372036854775808) : xbin P .mul t ox oy (.int .i64 (a : Int)) (.int .i64 (b : Int)) = some (.int .i64 ((a * b : Nat) : Int)) := by
  rw [mul_i64 (by rw [← Int.natCast_mul]; omega), Int.natCast_mul]
theorem quoN {t : TypeId} {ox oy : Operand} {a b : Nat} (hb : 0 < b) (h : a < 9223372036854775808) : xbin P .quo t ox oy (.int .i64 (a : Int)) (.int .i64 (b : Int)) = some (.int .i64 ((a / b : Nat) : Int)) := by
  rw [quoI (by omega) (by omega) (by omega), Int.natCast_ediv]
theorem remN {t : TypeId} {ox oy : Operand} {q : IntKind} {a b : Nat} (hb : 0 < b) : xbin P .rem t ox oy (.int q (a : Int)) (.int q (b : Int)) = some (.int q ((a % b : Nat) : Int)) := by
  rw [remP (by omega) (by omega), Int.natCast_emod]
theorem minN {ts : List TypeId} {q : IntKind} {a b : Nat} : xbuiltin P .min ts [.int q (a : Int), .int q (b : Int)] H = some (.val (.int q ((min a b : Nat) : Int)) H) := by
  rw [min_int]; congr 3; omega
theorem maxN {ts : List TypeId} {q : IntKind} {a b : Nat} : xbuiltin P .max ts [.int q (a : Int), .int q (b : Int)] H = some (.val (.int q ((max a b : Nat) : Int)) H) := by
  rw [max_int]; congr 3; omega

/-! ### Bytes -/
def EB : Enc UInt8 := ⟨1, fun b => [byteCell b], fun _ => rfl, by decide, fun _ => rfl⟩
theorem EB_cells (l : List UInt8) : EB.cells l = l.map byteCell := by
  induction l with
  | nil => rfl
  | cons a l ih => rw [Enc.cells_cons, ih]; rfl
theorem u8_back (b : UInt8) : UInt8.ofNat ((b.toNat : Int)).toNat = b := by simp
theorem bytesOf_cells : ∀ (l : List UInt8), bytesOf (EB.cells l) = some l
  | [] => rfl
  | a :: l => by
    have : EB.cells (a :: l) = byteCell a :: EB.cells l := rfl
    rw [this]
    unfold byteCell bytesOf
    rw [bytesOf_cells l]
    simp

/-- string(b). -/
theorem conv_bs {t s e : TypeId} (ht : P.underlying t = some (.slice e)) (he : P.underlying e = some (.int .u8)) (hs : P.underlying s = some .string) {v : Value} {l : List UInt8} (hr : Rd EB H v l) : xconv P t s v H = some (.string (mk l), H) := by
  rcases hr with ⟨rfl, rfl⟩ | ⟨rfl, ⟨b, o, sp⟩, k, rfl, hsp⟩ | ⟨b, o, c, rfl, hl, hb, hc⟩
  · have h : pv P (convert t s (.slice none 0 0)) = some (.string .empty) := by
      simp only [convert, pv_bind', pv_und ht, pv_und hs, Option.bind_some, pv_und he]
      rfl
    have h2 : pvg P (convert t s (.slice none 0 0)) = some (.string .empty) := pvg_some h rfl
    unfold xconv
    rw [ht, hs]
    simp only [h2, Option.map_some]
    rfl
  · simp only at hsp
    subst hsp
    unfold xconv
    rw [ht, hs]
    simp only [he, if_true]
    rfl
  · have h0 : l.length ≠ 0 := fun h => hl (List.length_eq_zero_iff.1 h)
    unfold xconv
    rw [ht, hs]
    have hw : EB.w = 1 := rfl
    rw [hw, Nat.mul_one] at hc
    simp only [he, h0, if_false, cut_b, hc, Option.bind_some, bytesOf_cells, Option.map_some]

theorem Rd.byte {v : Value} {l : List UInt8} (hr : Rd EB H v l) {i : Nat} (hi : i < l.length) : ∃ b o, ixS 1 v (.int .i64 (i : Int)) = some (.pointer (some ⟨b, o, none⟩)) ∧ cellB (H.f b) o = some (.int .u8 (l[i].toNat : Int)) ∧ b < H.n ∧ blockOf v = some b := by
  obtain ⟨b, o, h1, h2, h3, h4⟩ := hr.ix (q := .i64) hi
  exact ⟨b, o, h1, cutB_cell h3 (i := 0) (by decide), h2, h4⟩
theorem u8_lt (c : UInt8) : (0 : Int) ≤ (c.toNat : Int) ∧ (c.toNat : Int) < 256 := ⟨by omega, by have := c.toNat_lt; omega⟩
@[go_sem] theorem add_u32 {t : TypeId} {ox oy : Operand} {a b : Int} (h : 0 ≤ a + b ∧ a + b < 4294967296) : xbin P .add t ox oy (.int .u32 a) (.int .u32 b) = some (.int .u32 (a + b)) := by
  rw [xbin_add, wrap_u32 h]
theorem wrapU8 {n : Int} : IntKind.wrap .u8 n = n % 256 := by
  unfold IntKind.wrap
  simp only [IntKind.bits, IntKind.signed, Bool.false_and]
  simp
theorem shl32 {t : TypeId} {ox oy : Operand} {q' : IntKind} {a b : Int} (h : 0 ≤ b ∧ b < 32) (h0 : 0 ≤ a) (h1 : a * 2 ^ b.toNat < 4294967296) : xbin P .shl t ox oy (.int .u32 a) (.int q' b) = some (.int .u32 (a * 2 ^ b.toNat)) := by
  rw [shlP (by simpa [IntKind.bits] using h), wrap_u32]
  refine ⟨Int.mul_nonneg h0 (Int.le_of_lt (Int.pow_pos (by decide))), h1⟩
theorem or32 {t : TypeId} {ox oy : Operand} {k : Nat} {a b : Int} (ha : 0 ≤ a) (hb : 0 ≤ b ∧ b < 2 ^ k) (h : a * 2 ^ k + b < 4294967296) : xbin P .or t ox oy (.int .u32 (a * 2 ^ k)) (.int .u32 b) = some (.int .u32 (a * 2 ^ k + b)) := by
  obtain ⟨m, rfl⟩ : ∃ m : Nat, a = (m : Int) := ⟨a.toNat, by omega⟩
  obtain ⟨n, rfl⟩ : ∃ n : Nat, b = (n : Int) := ⟨b.toNat, by omega⟩
  have e : ((m : Int) * 2 ^ k) = ((m * 2 ^ k : Nat) : Int) := by simp
  have hn : n < 2 ^ k := by have := hb.2; exact_mod_cast this
  rw [e] at h ⊢
  have h2 : m * 2 ^ k + n < 4294967296 := by rw [← Int.natCast_add] at h; omega
  have q1 : m * 2 ^ k < 2 ^ IntKind.u32.bits := by show _ < 4294967296; omega
  have q2 : n < 2 ^ IntKind.u32.bits := by show _ < 4294967296; omega
  clear h
  rw [orU q1 q2, or_add hn, wrap_u32 ⟨by omega, by omega⟩]
  rw [Int.natCast_add]

/-! ### Slices of which parts may be taken -/
variable {α : Type} {E : Enc α} {e : TypeId}

/-- Its capacity is known to be no less than its length; and if the capacity is not known, its row is of its kind. -/
def SlOk (e : TypeId) (H : AHeap) (v : Value) : Prop :=
  v = .slice none 0 0 ∨ ∃ b o n code, v = .slice (some ⟨b, o, none⟩) n code ∧ n ≤ code / 2 ∧ (code % 2 = 0 ∨ rowOf e (H.f b) = true) ∧ b < H.n

def RdS (E : Enc α) (e : TypeId) (H : AHeap) (v : Value) (l : List α) : Prop := Rd E H v l ∧ SlOk e H v

theorem SlOk.keep {S : Nat → Prop} {v : Value} (r : SlOk e H v) (h : Fr S H H') (hs : Off S v) : SlOk e H' v := by
  rcases r with r | ⟨b, o, n, code, rfl, h1, h2, h3⟩
  · exact .inl r
  · refine .inr ⟨b, o, n, code, rfl, h1, ?_, Nat.lt_of_lt_of_le h3 h.n⟩
    rw [h.f h3 (hs b rfl)]
    exact h2
theorem RdS.keep {S : Nat → Prop} {v : Value} {l : List α} (r : RdS E e H v l) (h : Fr S H H') (hs : Off S v) : RdS E e H' v l := ⟨r.1.keep h hs, r.2.keep h hs⟩
theorem RdS.still {v : Value} {l : List α} (r : RdS E e H v l) (h : Still H H') : RdS E e H' v l := r.keep h fun _ _ h => h
theorem Own.sl {v : Value} {l : List α} (r : Own E H e v l) : RdS E e H v l := by
  refine ⟨r.rd, ?_⟩
  rcases r with ⟨_, rfl⟩ | ⟨hl, ⟨b, o, s⟩, rfl, hs, hb⟩ | ⟨b, o, c, xs, rfl, hl, hb, hf, ho, hx⟩
  · exact .inl rfl
  · simp only at hs
    subst hs
    exact .inr ⟨b, o, 0, 0, rfl, Nat.le_refl _, .inl rfl, hb⟩
  · exact .inr ⟨b, o, _, _, rfl, by omega, .inr (by rw [hf]; simp [rowOf]), hb⟩
theorem RdS.one {v : Value} {l : List α} (r : RdS E e H v l) : Eng.one v = true := by
  obtain ⟨a, c, rfl⟩ := r.1.shape; rfl
theorem RdS.nil : RdS E e H (.slice none 0 0) [] := ⟨.inl ⟨rfl, rfl⟩, .inl rfl⟩

/-- A part of it. -/
theorem RdS.part {v : Value} {l : List α} (r : RdS E e H v l) {sz : Nat} (hsz : sz = E.w) {i j : Nat} (hi : i ≤ j) (hj : j ≤ l.length) (lo hi' : Option Value) (hlo : lowOf j lo = some i) (hhi : ∀ y, l.length ≤ y → highOf y l.length hi' = some j) :
    ∃ v', slS e sz v lo hi' none H = some v' ∧ RdS E e H v' ((l.drop i).take (j - i)) ∧ (blockOf v' = blockOf v) := by
  subst hsz
  obtain ⟨r, k⟩ := r
  rcases k with rfl | ⟨b, o, n, code, rfl, hn, hcode, hb⟩
  · obtain ⟨a, c, hs⟩ := r.shape
    have h0 : l.length = 0 := by injection hs with _ h _; exact h.symm
    have hl : l = [] := List.length_eq_zero_iff.1 h0
    subst hl
    have hj0 : j = 0 := by simpa using hj
    have hi0 : i = 0 := by omega
    subst hj0; subst hi0
    refine ⟨.slice none 0 0, ?_, ⟨.inl ⟨by simp, rfl⟩, .inl rfl⟩, rfl⟩
    have hh := hhi 0 (by simp)
    simp only [List.length_nil] at hh
    simp only [slS, hh, Option.bind_some, hlo, Option.map_some]
  · obtain ⟨a, c, hs⟩ := r.shape
    have hnl : n = l.length := by injection hs
    subst hnl
    have hh := hhi (code / 2) hn
    have hjc : j ≤ code / 2 := by omega
    have hblk : ∀ (x : Nat), SlOk e H (.slice (some ⟨b, x, none⟩) (j - i) (2 * (code / 2 - i) + code % 2)) := fun x => by
      refine .inr ⟨b, x, _, _, rfl, ?_, ?_, hb⟩
      · have : code % 2 < 2 := Nat.mod_lt _ (by omega)
        omega
      · rcases hcode with h | h
        · left; omega
        · exact .inr h
    have hrd : j - i ≠ 0 → Rd E H (.slice (some ⟨b, o + i * E.w, none⟩) (j - i) (2 * (code / 2 - i) + code % 2)) ((l.drop i).take (j - i)) := fun h0 => by
      have hlen : ((l.drop i).take (j - i)).length = j - i := by simp; omega
      rcases r with ⟨h, _⟩ | ⟨h, _⟩ | ⟨b', o', c', hv, hl, hb', hc⟩
      · subst h; simp at hj; omega
      · subst h; simp at hj; omega
      · cases hv
        refine .inr (.inr ⟨b, o + i * E.w, _, by rw [hlen], fun h => by rw [h] at hlen; simp at hlen; omega, hb, ?_⟩)
        rw [hlen, cutB_sub hc (i := i * E.w) (m := (j - i) * E.w) (by rw [← Nat.add_mul]; exact Nat.mul_le_mul_right _ (by omega)), E.cells_drop, E.cells_take]
    by_cases hz : j - i = 0
    · have hnil : (l.drop i).take (j - i) = [] := by rw [hz]; simp
      rw [hnil]
      rcases Nat.mod_two_eq_zero_or_one code with hm | hm
      · refine ⟨.slice (some ⟨b, if code / 2 = i then o else o + i * E.w, none⟩) (j - i) (2 * (code / 2 - i)), ?_, ⟨.inr (.inl ⟨rfl, _, _, by rw [hz], rfl⟩), ?_⟩, rfl⟩
        · simp only [slS, hh, Option.bind_some, hlo, hjc, if_true, hm]
        · have := hblk (if code / 2 = i then o else o + i * E.w)
          rwa [hm, Nat.add_zero] at this
      · have hrow : rowOf e (H.f b) = true := hcode.elim (fun h => by omega) id
        refine ⟨.slice (some ⟨b, o + i * E.w, none⟩) (j - i) (2 * (code / 2 - i) + 1), ?_, ⟨.inr (.inl ⟨rfl, _, _, by rw [hz], rfl⟩), ?_⟩, rfl⟩
        · simp only [slS, hh, Option.bind_some, hlo, hjc, if_true, hm, Nat.one_ne_zero, if_false, hrow]
        · have := hblk (o + i * E.w)
          rwa [hm] at this
    · rcases Nat.mod_two_eq_zero_or_one code with hm | hm
      · refine ⟨.slice (some ⟨b, o + i * E.w, none⟩) (j - i) (2 * (code / 2 - i)), ?_, ⟨?_, ?_⟩, rfl⟩
        · simp only [slS, hh, Option.bind_some, hlo, hjc, if_true, hm, show ¬ code / 2 = i by omega, if_false]
        · have := hrd hz
          rwa [hm, Nat.add_zero] at this
        · have := hblk (o + i * E.w)
          rwa [hm, Nat.add_zero] at this
      · have hrow : rowOf e (H.f b) = true := hcode.elim (fun h => by omega) id
        refine ⟨.slice (some ⟨b, o + i * E.w, none⟩) (j - i) (2 * (code / 2 - i) + 1), ?_, ⟨?_, ?_⟩, rfl⟩
        · simp only [slS, hh, Option.bind_some, hlo, hjc, if_true, hm, Nat.one_ne_zero, if_false, hrow]
        · have := hrd hz
          rwa [hm] at this
        · have := hblk (o + i * E.w)
          rwa [hm] at this

theorem low_nat {j i : Nat} {q : IntKind} (h : i ≤ j) : lowOf j (some (.int q (i : Int))) = some i := bnd_nat (q := q) h
theorem high_nat {y n j : Nat} {q : IntKind} (h : j ≤ y) : highOf y n (some (.int q (j : Int))) = some j := bnd_nat (q := q) h

theorem RdS.from {v : Value} {l : List α} (r : RdS E e H v l) {sz : Nat} (hsz : sz = E.w) {i : Nat} (hi : i ≤ l.length) {q : IntKind} :
    ∃ v', slS e sz v (some (.int q (i : Int))) none none H = some v' ∧ RdS E e H v' (l.drop i) ∧ blockOf v' = blockOf v := by
  obtain ⟨v', h1, h2, h3⟩ := r.part hsz hi (Nat.le_refl _) (some (.int q (i : Int))) none (low_nat hi) (fun y _ => rfl)
  exact ⟨v', h1, by rwa [List.take_of_length_le (by simp)] at h2, h3⟩
theorem RdS.to {v : Value} {l : List α} (r : RdS E e H v l) {sz : Nat} (hsz : sz = E.w) {j : Nat} (hj : j ≤ l.length) {q : IntKind} :
    ∃ v', slS e sz v none (some (.int q (j : Int))) none H = some v' ∧ RdS E e H v' (l.take j) ∧ blockOf v' = blockOf v := by
  obtain ⟨v', h1, h2, h3⟩ := r.part hsz (Nat.zero_le j) hj none (some (.int q (j : Int))) rfl (fun y hy => high_nat (by omega))
  exact ⟨v', h1, by simpa using h2, h3⟩
theorem RdS.mid {v : Value} {l : List α} (r : RdS E e H v l) {sz : Nat} (hsz : sz = E.w) {i j : Nat} (hi : i ≤ j) (hj : j ≤ l.length) {q q' : IntKind} :
    ∃ v', slS e sz v (some (.int q (i : Int))) (some (.int q' (j : Int))) none H = some v' ∧ RdS E e H v' ((l.drop i).take (j - i)) ∧ blockOf v' = blockOf v :=
  r.part hsz hi hj _ _ (low_nat hi) (fun y hy => high_nat (by omega))

/-! ### Appending, whatever is appended -/
theorem Own.appA {v : Value} {l : List α} (r : Own E H e v l) (m : List α) {sz bytes : Nat} (hsz : sz = E.w) (hb : (l.length + m.length) * bytes ≤ 140737488355328) (hn : l.length + m.length ≤ 140737488355328)
    {src : Option (Nat × List Value)} (hsrc : src = some (m.length, E.cells m)) :
    ∃ v' H', Eng.app e sz bytes v src H = some (v', H') ∧ Own E H' e v' (l ++ m) ∧ Fr (OnlyOf v) H H' ∧ (blockOf v' = blockOf v ∨ blockOf v' = some H.n) := by
  by_cases hm : m = []
  · subst hm
    refine ⟨v, H, ?_, by simpa using r, Fr.refl H, .inl rfl⟩
    obtain ⟨a, c, rfl⟩ := r.rd.shape
    rw [hsrc]
    simp [Eng.app]
  · obtain ⟨v', H', h1, h2, h3, h4, _⟩ := r.app hm hsz hb hn hsrc
    exact ⟨v', H', h1, h2, h3, h4⟩

/-- A slice whose capacity is its length. -/
def Full (v : Value) : Prop := v = .slice none 0 0 ∨ ∃ b o n, v = .slice (some ⟨b, o, none⟩) n (2 * n)
theorem Full.app {v : Value} {l : List α} (hf : Full v) (r : Rd E H v l) {m : List α} (hm : m ≠ []) {sz bytes : Nat} (hsz : sz = E.w) (hb : (l.length + m.length) * bytes ≤ 140737488355328) (hn : l.length + m.length ≤ 140737488355328)
    {src : Option (Nat × List Value)} (hsrc : src = some (m.length, E.cells m)) :
    ∃ v' H', Eng.app e sz bytes v src H = some (v', H') ∧ Own E H' e v' (l ++ m) ∧ Still H H' ∧ blockOf v' = some H.n ∧ gr 9 v' = false := by
  subst hsz hsrc
  have hm0 : m.length ≠ 0 := fun h => hm (List.length_eq_zero_iff.1 h)
  have hbig : ¬ ((l.length + m.length) * bytes > 140737488355328 ∨ l.length + m.length > 140737488355328) := by omega
  have hone := E.cells_one m
  have hown : Own E (H.push (.cells (E.cells l ++ E.cells m) e true)) e (.slice (some ⟨H.n, 0, none⟩) (l.length + m.length) (2 * (l.length + m.length) + 1)) (l ++ m) := by
    refine .inr (.inr ⟨H.n, 0, l.length + m.length, E.cells l ++ E.cells m, by simp, by simp, by simp, push_f_eq rfl, by simp [Nat.add_mul], ?_⟩)
    simp only [List.drop_zero]
    rw [List.take_of_length_le (by simp [Nat.add_mul]), E.cells_append]
  refine ⟨_, _, ?_, hown, (Fr.refl H).push _, rfl, rfl⟩
  rcases hf with rfl | ⟨b, o, n, rfl⟩
  · obtain ⟨a, c, hs⟩ := r.shape
    have h0 : l.length = 0 := by injection hs with _ h _; exact h.symm
    have hl : l = [] := List.length_eq_zero_iff.1 h0
    subst hl
    simp only [List.length_nil, Nat.zero_add] at hbig
    simp only [Eng.app, Option.bind_some, hm0, if_false, Nat.zero_add, hbig, Nat.zero_div, Nat.le_zero_eq, hone, Bool.true_eq_false, oldOf, if_true, Nat.zero_mod, Option.map_some, List.nil_append, Enc.cells_nil, List.length_nil]
  · obtain ⟨a, c, hs⟩ := r.shape
    have hnl : n = l.length := by injection hs
    subst hnl
    have hold : oldOf E.w l.length H (some ⟨b, o, none⟩) = some (E.cells l) := by
      unfold oldOf
      split
      · rename_i h0; rw [List.length_eq_zero_iff.1 h0]; rfl
      · rename_i h0
        rcases r with ⟨h, _⟩ | ⟨h, _⟩ | ⟨b', o', c', hv, hl, hb', hc⟩
        · rw [h] at h0; simp at h0
        · rw [h] at h0; simp at h0
        · cases hv
          simp only [cut_b, hc]
    simp only [Eng.app, Option.bind_some, hm0, if_false, hbig, show 2 * l.length / 2 = l.length by omega, show ¬ l.length + m.length ≤ l.length by omega, hone, Bool.true_eq_false, hold, show 2 * l.length % 2 = 0 by omega, if_true, Option.map_some]

end Go.Proofs.Ytehnchfnhbmkdaa.Eng

/-
  A call that is reckoned with some fuel is one without fuel.
  Conditions: none. By an AI agent.
-/
set_option linter.all false
namespace Go.Proofs.Ytehnchfnhbmkdaa.Eng
open Go
theorem dLoop_body {body body' : Env → AHeap → DRes} (hb : ∀ T H r, body T H = some r → body' T H = some r) {keep : List Nat} : ∀ {m : Nat} {T : Env} {H : AHeap} {r : DExit × Env × AHeap}, dLoop body keep m T H = some r → dLoop body' keep m T H = some r
  | 0, _, _, _, h => by simp [dLoop] at h
  | m + 1, T, H, r, h => by
    rw [dLoop] at h ⊢
    cases hx : body (clr keep T) H with
    | none => rw [hx] at h; cases h
    | some x =>
      rw [hx] at h
      rw [hb _ _ _ hx]
      obtain ⟨e, T', H'⟩ := x
      cases e with
      | normal => exact dLoop_body hb h
      | exit i => exact h
      | ret => exact h

theorem code_fin {P : Program} {N m : Nat} {C : CallF} : ∀ (x : DCode) {T : Env} {H : AHeap} {r : DExit × Env × AHeap}, dCode P N C m x T H = some r → dCodeI P N C x T H = some r
  | .skip, _, _, _, h => h
  | .region id ops draw, T, H, r, h => h
  | .seq a b, T, H, r, h => by
    rw [dCode] at h
    obtain ⟨y, h1, h2⟩ := Option.bind_eq_some_iff.1 h
    rw [dCodeI, code_fin a h1]
    obtain ⟨e, T', H'⟩ := y
    cases e with
    | normal => exact code_fin b h2
    | exit j => exact h2
    | ret => exact h2
  | .cond keep q a b, T, H, r, h => by
    rw [dCode] at h
    rw [dCodeI]
    split at h
    · rename_i v hv
      obtain ⟨y, h1, h2⟩ := Option.map_eq_some_iff.1 h
      have key : (if v then dCodeI P N C a T H else dCodeI P N C b T H) = some y := by
        cases v with
        | true => simp only [if_true] at h1 ⊢; exact code_fin a h1
        | false => simp only [Bool.false_eq_true, if_false] at h1 ⊢; exact code_fin b h1
      rw [hv]
      simp only
      rw [key]
      exact congrArg some h2
    · cases h
  | .block keep id b, T, H, r, h => by
    rw [dCode] at h
    obtain ⟨y, h1, h2⟩ := Option.map_eq_some_iff.1 h
    rw [dCodeI, code_fin b h1]
    exact congrArg some h2
  | .loop keep b, T, H, r, h => by
    rw [dCode] at h
    rw [dCodeI, loopI_some]
    exact ⟨m, dLoop_body (fun T H r h => code_fin b h) h⟩
  | .exit id, _, _, _, h => h
  | .ret keep, _, _, _, h => h
  | .bad _, _, _, _, h => by simp [dCode] at h

theorem dCall_evt {P : Program} {prims : Prims} {hints : Hints} : ∀ (n : Nat), CApx (dCall P prims hints n) (dCall P prims hints)
  | 0 => fun f args H r h => by simp [dCall] at h
  | n + 1 => fun f args H r h => by
    cases hp : prims f with
    | some p =>
      simp only [dCall, hp] at h
      exact lim_some.1 (D_prim hp h)
    | none =>
      simp only [dCall, hp] at h
      obtain ⟨y, h1, rfl⟩ := Option.map_eq_some_iff.1 h
      have key : Evt (fun n => dBody P hints (dCall P prims hints n) n f args H) y := by
        unfold dBody at h1 ⊢
        cases hf : P.funcs[f]? with
        | none => rw [hf] at h1; cases h1
        | some fn =>
          rw [hf] at h1
          simp only at h1 ⊢
          cases hb : fn.body with
          | none => rw [hb] at h1; cases h1
          | some c =>
            rw [hb] at h1
            simp only at h1 ⊢
            obtain ⟨x, h2, h3⟩ := Option.bind_eq_some_iff.1 h1
            exact Evt.bind (code_apx (dCall_evt n) _ (code_fin _ h2)) (Evt.of_eq h3)
      obtain ⟨m, hm⟩ := key
      dsimp only at hm
      refine Evt.succ ⟨m, fun i hi => ?_⟩
      simp only [dCall, hp]
      rw [hm i hi]
      rfl

/-- What is reckoned with fuel is so. -/
theorem D_of {P : Program} {prims : Prims} {hints : Hints} {n : Nat} {f : FuncId} {args : List Value} {H : AHeap} {r : Value × AHeap} (h : dCall P prims hints n f args H = some r) :
    D P prims hints f args H = some r := lim_some.2 (dCall_evt n f args H r h)
/-- The same where only the value is told: a call that answers a bare value and leaves what was there. -/
theorem D_ofv {P : Program} {prims : Prims} {hints : Hints} {n : Nat} {f : FuncId} {args : List Value} {H : AHeap} {v : Value} (h : ((dCall P prims hints n f args H).map fun r => (r.1, gr 9 r.1 && still H r.2)) = some (v, true)) (hp : prims f = none) :
    D P prims hints f args H = some (v, H) := by
  cases n with
  | zero => simp [dCall] at h
  | succ n =>
    obtain ⟨r, h1, h2⟩ := Option.map_eq_some_iff.1 h
    have h0 := h1
    simp only [dCall, hp] at h1
    obtain ⟨y, h3, h4⟩ := Option.map_eq_some_iff.1 h1
    rw [D_of h0]
    obtain ⟨v1, H1⟩ := r
    simp only [Prod.mk.injEq] at h2
    obtain ⟨rfl, h2⟩ := h2
    obtain ⟨v2, H2⟩ := y
    unfold tidy at h4
    split at h4
    · simp only [Prod.mk.injEq] at h4; obtain ⟨rfl, rfl⟩ := h4; rfl
    · rename_i hn
      simp only [Prod.mk.injEq] at h4
      obtain ⟨rfl, rfl⟩ := h4
      exact absurd h2 hn

/-- A call's answer, whatever becomes of the heap. -/
theorem any_of {X : Res} {H H1 : AHeap} {v : Value} (h : X = some (tidy H (v, H1))) : ∃ H', X = some (v, H') := by
  unfold tidy at h
  split at h
  · exact ⟨_, h⟩
  · exact ⟨_, h⟩

end Go.Proofs.Ytehnchfnhbmkdaa.Eng

/-
  Chapter 48: bytes: check numbers, numbers in bytes.
  Conditions: none. By an AI agent.
-/
set_option maxRecDepth 10000
set_option linter.unusedSimpArgs false
set_option linter.unusedVariables false
namespace Go.Proofs.Ytehnchfnhbmkdaa
open Go Eng

abbrev Ok (H : AHeap) : Prop := ∀ b, H.ver b < H.clk
theorem drop_cons {α : Type} {l : List α} {i : Nat} {a : α} {x : List α} (h : l.drop i = a :: x) : ∃ h : i < l.length, l[i] = a ∧ l.drop (i + 1) = x := by
  have hlt : i < l.length := by
    rcases Nat.lt_or_ge i l.length with h1 | h1
    · exact h1
    · rw [List.drop_eq_nil_of_le h1] at h; cases h
  rw [List.drop_eq_getElem_cons hlt] at h
  exact ⟨hlt, (List.cons.inj h).1, (List.cons.inj h).2⟩

/-! ### The check number -/
def ckS (p : Int × Int) (c : UInt8) : Int × Int := ((p.1 + c.toNat) % 65521, (p.2 + (p.1 + c.toNat) % 65521) % 65521)
def ck (l : List UInt8) : Int × Int := l.foldl ckS (1, 0)
def adl (l : List UInt8) : Int := 65536 * (ck l).2 + (ck l).1
theorem ckS_lt {p : Int × Int} {c : UInt8} : 0 ≤ (ckS p c).1 ∧ (ckS p c).1 < 65521 ∧ 0 ≤ (ckS p c).2 ∧ (ckS p c).2 < 65521 := by
  unfold ckS
  simp only
  omega
theorem ck_lt : ∀ (l : List UInt8) (p : Int × Int), (0 ≤ p.1 ∧ p.1 < 65521 ∧ 0 ≤ p.2 ∧ p.2 < 65521) → 0 ≤ (l.foldl ckS p).1 ∧ (l.foldl ckS p).1 < 65521 ∧ 0 ≤ (l.foldl ckS p).2 ∧ (l.foldl ckS p).2 < 65521
  | [], _, h => h
  | c :: l, p, _ => ck_lt l (ckS p c) ckS_lt
theorem adl_lt (l : List UInt8) : 0 ≤ adl l ∧ adl l < 4294967296 := by
  have := ck_lt l (1, 0) (by simp)
  unfold adl ck
  omega

theorem l_check (l : List UInt8) (v : Value) (H : AHeap) (hr : Rd EB H v l) (hl : l.length ≤ 1000000000000) : ∀ (t : List UInt8) (i : Nat) (x y : Int), l.drop i = t → 0 ≤ x → x < 65521 → 0 ≤ y → y < 65521 → ∀ K : K,
    l_law_check_0 v (.int .i64 x) (.int .i64 y) (.int .i64 (i : Int)) H (blkK [3, 4] 0 K) = K .normal [(3, .int .i64 (t.foldl ckS (x, y)).1), (4, .int .i64 (t.foldl ckS (x, y)).2)] H
  | [], i, x, y, hx, _, _, _, _, K => by
    have h : l.length ≤ i := List.drop_eq_nil_iff.1 hx
    have hlt : ¬ (i : Int) < (l.length : Int) := by omega
    have hlen := hr.lenS
    rw [r_law_check_0]
    simp (disch := first | with_reducible rfl | assumption | omega | rfl | (simp only [go_sem]; first | done | omega)) only [go_sem, ↓reduceIte, reduceCtorEq, Nat.reduceEqDiff, Nat.reduceAdd, Nat.reduceSub, Nat.reduceMul, Nat.reduceDiv, Nat.reduceMod, Nat.reduceLeDiff, Nat.reduceLT, Nat.reduceBEq, Int.reduceEq, Int.reduceBEq, Int.reduceBNe, Int.reduceLT, Int.reduceLE, Int.reduceAdd, Int.reduceSub, Int.reduceNeg, Int.reduceToNat, Int.reducePow, Nat.reducePow, Int.reduceMul, Int.reduceDiv, ↓s_law_check_b0, hlen, hlt]
  | c :: t, i, x, y, hx, hx0, hx1, hy0, hy1, K => by
    obtain ⟨h, hxa, hx'⟩ := drop_cons hx
    have hlt : (i : Int) < (l.length : Int) := by omega
    have hlen := hr.lenS
    obtain ⟨b, o, hix, hc, _⟩ := Rd.byte hr h
    rw [hxa] at hc
    have hb := u8_lt c
    have ih := l_check l v H hr hl t (i + 1) (ckS (x, y) c).1 (ckS (x, y) c).2 hx' ckS_lt.1 ckS_lt.2.1 ckS_lt.2.2.1 ckS_lt.2.2.2 K
    rw [r_law_check_0]
    simp (disch := first | with_reducible rfl | assumption | omega | rfl | (simp only [go_sem]; first | done | omega)) only [go_sem, ↓reduceIte, reduceCtorEq, Nat.reduceEqDiff, Nat.reduceAdd, Nat.reduceSub, Nat.reduceMul, Nat.reduceDiv, Nat.reduceMod, Nat.reduceLeDiff, Nat.reduceLT, Nat.reduceBEq, Int.reduceEq, Int.reduceBEq, Int.reduceBNe, Int.reduceLT, Int.reduceLE, Int.reduceAdd, Int.reduceSub, Int.reduceNeg, Int.reduceToNat, Int.reducePow, Nat.reducePow, Int.reduceMul, Int.reduceDiv, ↓s_law_check_b0, hlen, hlt, hix, hc, x_uint8_int]
    exact ih

theorem q_check (l : List UInt8) (v : Value) (H : AHeap) (hr : Rd EB H v l) (hl : l.length ≤ 1000000000000) : CC F.law_check [v] H = some (.int .i64 (adl l), H) := by
  have hlp : ∀ K : K, l_law_check_0 v (.int .i64 1) (.int .i64 0) (.int .i64 0) H (blkK [3, 4] 0 K) = K .normal [(3, .int .i64 (l.foldl ckS (1, 0)).1), (4, .int .i64 (l.foldl ckS (1, 0)).2)] H := l_check l v H hr hl l 0 1 0 (by simp) (by decide) (by decide) (by decide) (by decide)
  have hb := ck_lt l (1, 0) (by simp)
  unfold adl
  have e : (l.foldl ckS (1, 0)) = ck l := rfl
  rw [e] at hb hlp
  apply pure_of _ (d_law_check _ H) rfl
  rotate_left 2
  · simp (disch := first | with_reducible rfl | assumption | omega | rfl | (simp only [go_sem]; first | done | omega)) only [go_sem, ↓reduceIte, reduceCtorEq, Nat.reduceEqDiff, Nat.reduceAdd, Nat.reduceSub, Nat.reduceMul, Nat.reduceDiv, Nat.reduceMod, Nat.reduceLeDiff, Nat.reduceLT, Nat.reduceBEq, Int.reduceEq, Int.reduceBEq, Int.reduceBNe, Int.reduceLT, Int.reduceLE, Int.reduceAdd, Int.reduceSub, Int.reduceNeg, Int.reduceToNat, Int.reducePow, Nat.reducePow, Int.reduceMul, Int.reduceDiv, ↓s_law_check, hlp]
    rfl
  · (repeat (first | exact Fr.refl _ | refine Fr.push ?_ _ | refine Fr.set ?_ _ _ (by intro h; first | omega | (simp only [go_sem] at h; omega))))

theorem l_Check (l : List UInt8) (v : Value) (H : AHeap) (hr : Rd EB H v l) (hl : l.length ≤ 1000000000000) : ∀ (t : List UInt8) (i : Nat) (x y : Int), l.drop i = t → 0 ≤ x → x < 65521 → 0 ≤ y → y < 65521 → ∀ K : K,
    l_backup_Check_0 (.int .u32 x) (.int .u32 y) v (.int .i64 (l.length : Int)) (.int .i64 (i : Int)) H (blkK [3, 4] 0 K) = K .normal [(3, .int .u32 (t.foldl ckS (x, y)).1), (4, .int .u32 (t.foldl ckS (x, y)).2)] H
  | [], i, x, y, hx, _, _, _, _, K => by
    have h : l.length ≤ i := List.drop_eq_nil_iff.1 hx
    have hlt : ¬ (i : Int) < (l.length : Int) := by omega
    rw [r_backup_Check_0]
    simp (disch := first | with_reducible rfl | assumption | omega | rfl | (simp only [go_sem]; first | done | omega)) only [go_sem, ↓reduceIte, reduceCtorEq, Nat.reduceEqDiff, Nat.reduceAdd, Nat.reduceSub, Nat.reduceMul, Nat.reduceDiv, Nat.reduceMod, Nat.reduceLeDiff, Nat.reduceLT, Nat.reduceBEq, Int.reduceEq, Int.reduceBEq, Int.reduceBNe, Int.reduceLT, Int.reduceLE, Int.reduceAdd, Int.reduceSub, Int.reduceNeg, Int.reduceToNat, Int.reducePow, Nat.reducePow, Int.reduceMul, Int.reduceDiv, ↓s_backup_Check_b0, hlt]
  | c :: t, i, x, y, hx, hx0, hx1, hy0, hy1, K => by
    obtain ⟨h, hxa, hx'⟩ := drop_cons hx
    have hlt : (i : Int) < (l.length : Int) := by omega
    obtain ⟨b, o, hix, hc, _⟩ := Rd.byte hr h
    rw [hxa] at hc
    have hb := u8_lt c
    have ih := l_Check l v H hr hl t (i + 1) (ckS (x, y) c).1 (ckS (x, y) c).2 hx' ckS_lt.1 ckS_lt.2.1 ckS_lt.2.2.1 ckS_lt.2.2.2 K
    rw [r_backup_Check_0]
    simp (disch := first | with_reducible rfl | assumption | omega | rfl | (simp only [go_sem]; first | done | omega)) only [go_sem, ↓reduceIte, reduceCtorEq, Nat.reduceEqDiff, Nat.reduceAdd, Nat.reduceSub, Nat.reduceMul, Nat.reduceDiv, Nat.reduceMod, Nat.reduceLeDiff, Nat.reduceLT, Nat.reduceBEq, Int.reduceEq, Int.reduceBEq, Int.reduceBNe, Int.reduceLT, Int.reduceLE, Int.reduceAdd, Int.reduceSub, Int.reduceNeg, Int.reduceToNat, Int.reducePow, Nat.reducePow, Int.reduceMul, Int.reduceDiv, ↓s_backup_Check_b0, hlt, hix, hc, x_uint8_uint32]
    exact ih

theorem q_Check (l : List UInt8) (v : Value) (H : AHeap) (hr : Rd EB H v l) (hl : l.length ≤ 1000000000000) : CC F.backup_Check [v] H = some (.int .u32 (adl l), H) := by
  have hlp : ∀ K : K, l_backup_Check_0 (.int .u32 1) (.int .u32 0) v (.int .i64 (l.length : Int)) (.int .i64 0) H (blkK [3, 4] 0 K) = K .normal [(3, .int .u32 (l.foldl ckS (1, 0)).1), (4, .int .u32 (l.foldl ckS (1, 0)).2)] H := l_Check l v H hr hl l 0 1 0 (by simp) (by decide) (by decide) (by decide) (by decide)
  have hb := ck_lt l (1, 0) (by simp)
  have hlen := hr.lenS
  have e : (l.foldl ckS (1, 0)) = ck l := rfl
  rw [e] at hb hlp
  have h1 : ∀ ox oy, xbin Try.prog .shl T.uint32 ox oy (.int .u32 (ck l).2) (.int .u64 16) = some (.int .u32 ((ck l).2 * 65536)) := fun ox oy => shl32 (by decide) hb.2.2.1 (by show _ * 65536 < _; omega)
  have h2 : ∀ ox oy, xbin Try.prog .or T.uint32 ox oy (.int .u32 ((ck l).2 * 65536)) (.int .u32 (ck l).1) = some (.int .u32 ((ck l).2 * 65536 + (ck l).1)) := fun ox oy => or32 (k := 16) hb.2.2.1 ⟨hb.1, by omega⟩ (by omega)
  have h3 : adl l = (ck l).2 * 65536 + (ck l).1 := by unfold adl; omega
  rw [h3]
  apply pure_of _ (d_backup_Check _ H) rfl
  rotate_left 2
  · simp (disch := first | with_reducible rfl | assumption | omega | rfl | (simp only [go_sem]; first | done | omega)) only [go_sem, ↓reduceIte, reduceCtorEq, Nat.reduceEqDiff, Nat.reduceAdd, Nat.reduceSub, Nat.reduceMul, Nat.reduceDiv, Nat.reduceMod, Nat.reduceLeDiff, Nat.reduceLT, Nat.reduceBEq, Int.reduceEq, Int.reduceBEq, Int.reduceBNe, Int.reduceLT, Int.reduceLE, Int.reduceAdd, Int.reduceSub, Int.reduceNeg, Int.reduceToNat, Int.reducePow, Nat.reducePow, Int.reduceMul, Int.reduceDiv, ↓s_backup_Check, hlen, hlp, h1, h2]
    rfl
  · (repeat (first | exact Fr.refl _ | refine Fr.push ?_ _ | refine Fr.set ?_ _ _ (by intro h; first | omega | (simp only [go_sem] at h; omega))))

end Go.Proofs.Ytehnchfnhbmkdaa

/-
  Chapter 48: numbers in bytes; a piece's parts.
  Conditions: none. By an AI agent.
-/
set_option maxRecDepth 10000
set_option linter.unusedSimpArgs false
set_option linter.unusedVariables false
namespace Go.Proofs.Ytehnchfnhbmkdaa
open Go Eng

def u8 (m : Int) : UInt8 := UInt8.ofNat m.toNat
theorem u8_cell {m : Int} (h : 0 ≤ m ∧ m < 256) : byteCell (u8 m) = .int .u8 m := by
  unfold byteCell u8
  have : m.toNat < 256 := by omega
  rw [UInt8.toNat_ofNat_of_lt' this]
  congr 1
  omega
theorem u8_nat {m : Int} (h : 0 ≤ m ∧ m < 256) : ((u8 m).toNat : Int) = m := by
  unfold u8
  have : m.toNat < 256 := by omega
  rw [UInt8.toNat_ofNat_of_lt' this]
  omega
theorem u8_of (c : UInt8) : u8 (c.toNat : Int) = c := by unfold u8; simp

/-- A number in k bytes, the highest one first. -/
def be : Int → Nat → List UInt8
  | _, 0 => []
  | n, k + 1 => be (n / 256) k ++ [u8 (n % 256)]
theorem be_length : ∀ (k : Nat) (n : Int), (be n k).length = k
  | 0, _ => rfl
  | k + 1, n => by simp [be, be_length k]

def numS (n : Int) (c : UInt8) : Int := n * 256 + c.toNat
def numB (l : List UInt8) : Int := l.foldl numS 0
theorem numS_lt {n p : Int} {c : UInt8} (h : 0 ≤ n ∧ n < p) : 0 ≤ numS n c ∧ numS n c < p * 256 := by
  have := u8_lt c
  unfold numS
  omega
theorem num_lt : ∀ (l : List UInt8) (n : Int) (i : Nat), (0 ≤ n ∧ n < 256 ^ i) → 0 ≤ l.foldl numS n ∧ l.foldl numS n < 256 ^ (i + l.length)
  | [], n, i, h => by simpa using h
  | c :: l, n, i, h => by
    have := num_lt l (numS n c) (i + 1) (by rw [Int.pow_succ]; exact numS_lt h)
    rwa [show i + 1 + l.length = i + (c :: l).length by simp; omega] at this
theorem numB_lt (l : List UInt8) : 0 ≤ numB l ∧ numB l < 256 ^ l.length := by
  have := num_lt l 0 0 (by simp)
  rwa [Nat.zero_add] at this
theorem pow256 {i : Nat} (h : i ≤ 3) : (256 : Int) ^ i ≤ 16777216 := by
  have : i = 0 ∨ i = 1 ∨ i = 2 ∨ i = 3 := by omega
  rcases this with rfl | rfl | rfl | rfl <;> decide

theorem l_number (l : List UInt8) (v : Value) (H : AHeap) (hr : Rd EB H v l) (hl : l.length ≤ 4) : ∀ (t : List UInt8) (i : Nat) (n : Int), l.drop i = t → 0 ≤ n → n < 256 ^ i → ∀ K : K,
    l_backup_number_0 (.int .u32 n) v (.int .i64 (l.length : Int)) (.int .i64 (i : Int)) H (blkK [3] 0 K) = K .normal [(3, .int .u32 (t.foldl numS n))] H
  | [], i, n, hx, _, _, K => by
    have h : l.length ≤ i := List.drop_eq_nil_iff.1 hx
    have hlt : ¬ (i : Int) < (l.length : Int) := by omega
    rw [r_backup_number_0]
    simp (disch := first | with_reducible rfl | assumption | omega | rfl | (simp only [go_sem]; first | done | omega)) only [go_sem, ↓reduceIte, reduceCtorEq, Nat.reduceEqDiff, Nat.reduceAdd, Nat.reduceSub, Nat.reduceMul, Nat.reduceDiv, Nat.reduceMod, Nat.reduceLeDiff, Nat.reduceLT, Nat.reduceBEq, Int.reduceEq, Int.reduceBEq, Int.reduceBNe, Int.reduceLT, Int.reduceLE, Int.reduceAdd, Int.reduceSub, Int.reduceNeg, Int.reduceToNat, Int.reducePow, Nat.reducePow, Int.reduceMul, Int.reduceDiv, ↓s_backup_number_b0, hlt]
  | c :: t, i, n, hx, h0, h1, K => by
    obtain ⟨h, hxa, hx'⟩ := drop_cons hx
    have hlt : (i : Int) < (l.length : Int) := by omega
    obtain ⟨b, o, hix, hc, _⟩ := Rd.byte hr h
    rw [hxa] at hc
    have hb := u8_lt c
    have hp := pow256 (i := i) (by omega)
    have hn := numS_lt (c := c) ⟨h0, h1⟩
    have ih := l_number l v H hr hl t (i + 1) (numS n c) hx' hn.1 (by rw [Int.pow_succ]; exact hn.2) K
    have e1 : ∀ ox oy, xbin Try.prog .shl T.uint32 ox oy (.int .u32 n) (.int .u64 8) = some (.int .u32 (n * 256)) := fun ox oy => shl32 (by decide) h0 (by show _ * 256 < _; omega)
    have e2 : ∀ ox oy, xbin Try.prog .or T.uint32 ox oy (.int .u32 (n * 256)) (.int .u32 (c.toNat : Int)) = some (.int .u32 (numS n c)) := fun ox oy => or32 (k := 8) h0 hb (by show n * 256 + _ < _; omega)
    rw [r_backup_number_0]
    simp (disch := first | with_reducible rfl | assumption | omega | rfl | (simp only [go_sem]; first | done | omega)) only [go_sem, ↓reduceIte, reduceCtorEq, Nat.reduceEqDiff, Nat.reduceAdd, Nat.reduceSub, Nat.reduceMul, Nat.reduceDiv, Nat.reduceMod, Nat.reduceLeDiff, Nat.reduceLT, Nat.reduceBEq, Int.reduceEq, Int.reduceBEq, Int.reduceBNe, Int.reduceLT, Int.reduceLE, Int.reduceAdd, Int.reduceSub, Int.reduceNeg, Int.reduceToNat, Int.reducePow, Nat.reducePow, Int.reduceMul, Int.reduceDiv, ↓s_backup_number_b0, hlt, hix, hc, x_uint8_uint32, e1, e2]
    exact ih

theorem q_number (l : List UInt8) (v : Value) (H : AHeap) (hr : Rd EB H v l) (hl : l.length ≤ 4) : CC F.backup_number [v] H = some (.int .u32 (numB l), H) := by
  have hlp : ∀ K : K, l_backup_number_0 (.int .u32 0) v (.int .i64 (l.length : Int)) (.int .i64 0) H (blkK [3] 0 K) = K .normal [(3, .int .u32 (l.foldl numS 0))] H := l_number l v H hr hl l 0 0 (by simp) (by decide) (by decide)
  have hlen := hr.lenS
  apply pure_of _ (d_backup_number _ H) rfl
  rotate_left 2
  · simp (disch := first | with_reducible rfl | assumption | omega | rfl | (simp only [go_sem]; first | done | omega)) only [go_sem, ↓reduceIte, reduceCtorEq, Nat.reduceEqDiff, Nat.reduceAdd, Nat.reduceSub, Nat.reduceMul, Nat.reduceDiv, Nat.reduceMod, Nat.reduceLeDiff, Nat.reduceLT, Nat.reduceBEq, Int.reduceEq, Int.reduceBEq, Int.reduceBNe, Int.reduceLT, Int.reduceLE, Int.reduceAdd, Int.reduceSub, Int.reduceNeg, Int.reduceToNat, Int.reducePow, Nat.reducePow, Int.reduceMul, Int.reduceDiv, ↓s_backup_number, hlen, hlp]
    rfl
  · (repeat (first | exact Fr.refl _ | refine Fr.push ?_ _ | refine Fr.set ?_ _ _ (by intro h; first | omega | (simp only [go_sem] at h; omega))))

theorem be4 (n : Int) : be n 4 = [u8 (n / 256 / 256 / 256 % 256), u8 (n / 256 / 256 % 256), u8 (n / 256 % 256), u8 (n % 256)] := by simp [be]
theorem be2 (n : Int) : be n 2 = [u8 (n / 256 % 256), u8 (n % 256)] := by simp [be]
theorem mod256 (n : Int) : 0 ≤ n % 256 ∧ n % 256 < 256 := by omega
theorem cells4 (n : Int) : EB.cells (be n 4) = [.int .u8 (n / 256 / 256 / 256 % 256), .int .u8 (n / 256 / 256 % 256), .int .u8 (n / 256 % 256), .int .u8 (n % 256)] := by
  rw [be4, EB_cells]
  simp only [List.map_cons, List.map_nil, u8_cell (mod256 _)]

/-- A new row of bytes. -/
theorem newB {H : AHeap} {l : List UInt8} {b : Nat} (hb : b < H.n) (hf : H.f b = .cells (EB.cells l) T.uint8 true) : RdS EB T.uint8 H (.slice (some ⟨b, 0, none⟩) l.length (2 * l.length)) l := by
  refine ⟨?_, .inr ⟨b, 0, _, _, rfl, by omega, .inl (by omega), hb⟩⟩
  by_cases h0 : l = []
  · subst h0; exact .inr (.inl ⟨rfl, _, _, rfl, rfl⟩)
  · refine .inr (.inr ⟨b, 0, _, rfl, h0, hb, ?_⟩)
    rw [hf, cutB_c (by simp), List.drop_zero, List.take_of_length_le (by simp)]

theorem q_four (n : Int) (H : AHeap) (h0 : 0 ≤ n) (h1 : n < 4294967296) : CC F.backup_four [.int .u32 n] H = some (.slice (some ⟨H.n, 0, none⟩) 4 8, H.push (.cells (EB.cells (be n 4)) T.uint8 true)) := by
  have e24 : ∀ ox oy, xbin Try.prog .shr T.uint32 ox oy (.int .u32 n) (.int .u64 24) = some (.int .u32 (n / 16777216)) := fun ox oy => shrP (by decide)
  have e16 : ∀ ox oy, xbin Try.prog .shr T.uint32 ox oy (.int .u32 n) (.int .u64 16) = some (.int .u32 (n / 65536)) := fun ox oy => shrP (by decide)
  have e8 : ∀ ox oy, xbin Try.prog .shr T.uint32 ox oy (.int .u32 n) (.int .u64 8) = some (.int .u32 (n / 256)) := fun ox oy => shrP (by decide)
  have d1 : n / 256 / 256 / 256 = n / 16777216 := by omega
  have d2 : n / 256 / 256 = n / 65536 := by omega
  rw [cells4, d1, d2]
  refine (d_backup_four _ H ?_).trans (congrArg some (tidy_mem rfl))
  simp (disch := first | with_reducible rfl | assumption | omega | rfl | (simp only [go_sem]; first | done | omega)) only [go_sem, ↓reduceIte, reduceCtorEq, Nat.reduceEqDiff, Nat.reduceAdd, Nat.reduceSub, Nat.reduceMul, Nat.reduceDiv, Nat.reduceMod, Nat.reduceLeDiff, Nat.reduceLT, Nat.reduceBEq, Int.reduceEq, Int.reduceBEq, Int.reduceBNe, Int.reduceLT, Int.reduceLE, Int.reduceAdd, Int.reduceSub, Int.reduceNeg, Int.reduceToNat, Int.reducePow, Nat.reducePow, Int.reduceMul, Int.reduceDiv, ↓s_backup_four, e24, e16, e8, x_uint32_uint8, wrapU8]

/-! ### many -/
theorem l_many (b k : Nat) (c : Nat) (hk : k ≤ 8) : ∀ (t : Nat) (n : Int) (H : AHeap) (xs : List Value), H.f b = .cells xs T.uint8 true → xs.length = k → t ≤ k → b < H.n → 0 ≤ n → n < 9223372036854775808 →
    ∃ H', (∀ K : K, l_law_many_0 (.int .i64 n) (.slice (some ⟨b, 0, none⟩) k c) (.int .i64 ((t : Int) - 1)) H (blkK [5] 0 K) = K .normal [(5, .slice (some ⟨b, 0, none⟩) k c)] H') ∧
      H'.f b = .cells (EB.cells (be n t) ++ xs.drop t) T.uint8 true ∧ Fr (fun x => x = b) H H' ∧ H'.n = H.n
  | 0, n, H, xs, hf, hx, ht, hb, h0, h1 => by
    have hge : ¬ (0 : Int) ≤ ((0 : Nat) : Int) - 1 := by omega
    refine ⟨H, fun K => ?_, by simpa [be] using hf, Fr.refl H, rfl⟩
    rw [r_law_many_0]
    have hge : ¬ (0 : Int) ≤ 0 - 1 := by omega
    simp (disch := first | with_reducible rfl | assumption | omega | rfl | (simp only [go_sem]; first | done | omega)) only [go_sem, ↓reduceIte, reduceCtorEq, Nat.reduceEqDiff, Nat.reduceAdd, Nat.reduceSub, Nat.reduceMul, Nat.reduceDiv, Nat.reduceMod, Nat.reduceLeDiff, Nat.reduceLT, Nat.reduceBEq, Int.reduceEq, Int.reduceBEq, Int.reduceBNe, Int.reduceLT, Int.reduceLE, Int.reduceAdd, Int.reduceSub, Int.reduceNeg, Int.reduceToNat, Int.reducePow, Nat.reducePow, Int.reduceMul, Int.reduceDiv, ↓s_law_many_b0, Int.natCast_zero, hge]
  | t + 1, n, H, xs, hf, hx, ht, hb, h0, h1 => by
    have htk : t < k := by omega
    have e1 : ((t + 1 : Nat) : Int) - 1 = (t : Int) := by omega
    have hge : (0 : Int) ≤ (t : Int) := by omega
    have hix : ixS 1 (.slice (some ⟨b, 0, none⟩) k c) (.int .i64 (t : Int)) = some (.pointer (some ⟨b, t, none⟩)) := by
      have := ixS_nat (sz := 1) (b := b) (o := 0) (code := c) (q := .i64) htk
      rwa [Nat.zero_add, Nat.mul_one] at this
    obtain ⟨H1, hH1⟩ : ∃ H1, H.set b (.cells (xs.set t (.int .u8 (n % 256))) T.uint8 true) = H1 := ⟨_, rfl⟩
    have hw : setB H b (wr1 (H.f b) t (.int .u8 (n % 256))) = some H1 := by
      rw [hf, wr1_c (by omega) rfl, setB_s, hH1]
    have f1 : H1.f b = .cells (xs.set t (.int .u8 (n % 256))) T.uint8 true := by rw [← hH1]; exact set_f_eq
    have n1 : H1.n = H.n := by rw [← hH1]; rfl
    have fr1 : Fr (fun x => x = b) H H1 := by rw [← hH1]; exact Fr.set (Fr.refl H) _ _ fun _ => rfl
    have q1 : ∀ ox oy, xbin Try.prog .quo T.int ox oy (.int .i64 n) (.int .i64 256) = some (.int .i64 (n / 256)) := fun ox oy => quoI h0 (by decide) h1
    obtain ⟨H', hl, hf', hfr, hn'⟩ := l_many b k c hk t (n / 256) H1 _ f1 (by simpa using hx) (by omega) (by omega) (by omega) (by omega)
    refine ⟨H', fun K => ?_, ?_, fr1.trans hfr, by omega⟩
    · rw [r_law_many_0, e1]
      have hm : IntKind.wrap .u8 (n % 256) = n % 256 := wrap_u8 (mod256 n)
      simp (disch := first | with_reducible rfl | assumption | omega | rfl | (simp only [go_sem]; first | done | omega)) only [go_sem, ↓reduceIte, reduceCtorEq, Nat.reduceEqDiff, Nat.reduceAdd, Nat.reduceSub, Nat.reduceMul, Nat.reduceDiv, Nat.reduceMod, Nat.reduceLeDiff, Nat.reduceLT, Nat.reduceBEq, Int.reduceEq, Int.reduceBEq, Int.reduceBNe, Int.reduceLT, Int.reduceLE, Int.reduceAdd, Int.reduceSub, Int.reduceNeg, Int.reduceToNat, Int.reducePow, Nat.reducePow, Int.reduceMul, Int.reduceDiv, ↓s_law_many_b0, hge, x_int_uint8, hm, hix, hw, q1]
      exact hl K
    · rw [hf']
      congr 1
      rw [be, Enc.cells_append, List.append_assoc]
      congr 1
      rw [EB_cells]
      simp only [List.map_cons, List.map_nil, u8_cell (mod256 n), List.singleton_append]
      rw [List.drop_eq_getElem_cons (by simp; omega), List.getElem_set_self, List.drop_set_of_lt (by omega)]

theorem q_many (n : Int) (k : Nat) (H : AHeap) (h0 : 0 ≤ n) (h1 : n < 9223372036854775808) (hk : k ≤ 8) :
    ∃ H', CC F.law_many [.int .i64 n, .int .i64 (k : Int)] H = some (.slice (some ⟨H.n, 0, none⟩) k (2 * k), H') ∧ H'.f H.n = .cells (EB.cells (be n k)) T.uint8 true ∧ Still H H' ∧ H'.n = H.n + 1 := by
  obtain ⟨H1, hH1⟩ : ∃ H1, H.push (.cells (zeros [.int .u8 0] k) T.uint8 true) = H1 := ⟨_, rfl⟩
  have f1 : H1.f H.n = .cells (zeros [.int .u8 0] k) T.uint8 true := by rw [← hH1]; exact push_f_eq rfl
  have n1 : H1.n = H.n + 1 := by rw [← hH1]; rfl
  have s1 : Still H H1 := by rw [← hH1]; exact (Fr.refl H).push _
  have hmk : mkS T.uint8 [.int .u8 0] 1 (.int .i64 (k : Int)) (.int .i64 (k : Int)) H = some (.slice (some ⟨H.n, 0, none⟩) k (2 * k), H1) := by
    unfold mkS
    simp only [Int.toNat_natCast]
    rw [if_pos ⟨by omega, by omega, by omega, by omega⟩, hH1]
  have hz : (zeros [.int .u8 0] k : List Value).length = k := by rw [zeros_length]; simp
  obtain ⟨H', hl, hf', hfr, hn'⟩ := l_many H.n k (2 * k) hk k n H1 _ f1 hz (Nat.le_refl _) (by omega) h0 h1
  refine ⟨H', ?_, ?_, s1.then hfr (fun b hb h => by omega), by omega⟩
  · refine (d_law_many _ _ H ?_).trans (congrArg some (tidy_mem (v := .slice (some ⟨H.n, 0, none⟩) k (2 * k)) (H' := H') rfl))
    simp (disch := first | with_reducible rfl | assumption | omega | rfl | (simp only [go_sem]; first | done | omega)) only [go_sem, ↓reduceIte, reduceCtorEq, Nat.reduceEqDiff, Nat.reduceAdd, Nat.reduceSub, Nat.reduceMul, Nat.reduceDiv, Nat.reduceMod, Nat.reduceLeDiff, Nat.reduceLT, Nat.reduceBEq, Int.reduceEq, Int.reduceBEq, Int.reduceBNe, Int.reduceLT, Int.reduceLE, Int.reduceAdd, Int.reduceSub, Int.reduceNeg, Int.reduceToNat, Int.reducePow, Nat.reducePow, Int.reduceMul, Int.reduceDiv, ↓s_law_many, hmk, hl]
  · rw [hf', List.drop_eq_nil_of_le (by rw [hz]; exact Nat.le_refl _), List.append_nil]

/-! ### The parts of a piece -/
def prX (p : List UInt8) : Int := numB (p.take 4)
def prI (p : List UInt8) : Int := numB ((p.drop 4).take 2)
def prN (p : List UInt8) : Int := numB ((p.drop 6).take 2)
def okP (p : List UInt8) : Bool := decide (8 ≤ p.length) && decide (prI p < prN p)
theorem pr_lt (p : List UInt8) : (0 ≤ prX p ∧ prX p < 4294967296) ∧ (0 ≤ prI p ∧ prI p < 65536) ∧ (0 ≤ prN p ∧ prN p < 65536) := by
  have key : ∀ (l : List UInt8) (k : Nat), l.length ≤ k → k ≤ 4 → 0 ≤ numB l ∧ numB l < 256 ^ k := fun l k h hk => by
    have := numB_lt l
    refine ⟨this.1, Int.lt_of_lt_of_le this.2 ?_⟩
    have h2 : 256 ^ l.length ≤ 256 ^ k := Nat.pow_le_pow_right (by decide) h
    exact_mod_cast h2
  exact ⟨key _ 4 (by simp; omega) (by decide), key _ 2 (by simp; omega) (by decide), key _ 2 (by simp; omega) (by decide)⟩

theorem q_part_short (p : List UInt8) (v : Value) (H : AHeap) (hr : Rd EB H v p) (hl : p.length < 8) :
    CC F.law_part [v] H = some (.tuple #[.int .i64 0, .int .i64 0, .int .i64 0, .string (mk []), .bool false], H) := by
  have hlen := hr.lenS
  have hlt : (p.length : Int) < 8 := by omega
  apply pure_of _ (d_law_part _ H) rfl
  rotate_left 2
  · simp (disch := first | with_reducible rfl | assumption | omega | rfl | (simp only [go_sem]; first | done | omega)) only [go_sem, ↓reduceIte, reduceCtorEq, Nat.reduceEqDiff, Nat.reduceAdd, Nat.reduceSub, Nat.reduceMul, Nat.reduceDiv, Nat.reduceMod, Nat.reduceLeDiff, Nat.reduceLT, Nat.reduceBEq, Int.reduceEq, Int.reduceBEq, Int.reduceBNe, Int.reduceLT, Int.reduceLE, Int.reduceAdd, Int.reduceSub, Int.reduceNeg, Int.reduceToNat, Int.reducePow, Nat.reducePow, Int.reduceMul, Int.reduceDiv, ↓s_law_part, hlen, hlt]
    rfl
  · (repeat (first | exact Fr.refl _ | refine Fr.push ?_ _ | refine Fr.set ?_ _ _ (by intro h; first | omega | (simp only [go_sem] at h; omega))))

theorem q_part (p : List UInt8) (v : Value) (H : AHeap) (hr : RdS EB T.uint8 H v p) (hl : 8 ≤ p.length) :
    CC F.law_part [v] H = some (.tuple #[.int .i64 (prX p), .int .i64 (prI p), .int .i64 (prN p), .string (mk (p.drop 8)), .bool (decide (prI p < prN p))], H) := by
  have hlen := hr.1.lenS
  have hlt : ¬ (p.length : Int) < 8 := by omega
  obtain ⟨b0, o0, i0, c0, _⟩ := Rd.byte hr.1 (i := 0) (by omega)
  obtain ⟨b1, o1, i1, c1, _⟩ := Rd.byte hr.1 (i := 1) (by omega)
  obtain ⟨b2, o2, i2, c2, _⟩ := Rd.byte hr.1 (i := 2) (by omega)
  obtain ⟨b3, o3, i3, c3, _⟩ := Rd.byte hr.1 (i := 3) (by omega)
  obtain ⟨b4, o4, i4, c4, _⟩ := Rd.byte hr.1 (i := 4) (by omega)
  obtain ⟨b5, o5, i5, c5, _⟩ := Rd.byte hr.1 (i := 5) (by omega)
  obtain ⟨b6, o6, i6, c6, _⟩ := Rd.byte hr.1 (i := 6) (by omega)
  obtain ⟨b7, o7, i7, c7, _⟩ := Rd.byte hr.1 (i := 7) (by omega)
  obtain ⟨v8, s8, r8, _⟩ := hr.from (sz := 1) rfl (i := 8) (q := .i64) hl
  have cv := conv_bs (P := Try.prog) (t := T.sl_uint8) (s := T.string) (e := T.uint8) Try.underlying22 Try.underlying5 Try.underlying9 r8.1
  have i0 : ixS 1 v (.int .i64 0) = some (.pointer (some ⟨b0, o0, none⟩)) := i0
  have i1 : ixS 1 v (.int .i64 1) = some (.pointer (some ⟨b1, o1, none⟩)) := i1
  have i2 : ixS 1 v (.int .i64 2) = some (.pointer (some ⟨b2, o2, none⟩)) := i2
  have i3 : ixS 1 v (.int .i64 3) = some (.pointer (some ⟨b3, o3, none⟩)) := i3
  have i4 : ixS 1 v (.int .i64 4) = some (.pointer (some ⟨b4, o4, none⟩)) := i4
  have i5 : ixS 1 v (.int .i64 5) = some (.pointer (some ⟨b5, o5, none⟩)) := i5
  have i6 : ixS 1 v (.int .i64 6) = some (.pointer (some ⟨b6, o6, none⟩)) := i6
  have i7 : ixS 1 v (.int .i64 7) = some (.pointer (some ⟨b7, o7, none⟩)) := i7
  have s8 : slS T.uint8 1 v (some (.int .i64 8)) none none H = some v8 := s8
  obtain ⟨n, hn⟩ : ∃ n, p.length = n := ⟨_, rfl⟩
  rw [hn] at hlen hlt
  clear hn
  obtain ⟨a0, a1, a2, a3, a4, a5, a6, a7, r, rfl⟩ : ∃ a0 a1 a2 a3 a4 a5 a6 a7 r, p = a0 :: a1 :: a2 :: a3 :: a4 :: a5 :: a6 :: a7 :: r := by
    match p, hl with
    | a0 :: a1 :: a2 :: a3 :: a4 :: a5 :: a6 :: a7 :: r, _ => exact ⟨a0, a1, a2, a3, a4, a5, a6, a7, r, rfl⟩
  have hx : prX (a0 :: a1 :: a2 :: a3 :: a4 :: a5 :: a6 :: a7 :: r) = (((a0.toNat : Int) * 256 + a1.toNat) * 256 + a2.toNat) * 256 + a3.toNat := by simp [prX, numB, numS]
  have hi : prI (a0 :: a1 :: a2 :: a3 :: a4 :: a5 :: a6 :: a7 :: r) = (a4.toNat : Int) * 256 + a5.toNat := by simp [prI, numB, numS]
  have hn : prN (a0 :: a1 :: a2 :: a3 :: a4 :: a5 :: a6 :: a7 :: r) = (a6.toNat : Int) * 256 + a7.toNat := by simp [prN, numB, numS]
  rw [hx, hi, hn]
  simp only [List.getElem_cons_zero, List.getElem_cons_succ] at c0 c1 c2 c3 c4 c5 c6 c7
  have b0' := u8_lt a0
  have b1' := u8_lt a1
  have b2' := u8_lt a2
  have b3' := u8_lt a3
  have b4' := u8_lt a4
  have b5' := u8_lt a5
  have b6' := u8_lt a6
  have b7' := u8_lt a7
  apply pure_of _ (d_law_part _ H) rfl
  rotate_left 2
  · simp (disch := first | with_reducible rfl | assumption | omega | rfl | (simp only [go_sem]; first | done | omega)) only [go_sem, ↓reduceIte, reduceCtorEq, Nat.reduceEqDiff, Nat.reduceAdd, Nat.reduceSub, Nat.reduceMul, Nat.reduceDiv, Nat.reduceMod, Nat.reduceLeDiff, Nat.reduceLT, Nat.reduceBEq, Int.reduceEq, Int.reduceBEq, Int.reduceBNe, Int.reduceLT, Int.reduceLE, Int.reduceAdd, Int.reduceSub, Int.reduceNeg, Int.reduceToNat, Int.reducePow, Nat.reducePow, Int.reduceMul, Int.reduceDiv, ↓s_law_part, hlen, hlt, i0, i1, i2, i3, i4, i5, i6, i7, c0, c1, c2, c3, c4, c5, c6, c7, x_uint8_int, s8, cv]
    rfl
  · (repeat (first | exact Fr.refl _ | refine Fr.push ?_ _ | refine Fr.set ?_ _ _ (by intro h; first | omega | (simp only [go_sem] at h; omega))))

end Go.Proofs.Ytehnchfnhbmkdaa

/-
  Chapter 48: lists of bytes that lie one by one; comparing them; the law's own pieces.
  Conditions: none. By an AI agent.
-/
set_option maxRecDepth 10000
set_option linter.unusedSimpArgs false
set_option linter.unusedVariables false
namespace Go.Proofs.Ytehnchfnhbmkdaa
open Go Eng

theorem k_known (H : AHeap) : CC F.law_known [] H = some (.bool true, H) := D_prim (show prims1 F.law_known = some trueP by kernel_rfl) rfl
@[go_sem, go_sem ↓] theorem e_known {H : AHeap} {k : Value → AHeap → Res} : enterK CC F.law_known [] H k = k (.bool true) H := enterK_eq (k_known H)

/-- A slice as an element. -/
structure Sl where
  a : Option Addr
  n : Nat
  c : Nat
def Sl.v (s : Sl) : Value := .slice s.a s.n s.c
def ESl : Enc Sl := ⟨1, fun s => [s.v], fun _ => rfl, by decide, fun _ => rfl⟩

abbrev BR (H : AHeap) (v : Value) (l : List UInt8) : Prop := RdS EB T.uint8 H v l

/-- The elements read as lists of bytes. -/
def Els (H : AHeap) : List Sl → List (List UInt8) → Prop
  | [], [] => True
  | s :: sl, l :: ls => BR H s.v l ∧ Els H sl ls
  | _, _ => False
theorem Els.keep {S : Nat → Prop} {H H' : AHeap} (h : Fr S H H') : ∀ {sl : List Sl} {ls : List (List UInt8)}, Els H sl ls → (∀ s ∈ sl, Off S s.v) → Els H' sl ls
  | [], [], _, _ => trivial
  | s :: sl, l :: ls, e, ho => ⟨e.1.keep h (ho s (by simp)), Els.keep h e.2 fun x hx => ho x (by simp [hx])⟩
  | [], _ :: _, e, _ => e
  | _ :: _, [], e, _ => e
theorem Els.still {H H' : AHeap} (h : Still H H') {sl : List Sl} {ls : List (List UInt8)} (e : Els H sl ls) : Els H' sl ls := e.keep h fun _ _ _ _ h => h
theorem Els.len {H : AHeap} : ∀ {sl : List Sl} {ls : List (List UInt8)}, Els H sl ls → sl.length = ls.length
  | [], [], _ => rfl
  | _ :: _, _ :: _, e => by simp [Els.len e.2]
  | [], _ :: _, e => e.elim
  | _ :: _, [], e => e.elim
theorem Els.at {H : AHeap} : ∀ {sl : List Sl} {ls : List (List UInt8)}, Els H sl ls → ∀ {i : Nat} (h : i < sl.length) (h' : i < ls.length), BR H sl[i].v ls[i]
  | s :: sl, l :: ls, e, 0, _, _ => e.1
  | s :: sl, l :: ls, e, i + 1, h, h' => Els.at e.2 (by simpa using h) (by simpa using h')
  | [], _, _, _, h, _ => by simp at h
  | _ :: _, [], e, _, _, _ => e.elim
theorem Els.app {H : AHeap} : ∀ {sl sm : List Sl} {ls ms : List (List UInt8)}, Els H sl ls → Els H sm ms → Els H (sl ++ sm) (ls ++ ms)
  | [], _, [], _, _, e => e
  | _ :: _, _, _ :: _, _, e, e' => ⟨e.1, Els.app e.2 e'⟩
  | [], _, _ :: _, _, e, _ => e.elim
  | _ :: _, _, [], _, e, _ => e.elim
theorem Els.blk {H : AHeap} : ∀ {sl : List Sl} {ls : List (List UInt8)}, Els H sl ls → ∀ s ∈ sl, ∀ b, blockOf s.v = some b → b < H.n
  | s :: sl, l :: ls, e, x, hx, b, hb => by
    rcases List.mem_cons.1 hx with rfl | hx
    · rcases e.1.2 with h | ⟨b', o, n, code, h, _, _, h3⟩
      · rw [h] at hb; cases hb
      · rw [h] at hb; cases hb; exact h3
    · exact Els.blk e.2 x hx b hb
  | [], _, _, _, hx, _, _ => by simp at hx
  | _ :: _, [], e, _, _, _, _ => e.elim

/-- A slice of slices that reads as a list of lists of bytes. -/
def Rds (H : AHeap) (v : Value) (ls : List (List UInt8)) : Prop := ∃ sl : List Sl, RdS ESl T.sl_uint8 H v sl ∧ Els H sl ls
theorem Rds.still {H H' : AHeap} {v : Value} {ls : List (List UInt8)} (r : Rds H v ls) (h : Still H H') : Rds H' v ls := let ⟨sl, h1, h2⟩ := r; ⟨sl, h1.still h, h2.still h⟩
theorem Rds.lenS {H : AHeap} {v : Value} {ls : List (List UInt8)} (r : Rds H v ls) : lenS v = some (.int .i64 (ls.length : Int)) := by
  obtain ⟨sl, h1, h2⟩ := r
  rw [← h2.len]; exact h1.1.lenS
theorem Rds.at {H : AHeap} {v : Value} {ls : List (List UInt8)} (r : Rds H v ls) {i : Nat} (hi : i < ls.length) :
    ∃ b o x, ixS 1 v (.int .i64 (i : Int)) = some (.pointer (some ⟨b, o, none⟩)) ∧ cellB (H.f b) o = some x ∧ BR H x ls[i] ∧ b < H.n ∧ blockOf v = some b := by
  obtain ⟨sl, h1, h2⟩ := r
  have hi' : i < sl.length := by rw [h2.len]; exact hi
  obtain ⟨b, o, k1, k2, k3, k4⟩ := h1.1.ix (q := .i64) hi'
  exact ⟨b, o, sl[i].v, k1, cutB_cell k3 (i := 0) (by decide), h2.at hi' hi, k2, k4⟩

/-- string(b). -/
theorem BR.str {H : AHeap} {v : Value} {l : List UInt8} (r : BR H v l) : xconv Try.prog T.sl_uint8 T.string v H = some (.string (mk l), H) :=
  conv_bs (P := Try.prog) (t := T.sl_uint8) (s := T.string) (e := T.uint8) Try.underlying22 Try.underlying5 Try.underlying9 r.1

/-! ### same -/
theorem l_same (la lb : List (List UInt8)) (a b : Value) (H : AHeap) (ra : Rds H a la) (rb : Rds H b lb) (hl : la.length = lb.length) (hb : la.length ≤ 1000000000000) : ∀ (t : List (List UInt8)) (i : Nat), la.drop i = t →
    (t = lb.drop i → ∀ K : K, l_law_same_0 a b (.int .i64 (i : Int)) H (blkK [] 0 K) = K .normal [] H) ∧
    (t ≠ lb.drop i → ∀ K : K, l_law_same_0 a b (.int .i64 (i : Int)) H (blkK [] 0 K) = K .ret [(4, .bool false)] H)
  | [], i, hx => by
    have h : la.length ≤ i := List.drop_eq_nil_iff.1 hx
    have hlt : ¬ (i : Int) < (la.length : Int) := by omega
    have hlen := ra.lenS
    refine ⟨fun _ K => by rw [r_law_same_0]; simp (disch := first | with_reducible rfl | assumption | omega | rfl | (simp only [go_sem]; first | done | omega)) only [go_sem, ↓reduceIte, reduceCtorEq, Nat.reduceEqDiff, Nat.reduceAdd, Nat.reduceSub, Nat.reduceMul, Nat.reduceDiv, Nat.reduceMod, Nat.reduceLeDiff, Nat.reduceLT, Nat.reduceBEq, Int.reduceEq, Int.reduceBEq, Int.reduceBNe, Int.reduceLT, Int.reduceLE, Int.reduceAdd, Int.reduceSub, Int.reduceNeg, Int.reduceToNat, Int.reducePow, Nat.reducePow, Int.reduceMul, Int.reduceDiv, ↓s_law_same_b0, hlen, hlt], fun h2 => absurd (List.drop_eq_nil_of_le (by omega)).symm h2⟩
  | x :: t, i, hx => by
    obtain ⟨h, hxa, hx'⟩ := drop_cons hx
    have hlt : (i : Int) < (la.length : Int) := by omega
    have hlen := ra.lenS
    have h' : i < lb.length := by omega
    obtain ⟨b1, o1, y1, i1, c1, r1, _⟩ := ra.at h
    obtain ⟨b2, o2, y2, i2, c2, r2, _⟩ := rb.at h'
    have s1 := r1.str
    have s2 := r2.str
    obtain ⟨k1, k2⟩ := l_same la lb a b H ra rb hl hb t (i + 1) hx'
    rw [hxa] at s1
    rw [List.drop_eq_getElem_cons h']
    by_cases he : x = lb[i]
    · rw [he] at s1
      refine ⟨fun h2 K => ?_, fun h2 K => ?_⟩
      · have hT := k1 (List.cons.inj h2).2 K
        rw [r_law_same_0]
        simp (disch := first | with_reducible rfl | assumption | omega | rfl | (simp only [go_sem]; first | done | omega)) only [go_sem, ↓reduceIte, reduceCtorEq, Nat.reduceEqDiff, Nat.reduceAdd, Nat.reduceSub, Nat.reduceMul, Nat.reduceDiv, Nat.reduceMod, Nat.reduceLeDiff, Nat.reduceLT, Nat.reduceBEq, Int.reduceEq, Int.reduceBEq, Int.reduceBNe, Int.reduceLT, Int.reduceLE, Int.reduceAdd, Int.reduceSub, Int.reduceNeg, Int.reduceToNat, Int.reducePow, Nat.reducePow, Int.reduceMul, Int.reduceDiv, ↓s_law_same_b0, hlen, hlt, i1, c1, s1, i2, c2, s2, bl_mk]
        exact hT
      · have := k2 (fun h3 => h2 (by rw [he, h3])) K
        rw [r_law_same_0]
        simp (disch := first | with_reducible rfl | assumption | omega | rfl | (simp only [go_sem]; first | done | omega)) only [go_sem, ↓reduceIte, reduceCtorEq, Nat.reduceEqDiff, Nat.reduceAdd, Nat.reduceSub, Nat.reduceMul, Nat.reduceDiv, Nat.reduceMod, Nat.reduceLeDiff, Nat.reduceLT, Nat.reduceBEq, Int.reduceEq, Int.reduceBEq, Int.reduceBNe, Int.reduceLT, Int.reduceLE, Int.reduceAdd, Int.reduceSub, Int.reduceNeg, Int.reduceToNat, Int.reducePow, Nat.reducePow, Int.reduceMul, Int.reduceDiv, ↓s_law_same_b0, hlen, hlt, i1, c1, s1, i2, c2, s2, bl_mk]
        exact this
    · refine ⟨fun h2 => absurd (List.cons.inj h2).1 he, fun _ K => ?_⟩
      rw [r_law_same_0]
      simp (disch := first | with_reducible rfl | assumption | omega | rfl | (simp only [go_sem]; first | done | omega)) only [go_sem, ↓reduceIte, reduceCtorEq, Nat.reduceEqDiff, Nat.reduceAdd, Nat.reduceSub, Nat.reduceMul, Nat.reduceDiv, Nat.reduceMod, Nat.reduceLeDiff, Nat.reduceLT, Nat.reduceBEq, Int.reduceEq, Int.reduceBEq, Int.reduceBNe, Int.reduceLT, Int.reduceLE, Int.reduceAdd, Int.reduceSub, Int.reduceNeg, Int.reduceToNat, Int.reducePow, Nat.reducePow, Int.reduceMul, Int.reduceDiv, ↓s_law_same_b0, hlen, hlt, i1, c1, s1, i2, c2, s2, bl_mk, he]

theorem q_same (la lb : List (List UInt8)) (a b : Value) (H : AHeap) (ra : Rds H a la) (rb : Rds H b lb) (hb : la.length ≤ 1000000000000) : CC F.law_same [a, b] H = some (.bool (decide (la = lb)), H) := by
  have hl1 := ra.lenS
  have hl2 := rb.lenS
  by_cases hl : la.length = lb.length
  · have hne : (la.length : Int) = (lb.length : Int) := by omega
    obtain ⟨k1, k2⟩ := l_same la lb a b H ra rb hl hb la 0 (by simp)
    rw [List.drop_zero] at k1 k2
    by_cases he : la = lb
    · rw [decide_eq_true he]
      have k1 : ∀ K : K, l_law_same_0 a b (.int .i64 0) H (blkK [] 0 K) = K .normal [] H := k1 he
      apply pure_of _ (d_law_same _ _ H) rfl
      rotate_left 2
      · simp (disch := first | with_reducible rfl | assumption | omega | rfl | (simp only [go_sem]; first | done | omega)) only [go_sem, ↓reduceIte, reduceCtorEq, Nat.reduceEqDiff, Nat.reduceAdd, Nat.reduceSub, Nat.reduceMul, Nat.reduceDiv, Nat.reduceMod, Nat.reduceLeDiff, Nat.reduceLT, Nat.reduceBEq, Int.reduceEq, Int.reduceBEq, Int.reduceBNe, Int.reduceLT, Int.reduceLE, Int.reduceAdd, Int.reduceSub, Int.reduceNeg, Int.reduceToNat, Int.reducePow, Nat.reducePow, Int.reduceMul, Int.reduceDiv, ↓s_law_same, hl1, hl2, hne, k1]
        rfl
      · (repeat (first | exact Fr.refl _ | refine Fr.push ?_ _ | refine Fr.set ?_ _ _ (by intro h; first | omega | (simp only [go_sem] at h; omega))))
    · rw [decide_eq_false he]
      have k2 : ∀ K : K, l_law_same_0 a b (.int .i64 0) H (blkK [] 0 K) = K .ret [(4, .bool false)] H := k2 he
      apply pure_of _ (d_law_same _ _ H) rfl
      rotate_left 2
      · simp (disch := first | with_reducible rfl | assumption | omega | rfl | (simp only [go_sem]; first | done | omega)) only [go_sem, ↓reduceIte, reduceCtorEq, Nat.reduceEqDiff, Nat.reduceAdd, Nat.reduceSub, Nat.reduceMul, Nat.reduceDiv, Nat.reduceMod, Nat.reduceLeDiff, Nat.reduceLT, Nat.reduceBEq, Int.reduceEq, Int.reduceBEq, Int.reduceBNe, Int.reduceLT, Int.reduceLE, Int.reduceAdd, Int.reduceSub, Int.reduceNeg, Int.reduceToNat, Int.reducePow, Nat.reducePow, Int.reduceMul, Int.reduceDiv, ↓s_law_same, hl1, hl2, hne, k2]
        rfl
      · (repeat (first | exact Fr.refl _ | refine Fr.push ?_ _ | refine Fr.set ?_ _ _ (by intro h; first | omega | (simp only [go_sem] at h; omega))))
  · have hne : ¬ (la.length : Int) = (lb.length : Int) := by omega
    have he : ¬ la = lb := fun h => hl (by rw [h])
    rw [decide_eq_false he]
    apply pure_of _ (d_law_same _ _ H) rfl
    rotate_left 2
    · simp (disch := first | with_reducible rfl | assumption | omega | rfl | (simp only [go_sem]; first | done | omega)) only [go_sem, ↓reduceIte, reduceCtorEq, Nat.reduceEqDiff, Nat.reduceAdd, Nat.reduceSub, Nat.reduceMul, Nat.reduceDiv, Nat.reduceMod, Nat.reduceLeDiff, Nat.reduceLT, Nat.reduceBEq, Int.reduceEq, Int.reduceBEq, Int.reduceBNe, Int.reduceLT, Int.reduceLE, Int.reduceAdd, Int.reduceSub, Int.reduceNeg, Int.reduceToNat, Int.reducePow, Nat.reducePow, Int.reduceMul, Int.reduceDiv, ↓s_law_same, hl1, hl2, hne]
      rfl
    · (repeat (first | exact Fr.refl _ | refine Fr.push ?_ _ | refine Fr.set ?_ _ _ (by intro h; first | omega | (simp only [go_sem] at h; omega))))

end Go.Proofs.Ytehnchfnhbmkdaa

/-
  Chapter 48: rows of slices that grow; the law's own pieces.
  Conditions: none. By an AI agent.
-/
set_option maxRecDepth 10000
set_option linter.unusedSimpArgs false
set_option linter.unusedVariables false
namespace Go.Proofs.Ytehnchfnhbmkdaa
open Go Eng

/-- A row of slices of its own; no element lies in the row's own block. -/
def OwnS (H : AHeap) (v : Value) (ls : List (List UInt8)) : Prop :=
  ∃ sl : List Sl, Own ESl H T.sl_uint8 v sl ∧ Els H sl ls ∧ ∀ s ∈ sl, Off (OnlyOf v) s.v
theorem OwnS.rds {H : AHeap} {v : Value} {ls : List (List UInt8)} (r : OwnS H v ls) : Rds H v ls := let ⟨sl, h1, h2, _⟩ := r; ⟨sl, h1.sl, h2⟩
theorem OwnS.nil {H : AHeap} : OwnS H (.slice none 0 0) [] := ⟨[], .inl ⟨rfl, rfl⟩, trivial, fun _ h => by simp at h⟩
theorem OwnS.still {H H' : AHeap} {v : Value} {ls : List (List UInt8)} (r : OwnS H v ls) (h : Still H H') : OwnS H' v ls := let ⟨sl, h1, h2, h3⟩ := r; ⟨sl, h1.still h, h2.still h, h3⟩
theorem OwnS.len {H : AHeap} {v : Value} {ls : List (List UInt8)} (r : OwnS H v ls) : Eng.lenS v = some (.int .i64 (ls.length : Int)) := r.rds.lenS

theorem BR.shape {H : AHeap} {v : Value} {l : List UInt8} (r : BR H v l) : ∃ s : Sl, v = s.v := by
  obtain ⟨a, c, rfl⟩ := r.1.shape
  exact ⟨⟨a, _, c⟩, rfl⟩

/-- One more element. -/
theorem OwnS.app {H : AHeap} {v x : Value} {ls : List (List UInt8)} {l : List UInt8} (r : OwnS H v ls) (rx : BR H x l) (hx : Off (OnlyOf v) x) (hn : ls.length ≤ 1000000000) :
    ∃ v' H', Eng.app T.sl_uint8 1 24 v (srcS 1 (.slice (some ⟨H.n, 0, none⟩) 1 2) (H.push (.cells [x] T.sl_uint8 true))) (H.push (.cells [x] T.sl_uint8 true)) = some (v', H') ∧ OwnS H' v' (ls ++ [l]) ∧ Fr (OnlyOf v) H H' ∧
      (blockOf v' = blockOf v ∨ ∃ b, blockOf v' = some b ∧ H.n ≤ b) := by
  obtain ⟨sl, h1, h2, h3⟩ := r
  obtain ⟨s, rfl⟩ := rx.shape
  obtain ⟨H1, hH1⟩ : ∃ H1, H.push (.cells [s.v] T.sl_uint8 true) = H1 := ⟨_, rfl⟩
  have s1 : Still H H1 := by rw [← hH1]; exact (Fr.refl H).push _
  have n1 : H1.n = H.n + 1 := by rw [← hH1]; rfl
  have f1 : H1.f H.n = .cells [s.v] T.sl_uint8 true := by rw [← hH1]; exact push_f_eq rfl
  have hrd : Rd ESl H1 (.slice (some ⟨H.n, 0, none⟩) 1 2) [s] := .inr (.inr ⟨H.n, 0, 2, rfl, by simp, by omega, by rw [f1]; rfl⟩)
  have hll : sl.length = ls.length := h2.len
  obtain ⟨v', H', e1, e2, e3, e4⟩ := (h1.still s1).appA [s] (sz := 1) (bytes := 24) rfl (by simp; omega) (by simp; omega) (hrd.src (sz := 1) rfl)
  have hfr : Fr (OnlyOf v) H H' := s1.still.then e3 fun b hb h => h
  have hblk' : blockOf v' = blockOf v ∨ ∃ b, blockOf v' = some b ∧ H.n ≤ b := e4.imp id fun h => ⟨_, h, by omega⟩
  refine ⟨v', H', by rw [hH1]; exact e1, ⟨sl ++ [s], e2, ?_, ?_⟩, hfr, hblk'⟩
  · exact Els.app (h2.keep hfr h3) ⟨rx.keep hfr hx, trivial⟩
  · intro y hy b hb h
    have hyb : b < H.n ∧ Off (OnlyOf v) y.v := by
      rcases List.mem_append.1 hy with hy | hy
      · exact ⟨h2.blk y hy b hb, h3 y hy⟩
      · simp at hy; subst hy
        refine ⟨?_, hx⟩
        have e : Els H [y] [l] := ⟨rx, trivial⟩
        exact e.blk y (by simp) b hb
    unfold OnlyOf at h
    rcases hblk' with h4 | ⟨b', h4, h5⟩
    · exact hyb.2 b hb (by unfold OnlyOf; rw [← h4]; exact h)
    · rw [h4] at h; cases h; omega

/-! ### Pieces -/
def nP (l : List UInt8) (size : Nat) : Nat := max 1 ((l.length + size - 1) / size)
def chunkL (l : List UInt8) (size i : Nat) : List UInt8 := (l.drop (i * size)).take size
def pieceL (l : List UInt8) (size n i : Nat) : List UInt8 := be (adl l) 4 ++ be i 2 ++ be n 2 ++ chunkL l size i
def pcsTo (l : List UInt8) (size n : Nat) : Nat → List (List UInt8)
  | 0 => []
  | i + 1 => pcsTo l size n i ++ [pieceL l size n i]
def pcsL (l : List UInt8) (size : Nat) : List (List UInt8) := pcsTo l size (nP l size) (nP l size)
theorem pcsTo_length (l : List UInt8) (size n : Nat) : ∀ i, (pcsTo l size n i).length = i
  | 0 => rfl
  | i + 1 => by simp [pcsTo, pcsTo_length l size n i]
theorem pcsL_length (l : List UInt8) (size : Nat) : (pcsL l size).length = nP l size := pcsTo_length _ _ _ _

/-- What a row reads as, whatever its capacity. -/
theorem Full.of {b n : Nat} : Full (.slice (some ⟨b, 0, none⟩) n (2 * n)) := .inr ⟨b, 0, n, rfl⟩
theorem nP_bound {l : List UInt8} {size i : Nat} (hs : 1 ≤ size) (hi : i < nP l size) : i * size ≤ l.length := by
  unfold nP at hi
  by_cases h0 : i = 0
  · subst h0; omega
  · have h1 : i < (l.length + size - 1) / size := by omega
    have h2 := (Nat.le_div_iff_mul_le (by omega : 0 < size)).1 h1
    rw [Nat.succ_mul] at h2
    omega

theorem r_pieces (l : List UInt8) (size : Nat) (v : Value) (H : AHeap) (hr : BR H v l) (hl : l.length ≤ 1000000000) (hs : 1 ≤ size) (hs2 : size ≤ 65536) (n i : Nat) (hn : n ≤ 65536) (hin : i < n) (hi2 : i * size ≤ l.length) (out : Value) (ro : OwnS H out (pcsTo l size n i)) :
    ∃ out' H', (∀ K : K, l_law_pieces_0 v (.int .i64 (size : Int)) (.int .i64 (n : Int)) out (.int .i64 (i : Int)) H (blkK [6] 0 K) = l_law_pieces_0 v (.int .i64 (size : Int)) (.int .i64 (n : Int)) out' (.int .i64 ((i + 1 : Nat) : Int)) H' (blkK [6] 0 K)) ∧
      OwnS H' out' (pcsTo l size n (i + 1)) ∧ Fr (OnlyOf out) H H' ∧ (blockOf out' = blockOf out ∨ ∃ b, blockOf out' = some b ∧ H.n ≤ b) := by
  have hck := q_check l v H hr.1 (by omega)
  have hadl := adl_lt l
  obtain ⟨H1, m1, f1, s1, n1⟩ := q_many (adl l) 4 H hadl.1 (by omega) (by decide)
  obtain ⟨H2, m2, f2, s2, n2⟩ := q_many (i : Int) 2 H1 (by omega) (by omega) (by decide)
  have rd1 : BR H1 (.slice (some ⟨H.n, 0, none⟩) 4 (2 * 4)) (be (adl l) 4) := newB (by omega) f1
  have rd2 : BR H2 (.slice (some ⟨H1.n, 0, none⟩) 2 (2 * 2)) (be (i : Int) 2) := newB (by omega) f2
  obtain ⟨v3, H3, a3, o3, s3, b3, _⟩ := Full.app (e := T.uint8) Full.of (rd1.still s2).1 (m := be (i : Int) 2) (by simp [be]) (sz := 1) (bytes := 1) rfl (by simp [be]) (by simp [be]) (rd2.1.src (sz := 1) rfl)
  obtain ⟨H4, m4, f4, s4, n4⟩ := q_many (n : Int) 2 H3 (by omega) (by omega) (by decide)
  have rd4 : BR H4 (.slice (some ⟨H3.n, 0, none⟩) 2 (2 * 2)) (be (n : Int) 2) := newB (by omega) f4
  obtain ⟨v5, H5, a5, o5, s5, b5⟩ := (o3.still s4).appA (be (n : Int) 2) (sz := 1) (bytes := 1) rfl (by simp [be]) (by simp [be]) (rd4.1.src (sz := 1) rfl)
  have hn2 : H2.n ≤ H3.n := s3.n
  have hn3 : H3.n ≤ H4.n := s4.n
  have s5' : Still H H5 := (((s1.trans s2).trans s3).trans s4).then s5 fun b hb h => by
    unfold OnlyOf at h
    rw [b3] at h; cases h; omega
  have hv5 := hr.still s5'
  obtain ⟨p, hp⟩ : ∃ p, p = i * size := ⟨_, rfl⟩
  obtain ⟨q, hq⟩ : ∃ q, q = (i + 1) * size := ⟨_, rfl⟩
  have hpq : q = p + size := by rw [hp, hq, Nat.add_mul, Nat.one_mul]
  have hpl : p ≤ l.length := by omega
  have e1 : ∀ ox oy, xbin Try.prog .mul T.int ox oy (.int .i64 (i : Int)) (.int .i64 (size : Int)) = some (.int .i64 (p : Int)) := fun ox oy => by rw [hp]; exact mulN (by omega)
  have e2 : ∀ ox oy, xbin Try.prog .mul T.int ox oy (.int .i64 ((i : Int) + 1)) (.int .i64 (size : Int)) = some (.int .i64 (q : Int)) := fun ox oy => by
    rw [hq]; exact mulN (a := i + 1) (by omega)
  have hlen := hr.1.lenS
  obtain ⟨v6, a6, r6, _⟩ := hv5.mid (sz := 1) rfl (i := p) (j := min l.length q) (q := .i64) (q' := .i64) (by omega) (by omega)
  have a6' : slS T.uint8 1 v (some (.int .i64 (p : Int))) (some (.int .i64 (min (l.length : Int) (q : Int)))) none H5 = some v6 := by
    rw [show min (l.length : Int) (q : Int) = ((min l.length q : Nat) : Int) by omega]; exact a6
  have hchunk : (l.drop p).take (min l.length q - p) = chunkL l size i := by
    unfold chunkL
    rw [← hp]
    by_cases h : q ≤ l.length
    · rw [show min l.length q - p = size by omega]
    · rw [List.take_of_length_le (by simp; omega), List.take_of_length_le (by simp; omega)]
  rw [hchunk] at r6
  have hcl : (chunkL l size i).length ≤ size := by unfold chunkL; simp; omega
  obtain ⟨v7, H7, a7, o7, s7, b7⟩ := o5.appA (chunkL l size i) (sz := 1) (bytes := 1) rfl (by simp [be_length]; omega) (by simp [be_length]; omega) (r6.1.src (sz := 1) rfl)
  have hb5 : ∀ b, blockOf v5 = some b → H.n ≤ b := fun b h => by
    rcases b5 with h5 | h5
    · rw [h5, b3] at h; cases h; omega
    · rw [h5] at h; cases h; omega
  have s7' : Still H H7 := s5'.then s7 fun b hb h => by
    unfold OnlyOf at h
    have := hb5 b h; omega
  have hb7 : ∀ b, blockOf v7 = some b → H.n ≤ b := fun b h => by
    rcases b7 with h7 | h7
    · rw [h7] at h; exact hb5 b h
    · rw [h7] at h; cases h; have := s5'.n; omega
  obtain ⟨ad7, n7, c7, rfl⟩ : ∃ a n c, v7 = .slice a n c := by obtain ⟨a, c, h⟩ := o7.rd.shape; exact ⟨_, _, _, h⟩
  have hpiece : be (adl l) 4 ++ be (i : Int) 2 ++ be (n : Int) 2 ++ chunkL l size i = pieceL l size n i := rfl
  rw [hpiece] at o7
  have hout : ∀ b, blockOf out = some b → b < H.n := fun b h => by
    obtain ⟨sl, k1, _⟩ := ro
    exact k1.blk h
  obtain ⟨v9, H9, a9, o9, s9, b9⟩ := (ro.still s7').app (x := .slice ad7 n7 c7) o7.sl (fun b hb h => by
    unfold OnlyOf at h
    have := hb7 b hb
    have := hout b h
    omega) (by rw [pcsTo_length]; omega)
  refine ⟨v9, H9, fun K => ?_, o9, s7'.still.then s9 fun b hb h => h, b9.imp id fun ⟨b, h1, h2⟩ => ⟨b, h1, by have := s7'.n; omega⟩⟩
  have hlt : (i : Int) < (n : Int) := by omega
  have m1 : CC F.law_many [.int .i64 (adl l), .int .i64 4] H = some (.slice (some ⟨H.n, 0, none⟩) 4 (2 * 4), H1) := m1
  have m2 : CC F.law_many [.int .i64 (i : Int), .int .i64 2] H1 = some (.slice (some ⟨H1.n, 0, none⟩) 2 (2 * 2), H2) := m2
  have m4 : CC F.law_many [.int .i64 (n : Int), .int .i64 2] H3 = some (.slice (some ⟨H3.n, 0, none⟩) 2 (2 * 2), H4) := m4
  rw [r_law_pieces_0, Int.natCast_add]
  simp (disch := first | with_reducible rfl | assumption | omega | rfl | (simp only [go_sem]; first | done | omega)) only [go_sem, ↓reduceIte, reduceCtorEq, Nat.reduceEqDiff, Nat.reduceAdd, Nat.reduceSub, Nat.reduceMul, Nat.reduceDiv, Nat.reduceMod, Nat.reduceLeDiff, Nat.reduceLT, Nat.reduceBEq, Int.reduceEq, Int.reduceBEq, Int.reduceBNe, Int.reduceLT, Int.reduceLE, Int.reduceAdd, Int.reduceSub, Int.reduceNeg, Int.reduceToNat, Int.reducePow, Nat.reducePow, Int.reduceMul, Int.reduceDiv, ↓s_law_pieces_b0, hlt, enterK_eq hck, enterK_eq m1, enterK_eq m2, a3, enterK_eq m4, a5, e1, e2, hlen, a6', a7, a9]

theorem l_pieces (l : List UInt8) (size : Nat) (v : Value) (hl : l.length ≤ 1000000000) (hs : 1 ≤ size) (hs2 : size ≤ 65536) (n : Nat) (hnl : n = nP l size) (hn : n ≤ 65536) : ∀ (m i : Nat) (H : AHeap) (out : Value), i + m = n → BR H v l → OwnS H out (pcsTo l size n i) → (∀ b, blockOf v = some b → blockOf out ≠ some b) →
    ∃ out' H', (∀ K : K, l_law_pieces_0 v (.int .i64 (size : Int)) (.int .i64 (n : Int)) out (.int .i64 (i : Int)) H (blkK [6] 0 K) = K .normal [(6, out')] H') ∧
      OwnS H' out' (pcsTo l size n n) ∧ Fr (OnlyOf out) H H' ∧ (blockOf out' = blockOf out ∨ ∃ b, blockOf out' = some b ∧ H.n ≤ b)
  | 0, i, H, out, him, hr, ro, hne => by
    obtain rfl : i = n := by omega
    have hlt : ¬ (i : Int) < (i : Int) := by omega
    refine ⟨out, H, fun K => ?_, ro, Fr.refl H, .inl rfl⟩
    rw [r_law_pieces_0]
    simp (disch := first | with_reducible rfl | assumption | omega | rfl | (simp only [go_sem]; first | done | omega)) only [go_sem, ↓reduceIte, reduceCtorEq, Nat.reduceEqDiff, Nat.reduceAdd, Nat.reduceSub, Nat.reduceMul, Nat.reduceDiv, Nat.reduceMod, Nat.reduceLeDiff, Nat.reduceLT, Nat.reduceBEq, Int.reduceEq, Int.reduceBEq, Int.reduceBNe, Int.reduceLT, Int.reduceLE, Int.reduceAdd, Int.reduceSub, Int.reduceNeg, Int.reduceToNat, Int.reducePow, Nat.reducePow, Int.reduceMul, Int.reduceDiv, ↓s_law_pieces_b0, hlt]
  | m + 1, i, H, out, him, hr, ro, hne => by
    obtain ⟨out1, H1, e1, o1, f1, b1⟩ := r_pieces l size v H hr hl hs hs2 n i hn (by omega) (nP_bound hs (by omega)) out ro
    have hvb : ∀ b, blockOf v = some b → b < H.n := fun b h => by
      rcases hr.2 with h' | ⟨b', o, n', code, h', _, _, h3⟩
      · rw [h'] at h; cases h
      · rw [h'] at h; cases h; exact h3
    have hr1 : BR H1 v l := hr.keep f1 fun b hb h => hne b hb h
    obtain ⟨out2, H2, e2, o2, f2, b2⟩ := l_pieces l size v hl hs hs2 n hnl hn m (i + 1) H1 out1 (by omega) hr1 o1 (fun b hb h => by
      rcases b1 with b1 | ⟨b', h1, h2⟩
      · rw [b1] at h; exact hne b hb h
      · rw [h1] at h; cases h; have := hvb _ hb; omega)
    refine ⟨out2, H2, fun K => (e1 K).trans (e2 K), o2, f1.then f2 fun b hb h => ?_, ?_⟩
    · unfold OnlyOf at h ⊢
      rcases b1 with b1 | ⟨b', h1, h2⟩
      · rw [← b1]; exact h
      · rw [h1] at h; cases h; omega
    · rcases b2 with b2 | ⟨b', h1, h2⟩
      · rcases b1 with b1 | ⟨b', h1, h2⟩
        · exact .inl (by rw [b2, b1])
        · exact .inr ⟨b', by rw [b2, h1], h2⟩
      · exact .inr ⟨b', h1, by have := f1.n; omega⟩

theorem q_pieces (l : List UInt8) (size : Nat) (v : Value) (H : AHeap) (hr : BR H v l) (hl : l.length ≤ 1000000000) (hs : 1 ≤ size) (hs2 : size ≤ 65536) (hn : nP l size ≤ 65536) :
    ∃ v' H', CC F.law_pieces [v, .int .i64 (size : Int)] H = some (v', H') ∧ OwnS H' v' (pcsL l size) ∧ Still H H' ∧ (∀ b, blockOf v' = some b → H.n ≤ b) := by
  obtain ⟨out, H', e1, o1, f1, b1⟩ := l_pieces l size v hl hs hs2 (nP l size) rfl hn (nP l size) 0 H (.slice none 0 0) (by omega) hr OwnS.nil (fun b _ h => by cases h)
  have s1 : Still H H' := f1.mono fun b _ h => by unfold OnlyOf at h; cases h
  have hlen := hr.1.lenS
  have q1 : ∀ ox oy, xbin Try.prog .quo T.int ox oy (.int .i64 ((l.length : Int) + (size : Int) - 1)) (.int .i64 (size : Int)) = some (.int .i64 (((l.length + size - 1) / size : Nat) : Int)) := fun ox oy => by
    have e : (l.length : Int) + (size : Int) - 1 = ((l.length + size - 1 : Nat) : Int) := by omega
    rw [e]; exact quoN (by omega) (by omega)
  have hmx : max 1 (((l.length + size - 1) / size : Nat) : Int) = ((nP l size : Nat) : Int) := by unfold nP; omega
  have e1 : ∀ K : K, l_law_pieces_0 v (.int .i64 (size : Int)) (.int .i64 (max 1 (((l.length + size - 1) / size : Nat) : Int))) (.slice none 0 0) (.int .i64 0) H (blkK [6] 0 K) = K .normal [(6, out)] H' := by rw [hmx]; exact e1
  have hpos : nP l size ≠ 0 := by unfold nP; omega
  have hb : ∀ b, blockOf out = some b → H.n ≤ b := fun b h => by
    rcases b1 with b1 | ⟨b', h1, h2⟩
    · rw [b1] at h; cases h
    · rw [h1] at h; cases h; exact h2
  have hg : gr 9 out = false := by
    obtain ⟨sl, k1, k2, _⟩ := o1
    rcases k1 with ⟨k, _⟩ | ⟨k, _⟩ | ⟨b, o, c, xs, rfl, _⟩
    · have := k2.len; rw [k, pcsTo_length] at this; exact absurd this.symm hpos
    · have := k2.len; rw [k, pcsTo_length] at this; exact absurd this.symm hpos
    · rfl
  refine ⟨out, H', ?_, o1, s1, hb⟩
  refine (d_law_pieces _ _ H ?_).trans (congrArg some (tidy_mem (v := out) (H' := H') hg))
  simp (disch := first | with_reducible rfl | assumption | omega | rfl | (simp only [go_sem]; first | done | omega)) only [go_sem, ↓reduceIte, reduceCtorEq, Nat.reduceEqDiff, Nat.reduceAdd, Nat.reduceSub, Nat.reduceMul, Nat.reduceDiv, Nat.reduceMod, Nat.reduceLeDiff, Nat.reduceLT, Nat.reduceBEq, Int.reduceEq, Int.reduceBEq, Int.reduceBNe, Int.reduceLT, Int.reduceLE, Int.reduceAdd, Int.reduceSub, Int.reduceNeg, Int.reduceToNat, Int.reducePow, Nat.reducePow, Int.reduceMul, Int.reduceDiv, ↓s_law_pieces, hlen, q1, e1]

end Go.Proofs.Ytehnchfnhbmkdaa

/-
  Chapter 48: Cut.
  Conditions: none. By an AI agent.
-/
set_option maxRecDepth 10000
set_option linter.unusedSimpArgs false
set_option linter.unusedVariables false
namespace Go.Proofs.Ytehnchfnhbmkdaa
open Go Eng

theorem q_Chunk (a : Option Addr) (len c : Nat) (n : Int) (H : AHeap) (hn : 1 ≤ n) : CC F.slices_Chunk_byte [.slice a len c, .int .i64 n] H =
    some (.func (.func F.slices_Chunk_byte_1) #[] #[.pointer (some ⟨H.n, 0, none⟩), .pointer (some ⟨H.n + 1, 0, none⟩)], (H.push (.cells [.slice a len c] T.sl_uint8 true)).push (.cells [.int .i64 n] T.int true)) := by
  have hlt : ¬ n < 1 := by omega
  refine (d_slices_Chunk_byte _ _ H ?_).trans (congrArg some (tidy_mem rfl))
  simp (disch := first | with_reducible rfl | assumption | omega | rfl | (simp only [go_sem]; first | done | omega)) only [go_sem, ↓reduceIte, reduceCtorEq, Nat.reduceEqDiff, Nat.reduceAdd, Nat.reduceSub, Nat.reduceMul, Nat.reduceDiv, Nat.reduceMod, Nat.reduceLeDiff, Nat.reduceLT, Nat.reduceBEq, Int.reduceEq, Int.reduceBEq, Int.reduceBNe, Int.reduceLT, Int.reduceLE, Int.reduceAdd, Int.reduceSub, Int.reduceNeg, Int.reduceToNat, Int.reducePow, Nat.reducePow, Int.reduceMul, Int.reduceDiv, ↓s_slices_Chunk_byte, hlt]

/-- The elements of what Collect makes. -/
def chSl (b o len n : Nat) : Nat → List Sl
  | 0 => []
  | i + 1 => chSl b o len n i ++ [⟨some ⟨b, o + i * n, none⟩, min n (len - i * n), 2 * min n (len - i * n)⟩]
theorem chSl_cells (b o len n : Nat) : ∀ i, ESl.cells (chSl b o len n i) = apcs b o len n i
  | 0 => rfl
  | i + 1 => by rw [chSl, Enc.cells_append, chSl_cells, apcs]; rfl
theorem chSl_mem {b o len n : Nat} : ∀ {i : Nat} {s : Sl}, s ∈ chSl b o len n i → blockOf s.v = some b
  | i + 1, s, h => by
    rcases List.mem_append.1 h with h | h
    · exact chSl_mem h
    · simp at h; subst h; rfl
  | 0, s, h => by simp [chSl] at h
def chTo (l : List UInt8) (n : Nat) : Nat → List (List UInt8)
  | 0 => []
  | i + 1 => chTo l n i ++ [chunkL l n i]
theorem chTo_length (l : List UInt8) (n : Nat) : ∀ i, (chTo l n i).length = i
  | 0 => rfl
  | i + 1 => by simp [chTo, chTo_length l n i]
theorem chTo_at (l : List UInt8) (n : Nat) : ∀ (m i : Nat) (h : i < (chTo l n m).length), (chTo l n m)[i] = chunkL l n i
  | 0, i, h => by simp [chTo] at h
  | m + 1, i, h => by
    simp only [chTo]
    by_cases hi : i < m
    · rw [List.getElem_append_left (by rw [chTo_length]; exact hi)]; exact chTo_at l n m i _
    · have : i = m := by rw [chTo_length] at h; omega
      subst this
      rw [List.getElem_append_right (by rw [chTo_length]; omega)]
      simp

theorem chSl_els {H : AHeap} {b o c n : Nat} {l : List UInt8} (hr : BR H (.slice (some ⟨b, o, none⟩) l.length c) l) (hb : b < H.n) (hn : 1 ≤ n) : ∀ i, (∀ j, j < i → j * n < l.length) → Els H (chSl b o l.length n i) (chTo l n i)
  | 0, _ => trivial
  | i + 1, h => by
    have hi := h i (by omega)
    refine Els.app (chSl_els hr hb hn i fun j hj => h j (by omega)) ⟨?_, trivial⟩
    have hcl : (chunkL l n i).length = min n (l.length - i * n) := by unfold chunkL; simp
    show BR H (.slice (some ⟨b, o + i * n, none⟩) (min n (l.length - i * n)) (2 * min n (l.length - i * n))) (chunkL l n i)
    rw [← hcl]
    refine ⟨?_, .inr ⟨b, _, _, _, rfl, by omega, .inl (by omega), hb⟩⟩
    have hne : chunkL l n i ≠ [] := fun h0 => by rw [h0] at hcl; simp at hcl; omega
    refine .inr (.inr ⟨b, o + i * n, _, rfl, hne, hb, ?_⟩)
    rcases hr.1 with ⟨h0, _⟩ | ⟨h0, _⟩ | ⟨b', o', c', hv, hl, hb', hc⟩
    · subst h0; simp at hi
    · subst h0; simp at hi
    · cases hv
      have hw : EB.w = 1 := rfl
      have h2 := cutB_sub hc (i := i * n) (m := (chunkL l n i).length * 1) (by rw [hw, hcl]; omega)
      rw [hw, h2]
      have e1 := EB.cells_drop l (i * n)
      have e2 := EB.cells_take (l.drop (i * n)) (min n (l.length - i * n))
      rw [hw, Nat.mul_one] at e1 e2
      rw [Nat.mul_one, hcl, e1, e2]
      congr 2
      unfold chunkL
      by_cases h3 : n ≤ l.length - i * n
      · rw [Nat.min_eq_left h3]
      · rw [List.take_of_length_le (by simp; omega), List.take_of_length_le (by simp; omega)]

theorem pcN_spec {len n : Nat} (hn : 1 ≤ n) : len ≤ pcN len n * n ∧ ∀ j, j < pcN len n → j * n < len := by
  have h1 : pcN len n * n ≤ len + n - 1 := Nat.div_mul_le_self _ _
  have h2 := Nat.lt_div_mul_add (a := len + n - 1) (b := n) (by omega)
  have h2 : len + n - 1 < pcN len n * n + n := h2
  refine ⟨by omega, fun j hj => ?_⟩
  have h3 : (j + 1) * n ≤ pcN len n * n := Nat.mul_le_mul_right _ hj
  rw [Nat.add_mul, Nat.one_mul] at h3
  omega

/-- Collect of Chunk. -/
theorem q_Collect (l : List UInt8) (v : Value) (n : Nat) (H : AHeap) (hr : BR H v l) (hl : l.length ≤ 1000000000) (hn : 1 ≤ n) (hn2 : n ≤ 65536) :
    ∃ cl H1 v' H', CC F.slices_Chunk_byte [v, .int .i64 (n : Int)] H = some (cl, H1) ∧ CC F.slices_Collect_byte [cl] H1 = some (v', H') ∧
      (∃ sl, Own ESl H' T.sl_uint8 v' sl ∧ Els H' sl (chTo l n (pcN l.length n)) ∧ ∀ s ∈ sl, ∀ b, blockOf s.v = some b → b < H.n) ∧ Still H H' ∧ (∀ b, blockOf v' = some b → H.n ≤ b) := by
  obtain ⟨a, c, rfl⟩ := hr.1.shape
  obtain ⟨H1, hH1⟩ : ∃ H1, (H.push (.cells [.slice a l.length c] T.sl_uint8 true)).push (.cells [.int .i64 (n : Int)] T.int true) = H1 := ⟨_, rfl⟩
  have hch := q_Chunk a l.length c (n : Int) H (by omega)
  rw [hH1] at hch
  have s1 : Still H H1 := by rw [← hH1]; exact ((Fr.refl H).push _).push _
  have n1 : H1.n = H.n + 2 := by rw [← hH1]; rfl
  have f1 : H1.f H.n = .cells [.slice a l.length c] T.sl_uint8 true := by rw [← hH1, push_f_ne (by simp), push_f_eq rfl]
  have f2 : H1.f (H.n + 1) = .cells [.int .i64 (n : Int)] T.int true := by rw [← hH1]; exact push_f_eq rfl
  have hp : prims1 F.slices_Collect_byte = some chunkP := by kernel_rfl
  have hcc : ∀ r, chunkV (.slice a l.length c) n H1 = some r → CC F.slices_Collect_byte [.func (.func F.slices_Chunk_byte_1) #[] #[.pointer (some ⟨H.n, 0, none⟩), .pointer (some ⟨H.n + 1, 0, none⟩)]] H1 = some r := fun r h => by
    refine D_prim hp ?_
    unfold chunkP
    simp only [F.slices_Chunk_byte_1, List.length_nil, and_self, if_true, f1, f2]
    rw [if_pos ⟨by omega, by omega⟩, Int.toNat_natCast]
    exact h
  have hr1 := hr.still s1
  by_cases h0 : l = []
  · subst h0
    refine ⟨_, H1, .slice none 0 0, H1, hch, hcc _ ?_, ⟨[], .inl ⟨rfl, rfl⟩, ?_, fun s h => by simp at h⟩, s1, fun b h => by cases h⟩
    · rcases hr.2 with h | ⟨b, o, m, code, h, _⟩
      · cases h; rfl
      · cases h
        unfold chunkV
        simp
    · have : pcN 0 n = 0 := by unfold pcN; exact Nat.div_eq_of_lt (by omega)
      simp only [List.length_nil]
      rw [this]
      trivial
  · have hpos : l.length ≠ 0 := fun h => h0 (List.length_eq_zero_iff.1 h)
    rcases hr.2 with h | ⟨b, o, m, code, h, hm, hcode, hb⟩
    · injection h with _ h2 _; exact absurd h2 hpos
    · cases h
      obtain ⟨p1, p2⟩ := pcN_spec (len := l.length) hn
      have hel := chSl_els hr1 (by omega) hn (pcN l.length n) p2
      have hcells := chSl_cells b o l.length n (pcN l.length n)
      obtain ⟨H2, hH2⟩ : ∃ H2, H1.push (.cells (apcs b o l.length n (pcN l.length n)) T.sl_uint8 true) = H2 := ⟨_, rfl⟩
      have s2 : Still H1 H2 := by rw [← hH2]; exact (Fr.refl H1).push _
      have hlen : (chSl b o l.length n (pcN l.length n)).length = pcN l.length n := by rw [hel.len, chTo_length]
      refine ⟨_, H1, .slice (some ⟨H1.n, 0, none⟩) (pcN l.length n) (2 * pcN l.length n + 1), H2, hch, hcc _ ?_, ⟨chSl b o l.length n (pcN l.length n), .inr (.inr ⟨H1.n, 0, pcN l.length n, apcs b o l.length n (pcN l.length n), by rw [hlen], by rw [hlen]; exact Nat.le_refl _, by rw [← hH2]; simp, by rw [← hH2]; exact push_f_eq rfl, by rw [apcs_length]; simp [ESl], ?_⟩), hel.still s2, fun s h x hx => ?_⟩, s1.trans s2, fun x h => by simp [blockOf] at h; omega⟩
      · unfold chunkV
        simp only [hpos, if_false]
        rw [if_pos ⟨hm, by omega⟩, ← hH2]
        rfl
      · rw [hcells, List.drop_zero, List.take_of_length_le (by rw [apcs_length, hlen]; simp [ESl])]
      · rw [chSl_mem h] at hx; cases hx; exact hb

end Go.Proofs.Ytehnchfnhbmkdaa

/-
  Chapter 48: Cut.
  Conditions: none. By an AI agent.
-/
set_option maxRecDepth 10000
set_option linter.unusedSimpArgs false
set_option linter.unusedVariables false
namespace Go.Proofs.Ytehnchfnhbmkdaa
open Go Eng

@[go_sem] theorem slb_nil {ox oy : Operand} : xbin Try.prog .eql T.sl_uint8 ox oy (.slice none 0 0) (.slice none 0 0) = some (.bool true) := by kernel_rfl
@[go_sem] theorem slb_some {ox oy : Operand} {a : Addr} {n c : Nat} : xbin Try.prog .eql T.sl_uint8 ox oy (.slice (some a) n c) (.slice none 0 0) = some (.bool false) := by kernel_rfl

theorem q_cloneB (l : List UInt8) (a : Addr) (c : Nat) (H : AHeap) (hr : BR H (.slice (some a) l.length c) l) (hl0 : l ≠ []) (hl : l.length ≤ 1000000000) :
    ∃ v' H', CC F.slices_Clone_byte [.slice (some a) l.length c] H = some (v', H') ∧ Own EB H' T.uint8 v' l ∧ Still H H' ∧ ∀ b, blockOf v' = some b → H.n ≤ b := by
  obtain ⟨H1, hH1⟩ : ∃ H1, H.push (.cells [] T.uint8 true) = H1 := ⟨_, rfl⟩
  have s1 : Still H H1 := by rw [← hH1]; exact (Fr.refl H).push _
  have n1 : H1.n = H.n + 1 := by rw [← hH1]; rfl
  have ho : Own EB H1 T.uint8 (.slice (some ⟨H.n, 0, none⟩) 0 0) [] := .inr (.inl ⟨rfl, _, rfl, rfl, by show H.n < H1.n; omega⟩)
  obtain ⟨v', H', happ, hown, hfr, hb, hg⟩ := ho.app (m := l) hl0 (sz := 1) (bytes := 1) rfl (by simp; omega) (by simp; omega) ((hr.still s1).1.src (sz := 1) rfl)
  refine ⟨v', H', ?_, by simpa using hown, ?_, ?_⟩
  · refine (d_slices_Clone_byte _ H ?_).trans (congrArg some (tidy_mem (v := v') (H' := H') hg))
    simp (disch := first | with_reducible rfl | assumption | omega | rfl | (simp only [go_sem]; first | done | omega)) only [go_sem, ↓reduceIte, reduceCtorEq, Nat.reduceEqDiff, Nat.reduceAdd, Nat.reduceSub, Nat.reduceMul, Nat.reduceDiv, Nat.reduceMod, Nat.reduceLeDiff, Nat.reduceLT, Nat.reduceBEq, Int.reduceEq, Int.reduceBEq, Int.reduceBNe, Int.reduceLT, Int.reduceLE, Int.reduceAdd, Int.reduceSub, Int.reduceNeg, Int.reduceToNat, Int.reducePow, Nat.reducePow, Int.reduceMul, Int.reduceDiv, ↓s_slices_Clone_byte, hH1, happ]
  · refine s1.then hfr fun b hb h => ?_
    unfold OnlyOf at h
    simp [blockOf] at h
    omega
  · intro b h
    rcases hb with hb | hb
    · rw [hb] at h
      simp [blockOf] at h
      omega
    · rw [hb] at h
      simp at h
      omega

theorem cells22 (i n : Int) : EB.cells (be i 2 ++ be n 2) = [.int .u8 (i / 256 % 256), .int .u8 (i % 256), .int .u8 (n / 256 % 256), .int .u8 (n % 256)] := by
  rw [be2, be2, EB_cells]
  simp only [List.cons_append, List.nil_append, List.map_cons, List.map_nil, u8_cell (mod256 _)]

theorem r_Cut (l : List UInt8) (size : Nat) (cs : List (List UInt8)) (vp : Value) (hb : Nat) (H : AHeap) (hp : Rds H vp cs) (hh : BR H (.slice (some ⟨hb, 0, none⟩) 4 8) (be (adl l) 4)) (n i : Nat) (hn : n ≤ 65535) (hcn : cs.length = n) (hin : i < n) (hci : cs[i] = chunkL l size i) (hsz : size ≤ 65536)
    (out : Value) (ro : OwnS H out (pcsTo l size n i)) :
    ∃ out' H', (∀ K : K, l_backup_Cut_0 vp (.slice (some ⟨hb, 0, none⟩) 4 8) out vp (.int .i64 (n : Int)) (.int .i64 (i : Int)) H (blkK [8] 1 K) = l_backup_Cut_0 vp (.slice (some ⟨hb, 0, none⟩) 4 8) out' vp (.int .i64 (n : Int)) (.int .i64 ((i + 1 : Nat) : Int)) H' (blkK [8] 1 K)) ∧
      OwnS H' out' (pcsTo l size n (i + 1)) ∧ Fr (OnlyOf out) H H' ∧ (blockOf out' = blockOf out ∨ ∃ b, blockOf out' = some b ∧ H.n ≤ b) := by
  obtain ⟨b0, o0, x, i0, c0, rx, _⟩ := hp.at (i := i) (by omega)
  rw [hci] at rx
  have hlen := hp.lenS
  rw [hcn] at hlen
  have hbl : (be (adl l) 4).length = 4 := be_length _ _
  have hcl : (chunkL l size i).length ≤ 65536 := by unfold chunkL; simp; omega
  obtain ⟨v1, H1, q1, o1, s1, b1⟩ := q_cloneB (be (adl l) 4) ⟨hb, 0, none⟩ 8 H (by rw [hbl]; exact hh) (by simp [be]) (by rw [hbl]; decide)
  rw [hbl] at q1
  obtain ⟨H2, hH2⟩ : ∃ H2, H1.push (.cells [.int .u8 ((i : Int) / 256 % 256), .int .u8 ((i : Int) % 256), .int .u8 ((n : Int) / 256 % 256), .int .u8 ((n : Int) % 256)] T.uint8 true) = H2 := ⟨_, rfl⟩
  have s2 : Still H1 H2 := by rw [← hH2]; exact (Fr.refl H1).push _
  have n2 : H2.n = H1.n + 1 := by rw [← hH2]; rfl
  have f2 : H2.f H1.n = .cells (EB.cells (be (i : Int) 2 ++ be (n : Int) 2)) T.uint8 true := by rw [cells22, ← hH2]; exact push_f_eq rfl
  have rd2 : BR H2 (.slice (some ⟨H1.n, 0, none⟩) 4 (2 * 4)) (be (i : Int) 2 ++ be (n : Int) 2) := by
    have := newB (l := be (i : Int) 2 ++ be (n : Int) 2) (b := H1.n) (H := H2) (by omega) f2
    simpa [be_length] using this
  obtain ⟨v3, H3, a3, o3, s3, b3⟩ := (o1.still s2).appA (be (i : Int) 2 ++ be (n : Int) 2) (sz := 1) (bytes := 1) rfl (by simp [be]) (by simp [be]) (by have := rd2.1.src (sz := 1) rfl; exact this)
  have hb1 : ∀ b, blockOf v1 = some b → H.n ≤ b := b1
  have hn1 := s1.n
  have s3' : Still H H3 := (s1.trans s2).then s3 fun b hb h => by
    unfold OnlyOf at h; have := hb1 b h; omega
  have hb3 : ∀ b, blockOf v3 = some b → H.n ≤ b := fun b h => by
    rcases b3 with h3 | h3
    · rw [h3] at h; exact hb1 b h
    · rw [h3] at h; cases h; omega
  obtain ⟨v4, H4, a4, o4, s4, b4⟩ := o3.appA (chunkL l size i) (sz := 1) (bytes := 1) rfl (by simp [be_length]; omega) (by simp [be_length]; omega) ((rx.still s3').1.src (sz := 1) rfl)
  have s4' : Still H H4 := s3'.then s4 fun b hb h => by
    unfold OnlyOf at h; have := hb3 b h; omega
  have hb4 : ∀ b, blockOf v4 = some b → H.n ≤ b := fun b h => by
    rcases b4 with h4 | h4
    · rw [h4] at h; exact hb3 b h
    · rw [h4] at h; cases h; have := s3'.n; omega
  have hpiece : be (adl l) 4 ++ (be (i : Int) 2 ++ be (n : Int) 2) ++ chunkL l size i = pieceL l size n i := by unfold pieceL; simp only [List.append_assoc]
  rw [hpiece] at o4
  have hout : ∀ b, blockOf out = some b → b < H.n := fun b h => by
    obtain ⟨sl, k1, _⟩ := ro
    exact k1.blk h
  obtain ⟨ad4, n4, c4, rfl⟩ : ∃ a n c, v4 = .slice a n c := by obtain ⟨a, c, h⟩ := o4.rd.shape; exact ⟨_, _, _, h⟩
  obtain ⟨v5, H5, a5, o5, s5, b5⟩ := (ro.still s4').app (x := .slice ad4 n4 c4) o4.sl (fun b hb h => by
    unfold OnlyOf at h
    have := hb4 b hb
    have := hout b h
    omega) (by rw [pcsTo_length]; omega)
  refine ⟨v5, H5, fun K => ?_, o5, s4'.still.then s5 fun b hb h => h, b5.imp id fun ⟨b, h1, h2⟩ => ⟨b, h1, by have := s4'.n; omega⟩⟩
  have hlt : (i : Int) < (n : Int) := by omega
  have e8 : ∀ (m : Int) ox oy, xbin Try.prog .shr T.int ox oy (.int .i64 m) (.int .u64 8) = some (.int .i64 (m / 256)) := fun m ox oy => shrP (by decide)
  have cA : ∀ (m : Int) H, xconv Try.prog T.int T.uint8 (.int .i64 m) H = some (.int .u8 (m % 256), H) := fun m H => by rw [x_int_uint8, wrapU8]
  rw [r_backup_Cut_0, Int.natCast_add]
  simp (disch := first | with_reducible rfl | assumption | omega | rfl | (simp only [go_sem]; first | done | omega)) only [go_sem, ↓reduceIte, reduceCtorEq, Nat.reduceEqDiff, Nat.reduceAdd, Nat.reduceSub, Nat.reduceMul, Nat.reduceDiv, Nat.reduceMod, Nat.reduceLeDiff, Nat.reduceLT, Nat.reduceBEq, Int.reduceEq, Int.reduceBEq, Int.reduceBNe, Int.reduceLT, Int.reduceLE, Int.reduceAdd, Int.reduceSub, Int.reduceNeg, Int.reduceToNat, Int.reducePow, Nat.reducePow, Int.reduceMul, Int.reduceDiv, ↓s_backup_Cut_b0, hlt, i0, c0, enterK_eq q1, e8, cA, hlen, hH2, a3, a4, a5]

theorem l_Cut (l : List UInt8) (size : Nat) (cs : List (List UInt8)) (vp : Value) (hb : Nat) (n : Nat) (hn : n ≤ 65535) (hcn : cs.length = n) (hci : ∀ i (h : i < cs.length), cs[i] = chunkL l size i) (hsz : size ≤ 65536) (H0 : AHeap) (hp : Rds H0 vp cs) (hh : BR H0 (.slice (some ⟨hb, 0, none⟩) 4 8) (be (adl l) 4)) :
    ∀ (m i : Nat) (H : AHeap) (out : Value), i + m = n → Still H0 H → (∀ b, blockOf out = some b → H0.n ≤ b) → OwnS H out (pcsTo l size n i) →
    ∃ out' H', (∀ K : K, l_backup_Cut_0 vp (.slice (some ⟨hb, 0, none⟩) 4 8) out vp (.int .i64 (n : Int)) (.int .i64 (i : Int)) H (blkK [8] 1 K) = K .normal [(8, out')] H') ∧
      OwnS H' out' (pcsTo l size n n) ∧ Still H0 H' ∧ (∀ b, blockOf out' = some b → H0.n ≤ b)
  | 0, i, H, out, him, hs, hbo, ro => by
    obtain rfl : i = n := by omega
    have hlt : ¬ (i : Int) < (i : Int) := by omega
    refine ⟨out, H, fun K => ?_, ro, hs, hbo⟩
    rw [r_backup_Cut_0]
    simp (disch := first | with_reducible rfl | assumption | omega | rfl | (simp only [go_sem]; first | done | omega)) only [go_sem, ↓reduceIte, reduceCtorEq, Nat.reduceEqDiff, Nat.reduceAdd, Nat.reduceSub, Nat.reduceMul, Nat.reduceDiv, Nat.reduceMod, Nat.reduceLeDiff, Nat.reduceLT, Nat.reduceBEq, Int.reduceEq, Int.reduceBEq, Int.reduceBNe, Int.reduceLT, Int.reduceLE, Int.reduceAdd, Int.reduceSub, Int.reduceNeg, Int.reduceToNat, Int.reducePow, Nat.reducePow, Int.reduceMul, Int.reduceDiv, ↓s_backup_Cut_b0, hlt]
  | m + 1, i, H, out, him, hs, hbo, ro => by
    obtain ⟨out1, H1, e1, o1, f1, b1⟩ := r_Cut l size cs vp hb H (hp.still hs) (hh.still hs) n i hn hcn (by omega) (hci i _) hsz out ro
    have hs1 : Still H0 H1 := hs.then f1 fun b hb h => by unfold OnlyOf at h; have := hbo b h; omega
    have hb1 : ∀ b, blockOf out1 = some b → H0.n ≤ b := fun b h => by
      rcases b1 with b1 | ⟨b', h1, h2⟩
      · rw [b1] at h; exact hbo b h
      · rw [h1] at h; cases h; have := hs.n; omega
    obtain ⟨out2, H2, e2, o2, s2, b2⟩ := l_Cut l size cs vp hb n hn hcn hci hsz H0 hp hh m (i + 1) H1 out1 (by omega) hs1 hb1 o1
    exact ⟨out2, H2, fun K => (e1 K).trans (e2 K), o2, s2, b2⟩

theorem q_Cut_arg (v : Value) (n : Int) (H : AHeap) (hn : n < 1 ∨ 65536 < n) : CC F.backup_Cut [v, .int .i64 n] H = some (.tuple #[.slice none 0 0, .int .i64 2], H) := by
  by_cases h1 : n < 1
  · apply pure_of _ (d_backup_Cut _ _ H) rfl
    rotate_left 2
    · simp (disch := first | with_reducible rfl | assumption | omega | rfl | (simp only [go_sem]; first | done | omega)) only [go_sem, ↓reduceIte, reduceCtorEq, Nat.reduceEqDiff, Nat.reduceAdd, Nat.reduceSub, Nat.reduceMul, Nat.reduceDiv, Nat.reduceMod, Nat.reduceLeDiff, Nat.reduceLT, Nat.reduceBEq, Int.reduceEq, Int.reduceBEq, Int.reduceBNe, Int.reduceLT, Int.reduceLE, Int.reduceAdd, Int.reduceSub, Int.reduceNeg, Int.reduceToNat, Int.reducePow, Nat.reducePow, Int.reduceMul, Int.reduceDiv, ↓s_backup_Cut, h1]
      rfl
    · (repeat (first | exact Fr.refl _ | refine Fr.push ?_ _ | refine Fr.set ?_ _ _ (by intro h; first | omega | (simp only [go_sem] at h; omega))))
  · have h2 : 65536 < n := by omega
    apply pure_of _ (d_backup_Cut _ _ H) rfl
    rotate_left 2
    · simp (disch := first | with_reducible rfl | assumption | omega | rfl | (simp only [go_sem]; first | done | omega)) only [go_sem, ↓reduceIte, reduceCtorEq, Nat.reduceEqDiff, Nat.reduceAdd, Nat.reduceSub, Nat.reduceMul, Nat.reduceDiv, Nat.reduceMod, Nat.reduceLeDiff, Nat.reduceLT, Nat.reduceBEq, Int.reduceEq, Int.reduceBEq, Int.reduceBNe, Int.reduceLT, Int.reduceLE, Int.reduceAdd, Int.reduceSub, Int.reduceNeg, Int.reduceToNat, Int.reducePow, Nat.reducePow, Int.reduceMul, Int.reduceDiv, ↓s_backup_Cut, h1, h2]
      rfl
    · (repeat (first | exact Fr.refl _ | refine Fr.push ?_ _ | refine Fr.set ?_ _ _ (by intro h; first | omega | (simp only [go_sem] at h; omega))))

theorem q_Cut_long (l : List UInt8) (v : Value) (n : Nat) (H : AHeap) (hr : BR H v l) (h1 : 1 ≤ n) (h2 : n ≤ 65536) (hl : 4194304 < l.length) : CC F.backup_Cut [v, .int .i64 (n : Int)] H = some (.tuple #[.slice none 0 0, .int .i64 5], H) := by
  have hlen := hr.1.lenS
  have e1 : ¬ (n : Int) < 1 := by omega
  have e2 : ¬ 65536 < (n : Int) := by omega
  have e3 : 4194304 < (l.length : Int) := by omega
  apply pure_of _ (d_backup_Cut _ _ H) rfl
  rotate_left 2
  · simp (disch := first | with_reducible rfl | assumption | omega | rfl | (simp only [go_sem]; first | done | omega)) only [go_sem, ↓reduceIte, reduceCtorEq, Nat.reduceEqDiff, Nat.reduceAdd, Nat.reduceSub, Nat.reduceMul, Nat.reduceDiv, Nat.reduceMod, Nat.reduceLeDiff, Nat.reduceLT, Nat.reduceBEq, Int.reduceEq, Int.reduceBEq, Int.reduceBNe, Int.reduceLT, Int.reduceLE, Int.reduceAdd, Int.reduceSub, Int.reduceNeg, Int.reduceToNat, Int.reducePow, Nat.reducePow, Int.reduceMul, Int.reduceDiv, ↓s_backup_Cut, hlen, e1, e2, e3]
    rfl
  · (repeat (first | exact Fr.refl _ | refine Fr.push ?_ _ | refine Fr.set ?_ _ _ (by intro h; first | omega | (simp only [go_sem] at h; omega))))

theorem nP_pcN {l : List UInt8} {size : Nat} (hs : 1 ≤ size) : nP l size = max 1 (pcN l.length size) := rfl
theorem pcN_zero {n : Nat} (hn : 1 ≤ n) : pcN 0 n = 0 := by unfold pcN; exact Nat.div_eq_of_lt (by omega)
theorem pcN_pos {len n : Nat} (hn : 1 ≤ n) (h : len ≠ 0) : 1 ≤ pcN len n := Nat.div_pos (by omega) (by omega)

theorem q_Cut_many (l : List UInt8) (v : Value) (n : Nat) (H : AHeap) (hr : BR H v l) (h1 : 1 ≤ n) (h2 : n ≤ 65536) (hl : l.length ≤ 4194304) (hm : 65535 < nP l n) : CC F.backup_Cut [v, .int .i64 (n : Int)] H = some (.tuple #[.slice none 0 0, .int .i64 5], H) := by
  have hlen := hr.1.lenS
  have e1 : ¬ (n : Int) < 1 := by omega
  have e2 : ¬ 65536 < (n : Int) := by omega
  have e3 : ¬ 4194304 < (l.length : Int) := by omega
  obtain ⟨cl, H1, v', H', k1, k2, ⟨sl, ko, ke, _⟩, ks, _⟩ := q_Collect l v n H hr (by omega) h1 h2
  have hn' := ko.rd.lenS
  rw [ke.len, chTo_length] at hn'
  have e4 : 65535 < (pcN l.length n : Int) := by rw [nP_pcN h1] at hm; omega
  apply pure_of _ (d_backup_Cut _ _ H) rfl
  rotate_left 2
  · simp (disch := first | with_reducible rfl | assumption | omega | rfl | (simp only [go_sem]; first | done | omega)) only [go_sem, ↓reduceIte, reduceCtorEq, Nat.reduceEqDiff, Nat.reduceAdd, Nat.reduceSub, Nat.reduceMul, Nat.reduceDiv, Nat.reduceMod, Nat.reduceLeDiff, Nat.reduceLT, Nat.reduceBEq, Int.reduceEq, Int.reduceBEq, Int.reduceBNe, Int.reduceLT, Int.reduceLE, Int.reduceAdd, Int.reduceSub, Int.reduceNeg, Int.reduceToNat, Int.reducePow, Nat.reducePow, Int.reduceMul, Int.reduceDiv, ↓s_backup_Cut, hlen, e1, e2, e3, enterK_eq k1, enterK_eq k2, hn', e4]
    rfl
  · exact ks

theorem q_Cut (l : List UInt8) (v : Value) (n : Nat) (H : AHeap) (hr : BR H v l) (h1 : 1 ≤ n) (h2 : n ≤ 65536) (hl : l.length ≤ 4194304) (hm : nP l n ≤ 65535) :
    ∃ v' H', CC F.backup_Cut [v, .int .i64 (n : Int)] H = some (.tuple #[v', .int .i64 0], H') ∧ OwnS H' v' (pcsL l n) ∧ Still H H' ∧ (∀ b, blockOf v' = some b → H.n ≤ b) := by
  have hlen := hr.1.lenS
  have e1 : ¬ (n : Int) < 1 := by omega
  have e2 : ¬ 65536 < (n : Int) := by omega
  have e3 : ¬ 4194304 < (l.length : Int) := by omega
  obtain ⟨cl, H1, v', H2, k1, k2, ⟨sl, ko, ke, _⟩, ks, kb⟩ := q_Collect l v n H hr (by omega) h1 h2
  have hn' := ko.rd.lenS
  rw [ke.len, chTo_length] at hn'
  have e4 : ¬ 65535 < (pcN l.length n : Int) := by rw [nP_pcN h1] at hm; omega
  have hadl := adl_lt l
  by_cases h0 : l = []
  · subst h0
    have hz : pcN ([] : List UInt8).length n = 0 := pcN_zero h1
    have hnp : nP ([] : List UInt8) n = 1 := by rw [nP_pcN h1, hz]; rfl
    rw [hz] at hn' e4
    obtain ⟨H3, hH3⟩ : ∃ H3, H2.push (.cells [.slice none 0 0] T.sl_uint8 true) = H3 := ⟨_, rfl⟩
    have s3 : Still H2 H3 := by rw [← hH3]; exact (Fr.refl H2).push _
    have n3 : H3.n = H2.n + 1 := by rw [← hH3]; rfl
    have f3 : H3.f H2.n = .cells [.slice none 0 0] T.sl_uint8 true := by rw [← hH3]; exact push_f_eq rfl
    have rp : Rds H3 (.slice (some ⟨H2.n, 0, none⟩) 1 2) [[]] := ⟨[⟨none, 0, 0⟩], ⟨.inr (.inr ⟨H2.n, 0, 2, rfl, by simp, by omega, by rw [f3]; rfl⟩), .inr ⟨H2.n, 0, 1, 2, rfl, by decide, .inl rfl, by omega⟩⟩, ⟨RdS.nil, trivial⟩⟩
    have hck := q_Check [] v H3 ((hr.still ks).still s3).1 (by simp)
    have hfour := q_four (adl []) H3 hadl.1 hadl.2
    obtain ⟨H4, hH4⟩ : ∃ H4, H3.push (.cells (EB.cells (be (adl []) 4)) T.uint8 true) = H4 := ⟨_, rfl⟩
    rw [hH4] at hfour
    have s4 : Still H3 H4 := by rw [← hH4]; exact (Fr.refl H3).push _
    have n4 : H4.n = H3.n + 1 := by rw [← hH4]; rfl
    have rh : BR H4 (.slice (some ⟨H3.n, 0, none⟩) 4 8) (be (adl []) 4) := newB (by omega) (by rw [← hH4]; exact push_f_eq rfl)
    obtain ⟨out, H5, e5, o5, s5, b5⟩ := l_Cut [] n [[]] (.slice (some ⟨H2.n, 0, none⟩) 1 2) H3.n 1 (by decide) rfl (fun i h => by simp at h; subst h; simp [chunkL]) h2 H4 (rp.still s4) rh 1 0 H4 (.slice none 0 0) (by omega) (Fr.refl H4) (fun b h => by cases h) OwnS.nil
    have e5 : ∀ K : K, l_backup_Cut_0 (.slice (some ⟨H2.n, 0, none⟩) 1 2) (.slice (some ⟨H3.n, 0, none⟩) 4 8) (.slice none 0 0) (.slice (some ⟨H2.n, 0, none⟩) 1 2) (.int .i64 1) (.int .i64 0) H4 (blkK [8] 1 K) = K .normal [(8, out)] H5 := e5
    have s' : Still H H5 := ((ks.trans s3).trans s4).trans s5
    refine ⟨out, H5, ?_, by rw [pcsL, hnp]; exact o5, s', fun b h => by have := b5 b h; have := ks.n; omega⟩
    have hg : gr 9 (.tuple #[out, .int .i64 0]) = false := by
      obtain ⟨sl, k1, k2, _⟩ := o5
      rcases k1 with ⟨k, _⟩ | ⟨k, _⟩ | ⟨b, o, c, xs, rfl, _⟩
      · have := k2.len; rw [k, pcsTo_length] at this; cases this
      · have := k2.len; rw [k, pcsTo_length] at this; cases this
      · rfl
    have e4 : ¬ (65535 : Int) < 0 := by decide
    have hn' : lenS v' = some (.int .i64 0) := hn'
    have hlen : lenS v = some (.int .i64 0) := hlen
    have e3 : ¬ (4194304 : Int) < 0 := by decide
    refine (d_backup_Cut _ _ H ?_).trans (congrArg some (tidy_mem (v := .tuple #[out, .int .i64 0]) (H' := H5) hg))
    simp (disch := first | with_reducible rfl | assumption | omega | rfl | (simp only [go_sem]; first | done | omega)) only [go_sem, ↓reduceIte, reduceCtorEq, Nat.reduceEqDiff, Nat.reduceAdd, Nat.reduceSub, Nat.reduceMul, Nat.reduceDiv, Nat.reduceMod, Nat.reduceLeDiff, Nat.reduceLT, Nat.reduceBEq, Int.reduceEq, Int.reduceBEq, Int.reduceBNe, Int.reduceLT, Int.reduceLE, Int.reduceAdd, Int.reduceSub, Int.reduceNeg, Int.reduceToNat, Int.reducePow, Nat.reducePow, Int.reduceMul, Int.reduceDiv, ↓s_backup_Cut, hlen, e1, e2, e3, enterK_eq k1, enterK_eq k2, hn', e4, hH3, enterK_eq hck, enterK_eq hfour, e5]
  · have hpos : l.length ≠ 0 := fun h => h0 (List.length_eq_zero_iff.1 h)
    have hp1 := pcN_pos h1 hpos
    have hnp : nP l n = pcN l.length n := by rw [nP_pcN h1]; omega
    have e6 : ¬ (pcN l.length n : Int) = 0 := by omega
    have rp : Rds H2 v' (chTo l n (pcN l.length n)) := ⟨sl, ko.sl, ke⟩
    have hck := q_Check l v H2 (hr.still ks).1 (by omega)
    have hfour := q_four (adl l) H2 hadl.1 hadl.2
    obtain ⟨H4, hH4⟩ : ∃ H4, H2.push (.cells (EB.cells (be (adl l) 4)) T.uint8 true) = H4 := ⟨_, rfl⟩
    rw [hH4] at hfour
    have s4 : Still H2 H4 := by rw [← hH4]; exact (Fr.refl H2).push _
    have n4 : H4.n = H2.n + 1 := by rw [← hH4]; rfl
    have rh : BR H4 (.slice (some ⟨H2.n, 0, none⟩) 4 8) (be (adl l) 4) := by
      have := newB (l := be (adl l) 4) (b := H2.n) (H := H4) (by omega) (by rw [← hH4]; exact push_f_eq rfl)
      rwa [be_length] at this
    obtain ⟨out, H5, e5, o5, s5, b5⟩ := l_Cut l n _ v' H2.n (pcN l.length n) (by omega) (chTo_length _ _ _) (fun i h => chTo_at l n _ i h) h2 H4 (rp.still s4) rh (pcN l.length n) 0 H4 (.slice none 0 0) (by omega) (Fr.refl H4) (fun b h => by cases h) OwnS.nil
    have e5 : ∀ K : K, l_backup_Cut_0 v' (.slice (some ⟨H2.n, 0, none⟩) 4 8) (.slice none 0 0) v' (.int .i64 (pcN l.length n : Int)) (.int .i64 0) H4 (blkK [8] 1 K) = K .normal [(8, out)] H5 := e5
    have s' : Still H H5 := (ks.trans s4).trans s5
    refine ⟨out, H5, ?_, by rw [pcsL, hnp]; exact o5, s', fun b h => by have := b5 b h; have := ks.n; omega⟩
    have hg : gr 9 (.tuple #[out, .int .i64 0]) = false := by
      obtain ⟨sl, k1, k2, _⟩ := o5
      rcases k1 with ⟨k, _⟩ | ⟨k, _⟩ | ⟨b, o, c, xs, rfl, _⟩
      · have := k2.len; rw [k, pcsTo_length] at this; simp at this; omega
      · have := k2.len; rw [k, pcsTo_length] at this; simp at this; omega
      · rfl
    refine (d_backup_Cut _ _ H ?_).trans (congrArg some (tidy_mem (v := .tuple #[out, .int .i64 0]) (H' := H5) hg))
    simp (disch := first | with_reducible rfl | assumption | omega | rfl | (simp only [go_sem]; first | done | omega)) only [go_sem, ↓reduceIte, reduceCtorEq, Nat.reduceEqDiff, Nat.reduceAdd, Nat.reduceSub, Nat.reduceMul, Nat.reduceDiv, Nat.reduceMod, Nat.reduceLeDiff, Nat.reduceLT, Nat.reduceBEq, Int.reduceEq, Int.reduceBEq, Int.reduceBNe, Int.reduceLT, Int.reduceLE, Int.reduceAdd, Int.reduceSub, Int.reduceNeg, Int.reduceToNat, Int.reducePow, Nat.reducePow, Int.reduceMul, Int.reduceDiv, ↓s_backup_Cut, hlen, e1, e2, e3, enterK_eq k1, enterK_eq k2, hn', e4, e6, enterK_eq hck, enterK_eq hfour, e5]

end Go.Proofs.Ytehnchfnhbmkdaa

/-
  Chapter 48: pieces that belong together, in plain words; the law's own joined.
  Conditions: none. By an AI agent.
-/
set_option maxRecDepth 10000
set_option linter.unusedSimpArgs false
set_option linter.unusedVariables false
namespace Go.Proofs.Ytehnchfnhbmkdaa
open Go Eng

/-- q, which came before, and p agree. -/
def agP (p q : List UInt8) : Bool := !decide (prI q = prI p) || decide (q.drop 8 = p.drop 8)
def cdP (pre : List (List UInt8)) (x n : Int) (p : List UInt8) : Bool := decide (prX p = x) && (decide (prN p = n) && pre.all (agP p))
def ok11 (x n : Int) : List (List UInt8) → List (List UInt8) → Bool
  | _, [] => true
  | pre, p :: t => cdP pre x n p && ok11 x n (pre ++ [p]) t
/-- The first part with an index. -/
def fnd : List (List UInt8) → Int → Option (List UInt8)
  | [], _ => none
  | p :: t, i => if prI p = i then some (p.drop 8) else fnd t i
def outs (ls : List (List UInt8)) : Nat → Option (List UInt8)
  | 0 => some []
  | k + 1 => (outs ls k).bind fun o => (fnd ls (k : Int)).map fun s => o ++ s
def jn (ls : List (List UInt8)) : List UInt8 × Int :=
  if ls.all okP then
    match ls with
    | [] => ([], 4)
    | p :: _ =>
      if ok11 (prX p) (prN p) [] ls then
        match outs ls (prN p).toNat with
        | none => ([], 4)
        | some o => if adl o = prX p then (o, 0) else ([], 10)
      else ([], 11)
  else ([], 12)

theorem okP_len {p : List UInt8} (h : okP p = true) : 8 ≤ p.length ∧ prI p < prN p := by
  unfold okP at h
  simp only [Bool.and_eq_true, decide_eq_true_eq] at h
  exact h
theorem q_part' (p : List UInt8) (v : Value) (H : AHeap) (hr : BR H v p) : ∃ a b c d, CC F.law_part [v] H = some (.tuple #[a, b, c, d, .bool (okP p)], H) := by
  by_cases h : 8 ≤ p.length
  · have := q_part p v H hr h
    have e : okP p = decide (prI p < prN p) := by unfold okP; simp [h]
    rw [e]
    exact ⟨_, _, _, _, this⟩
  · have := q_part_short p v H hr.1 (by omega)
    have e : okP p = false := by unfold okP; simp [h]
    rw [e]
    exact ⟨_, _, _, _, this⟩

theorem l_jd0 (ls : List (List UInt8)) (v : Value) (H : AHeap) (hr : Rds H v ls) (hl : ls.length ≤ 1000000000) : ∀ (t : List (List UInt8)) (i : Nat), ls.drop i = t →
    (t.all okP = true → ∀ K : K, l_law_joined_0 v (.int .i64 (i : Int)) H (blkK [0] 0 K) = K .normal [(0, v)] H) ∧
    (t.all okP = false → ∀ K : K, l_law_joined_0 v (.int .i64 (i : Int)) H (blkK [0] 0 K) = K .ret [(2, .slice none 0 0), (3, .int .i64 12)] H)
  | [], i, hx => by
    have h : ls.length ≤ i := List.drop_eq_nil_iff.1 hx
    have hlt : ¬ (i : Int) < (ls.length : Int) := by omega
    have hlen := hr.lenS
    exact ⟨fun _ K => by rw [r_law_joined_0]; simp (disch := first | with_reducible rfl | assumption | omega | rfl | (simp only [go_sem]; first | done | omega)) only [go_sem, ↓reduceIte, reduceCtorEq, Nat.reduceEqDiff, Nat.reduceAdd, Nat.reduceSub, Nat.reduceMul, Nat.reduceDiv, Nat.reduceMod, Nat.reduceLeDiff, Nat.reduceLT, Nat.reduceBEq, Int.reduceEq, Int.reduceBEq, Int.reduceBNe, Int.reduceLT, Int.reduceLE, Int.reduceAdd, Int.reduceSub, Int.reduceNeg, Int.reduceToNat, Int.reducePow, Nat.reducePow, Int.reduceMul, Int.reduceDiv, ↓s_law_joined_b0, hlen, hlt], fun h => by simp at h⟩
  | p :: t, i, hx => by
    obtain ⟨h, hxa, hx'⟩ := drop_cons hx
    have hlt : (i : Int) < (ls.length : Int) := by omega
    have hlen := hr.lenS
    obtain ⟨b1, o1, y1, i1, c1, r1, _⟩ := hr.at h
    rw [hxa] at r1
    obtain ⟨a, b, c, d, hp⟩ := q_part' p y1 H r1
    obtain ⟨k1, k2⟩ := l_jd0 ls v H hr hl t (i + 1) hx'
    rw [List.all_cons]
    cases ho : okP p with
    | true =>
      rw [ho] at hp
      refine ⟨fun h2 K => ?_, fun h2 K => ?_⟩
      · have := k1 (by simpa using h2) K
        rw [r_law_joined_0]
        simp (disch := first | with_reducible rfl | assumption | omega | rfl | (simp only [go_sem]; first | done | omega)) only [go_sem, ↓reduceIte, reduceCtorEq, Nat.reduceEqDiff, Nat.reduceAdd, Nat.reduceSub, Nat.reduceMul, Nat.reduceDiv, Nat.reduceMod, Nat.reduceLeDiff, Nat.reduceLT, Nat.reduceBEq, Int.reduceEq, Int.reduceBEq, Int.reduceBNe, Int.reduceLT, Int.reduceLE, Int.reduceAdd, Int.reduceSub, Int.reduceNeg, Int.reduceToNat, Int.reducePow, Nat.reducePow, Int.reduceMul, Int.reduceDiv, ↓s_law_joined_b0, hlen, hlt, i1, c1, enterK_eq hp]
        exact this
      · have := k2 (by simpa using h2) K
        rw [r_law_joined_0]
        simp (disch := first | with_reducible rfl | assumption | omega | rfl | (simp only [go_sem]; first | done | omega)) only [go_sem, ↓reduceIte, reduceCtorEq, Nat.reduceEqDiff, Nat.reduceAdd, Nat.reduceSub, Nat.reduceMul, Nat.reduceDiv, Nat.reduceMod, Nat.reduceLeDiff, Nat.reduceLT, Nat.reduceBEq, Int.reduceEq, Int.reduceBEq, Int.reduceBNe, Int.reduceLT, Int.reduceLE, Int.reduceAdd, Int.reduceSub, Int.reduceNeg, Int.reduceToNat, Int.reducePow, Nat.reducePow, Int.reduceMul, Int.reduceDiv, ↓s_law_joined_b0, hlen, hlt, i1, c1, enterK_eq hp]
        exact this
    | false =>
      rw [ho] at hp
      refine ⟨fun h2 => by simp at h2, fun h2 K => ?_⟩
      rw [r_law_joined_0]
      simp (disch := first | with_reducible rfl | assumption | omega | rfl | (simp only [go_sem]; first | done | omega)) only [go_sem, ↓reduceIte, reduceCtorEq, Nat.reduceEqDiff, Nat.reduceAdd, Nat.reduceSub, Nat.reduceMul, Nat.reduceDiv, Nat.reduceMod, Nat.reduceLeDiff, Nat.reduceLT, Nat.reduceBEq, Int.reduceEq, Int.reduceBEq, Int.reduceBNe, Int.reduceLT, Int.reduceLE, Int.reduceAdd, Int.reduceSub, Int.reduceNeg, Int.reduceToNat, Int.reducePow, Nat.reducePow, Int.reduceMul, Int.reduceDiv, ↓s_law_joined_b0, hlen, hlt, i1, c1, enterK_eq hp]

theorem l_jd2 (ls : List (List UInt8)) (v : Value) (H : AHeap) (hr : Rds H v ls) (hl : ls.length ≤ 1000000000) (hok : ls.all okP = true) (i : Nat) (hi : i ≤ ls.length) (x n : Value) (p : List UInt8) : ∀ (t : List (List UInt8)) (k : Nat), (ls.take i).drop k = t →
    (t.all (agP p) = true → ∀ K : K, l_law_joined_2 v x n (.int .i64 (i : Int)) (.int .i64 (prI p)) (.string (mk (p.drop 8))) (.int .i64 (k : Int)) H (blkK [0, 10, 12, 15] 4 K) = K .normal [(0, v), (10, x), (12, n), (15, .int .i64 (i : Int))] H) ∧
    (t.all (agP p) = false → ∀ K : K, l_law_joined_2 v x n (.int .i64 (i : Int)) (.int .i64 (prI p)) (.string (mk (p.drop 8))) (.int .i64 (k : Int)) H (blkK [0, 10, 12, 15] 4 K) = K .ret [(2, .slice none 0 0), (3, .int .i64 11)] H)
  | [], k, hx => by
    have h : (ls.take i).length ≤ k := List.drop_eq_nil_iff.1 hx
    have hlt : ¬ (k : Int) < (i : Int) := by simp at h; omega
    exact ⟨fun _ K => by rw [r_law_joined_2]; simp (disch := first | with_reducible rfl | assumption | omega | rfl | (simp only [go_sem]; first | done | omega)) only [go_sem, ↓reduceIte, reduceCtorEq, Nat.reduceEqDiff, Nat.reduceAdd, Nat.reduceSub, Nat.reduceMul, Nat.reduceDiv, Nat.reduceMod, Nat.reduceLeDiff, Nat.reduceLT, Nat.reduceBEq, Int.reduceEq, Int.reduceBEq, Int.reduceBNe, Int.reduceLT, Int.reduceLE, Int.reduceAdd, Int.reduceSub, Int.reduceNeg, Int.reduceToNat, Int.reducePow, Nat.reducePow, Int.reduceMul, Int.reduceDiv, ↓s_law_joined_b2, hlt], fun h => by simp at h⟩
  | q :: t, k, hx => by
    obtain ⟨h, hxa, hx'⟩ := drop_cons hx
    have hk : k < i := by simp at h; omega
    have hlt : (k : Int) < (i : Int) := by omega
    have hkl : k < ls.length := by omega
    obtain ⟨b1, o1, y1, i1, c1, r1, _⟩ := hr.at hkl
    have hq : ls[k] = q := by rw [← hxa]; simp
    rw [hq] at r1
    have hoq : okP q = true := List.all_eq_true.1 hok q (by rw [← hq]; exact List.getElem_mem _)
    have hp := q_part q y1 H r1 (okP_len hoq).1
    obtain ⟨k1, k2⟩ := l_jd2 ls v H hr hl hok i hi x n p t (k + 1) hx'
    rw [List.all_cons]
    by_cases e1 : prI q = prI p
    · by_cases e2 : q.drop 8 = p.drop 8
      · have ea : agP p q = true := by simp [agP, e2]
        rw [ea]
        have e1' : (prI q = prI p) = True := by simp [e1]
        have e2' : (q.drop 8 = p.drop 8) = True := by simp [e2]
        refine ⟨fun h2 K => ?_, fun h2 K => ?_⟩
        · have := k1 (by simpa using h2) K
          rw [r_law_joined_2]
          simp (disch := first | with_reducible rfl | assumption | omega | rfl | (simp only [go_sem]; first | done | omega)) only [go_sem, ↓reduceIte, reduceCtorEq, Nat.reduceEqDiff, Nat.reduceAdd, Nat.reduceSub, Nat.reduceMul, Nat.reduceDiv, Nat.reduceMod, Nat.reduceLeDiff, Nat.reduceLT, Nat.reduceBEq, Int.reduceEq, Int.reduceBEq, Int.reduceBNe, Int.reduceLT, Int.reduceLE, Int.reduceAdd, Int.reduceSub, Int.reduceNeg, Int.reduceToNat, Int.reducePow, Nat.reducePow, Int.reduceMul, Int.reduceDiv, ↓s_law_joined_b2, hlt, i1, c1, enterK_eq hp, e1', e2', bl_mk]
          exact this
        · have := k2 (by simpa using h2) K
          rw [r_law_joined_2]
          simp (disch := first | with_reducible rfl | assumption | omega | rfl | (simp only [go_sem]; first | done | omega)) only [go_sem, ↓reduceIte, reduceCtorEq, Nat.reduceEqDiff, Nat.reduceAdd, Nat.reduceSub, Nat.reduceMul, Nat.reduceDiv, Nat.reduceMod, Nat.reduceLeDiff, Nat.reduceLT, Nat.reduceBEq, Int.reduceEq, Int.reduceBEq, Int.reduceBNe, Int.reduceLT, Int.reduceLE, Int.reduceAdd, Int.reduceSub, Int.reduceNeg, Int.reduceToNat, Int.reducePow, Nat.reducePow, Int.reduceMul, Int.reduceDiv, ↓s_law_joined_b2, hlt, i1, c1, enterK_eq hp, e1', e2', bl_mk]
          exact this
      · have ea : agP p q = false := by simp [agP, e1, e2]
        rw [ea]
        have e1' : (prI q = prI p) = True := by simp [e1]
        refine ⟨fun h2 => by simp at h2, fun h2 K => ?_⟩
        rw [r_law_joined_2]
        simp (disch := first | with_reducible rfl | assumption | omega | rfl | (simp only [go_sem]; first | done | omega)) only [go_sem, ↓reduceIte, reduceCtorEq, Nat.reduceEqDiff, Nat.reduceAdd, Nat.reduceSub, Nat.reduceMul, Nat.reduceDiv, Nat.reduceMod, Nat.reduceLeDiff, Nat.reduceLT, Nat.reduceBEq, Int.reduceEq, Int.reduceBEq, Int.reduceBNe, Int.reduceLT, Int.reduceLE, Int.reduceAdd, Int.reduceSub, Int.reduceNeg, Int.reduceToNat, Int.reducePow, Nat.reducePow, Int.reduceMul, Int.reduceDiv, ↓s_law_joined_b2, hlt, i1, c1, enterK_eq hp, e1', e2, bl_mk]
    · have ea : agP p q = true := by simp [agP, e1]
      rw [ea]
      refine ⟨fun h2 K => ?_, fun h2 K => ?_⟩
      · have := k1 (by simpa using h2) K
        rw [r_law_joined_2]
        simp (disch := first | with_reducible rfl | assumption | omega | rfl | (simp only [go_sem]; first | done | omega)) only [go_sem, ↓reduceIte, reduceCtorEq, Nat.reduceEqDiff, Nat.reduceAdd, Nat.reduceSub, Nat.reduceMul, Nat.reduceDiv, Nat.reduceMod, Nat.reduceLeDiff, Nat.reduceLT, Nat.reduceBEq, Int.reduceEq, Int.reduceBEq, Int.reduceBNe, Int.reduceLT, Int.reduceLE, Int.reduceAdd, Int.reduceSub, Int.reduceNeg, Int.reduceToNat, Int.reducePow, Nat.reducePow, Int.reduceMul, Int.reduceDiv, ↓s_law_joined_b2, hlt, i1, c1, enterK_eq hp, e1]
        exact this
      · have := k2 (by simpa using h2) K
        rw [r_law_joined_2]
        simp (disch := first | with_reducible rfl | assumption | omega | rfl | (simp only [go_sem]; first | done | omega)) only [go_sem, ↓reduceIte, reduceCtorEq, Nat.reduceEqDiff, Nat.reduceAdd, Nat.reduceSub, Nat.reduceMul, Nat.reduceDiv, Nat.reduceMod, Nat.reduceLeDiff, Nat.reduceLT, Nat.reduceBEq, Int.reduceEq, Int.reduceBEq, Int.reduceBNe, Int.reduceLT, Int.reduceLE, Int.reduceAdd, Int.reduceSub, Int.reduceNeg, Int.reduceToNat, Int.reducePow, Nat.reducePow, Int.reduceMul, Int.reduceDiv, ↓s_law_joined_b2, hlt, i1, c1, enterK_eq hp, e1]
        exact this

theorem l_jd1 (ls : List (List UInt8)) (v : Value) (H : AHeap) (hr : Rds H v ls) (hl : ls.length ≤ 1000000000) (hok : ls.all okP = true) (x n : Int) : ∀ (t : List (List UInt8)) (i : Nat), ls.drop i = t →
    (ok11 x n (ls.take i) t = true → ∀ K : K, l_law_joined_1 v (.int .i64 x) (.int .i64 n) (.int .i64 (i : Int)) H (blkK [0, 10, 12] 2 K) = K .normal [(0, v), (10, .int .i64 x), (12, .int .i64 n)] H) ∧
    (ok11 x n (ls.take i) t = false → ∀ K : K, l_law_joined_1 v (.int .i64 x) (.int .i64 n) (.int .i64 (i : Int)) H (blkK [0, 10, 12] 2 K) = K .ret [(2, .slice none 0 0), (3, .int .i64 11)] H)
  | [], i, hx => by
    have h : ls.length ≤ i := List.drop_eq_nil_iff.1 hx
    have hlt : ¬ (i : Int) < (ls.length : Int) := by omega
    have hlen := hr.lenS
    exact ⟨fun _ K => by rw [r_law_joined_1]; simp (disch := first | with_reducible rfl | assumption | omega | rfl | (simp only [go_sem]; first | done | omega)) only [go_sem, ↓reduceIte, reduceCtorEq, Nat.reduceEqDiff, Nat.reduceAdd, Nat.reduceSub, Nat.reduceMul, Nat.reduceDiv, Nat.reduceMod, Nat.reduceLeDiff, Nat.reduceLT, Nat.reduceBEq, Int.reduceEq, Int.reduceBEq, Int.reduceBNe, Int.reduceLT, Int.reduceLE, Int.reduceAdd, Int.reduceSub, Int.reduceNeg, Int.reduceToNat, Int.reducePow, Nat.reducePow, Int.reduceMul, Int.reduceDiv, ↓s_law_joined_b1, hlen, hlt], fun h => by simp [ok11] at h⟩
  | p :: t, i, hx => by
    obtain ⟨h, hxa, hx'⟩ := drop_cons hx
    have hlt : (i : Int) < (ls.length : Int) := by omega
    have hlen := hr.lenS
    obtain ⟨b1, o1, y1, i1, c1, r1, _⟩ := hr.at h
    rw [hxa] at r1
    have hop : okP p = true := List.all_eq_true.1 hok p (by rw [← hxa]; exact List.getElem_mem _)
    have hp := q_part p y1 H r1 (okP_len hop).1
    obtain ⟨k1, k2⟩ := l_jd1 ls v H hr hl hok x n t (i + 1) hx'
    have htk : ls.take (i + 1) = ls.take i ++ [p] := by rw [← hxa]; exact List.take_succ_eq_append_getElem h
    rw [htk] at k1 k2
    have z2 : (ls.take i).all (agP p) = true → ∀ K : K, l_law_joined_2 v (.int .i64 x) (.int .i64 n) (.int .i64 (i : Int)) (.int .i64 (prI p)) (.string (mk (p.drop 8))) (.int .i64 0) H (blkK [0, 10, 12, 15] 4 K) = K .normal [(0, v), (10, .int .i64 x), (12, .int .i64 n), (15, .int .i64 (i : Int))] H := (l_jd2 ls v H hr hl hok i (by omega) (.int .i64 x) (.int .i64 n) p (ls.take i) 0 (by simp)).1
    have z3 : (ls.take i).all (agP p) = false → ∀ K : K, l_law_joined_2 v (.int .i64 x) (.int .i64 n) (.int .i64 (i : Int)) (.int .i64 (prI p)) (.string (mk (p.drop 8))) (.int .i64 0) H (blkK [0, 10, 12, 15] 4 K) = K .ret [(2, .slice none 0 0), (3, .int .i64 11)] H := (l_jd2 ls v H hr hl hok i (by omega) (.int .i64 x) (.int .i64 n) p (ls.take i) 0 (by simp)).2
    rw [ok11]
    by_cases e1 : prX p = x
    · by_cases e2 : prN p = n
      · have e1' : (prX p = x) = True := by simp [e1]
        have e2' : (prN p = n) = True := by simp [e2]
        cases ha : (ls.take i).all (agP p) with
        | true =>
          have z := z2 ha
          have ec : cdP (ls.take i) x n p = true := by simp [cdP, e1, e2, ha]
          rw [ec]
          refine ⟨fun h2 K => ?_, fun h2 K => ?_⟩
          · have := k1 (by simpa using h2) K
            rw [r_law_joined_1]
            simp (disch := first | with_reducible rfl | assumption | omega | rfl | (simp only [go_sem]; first | done | omega)) only [go_sem, ↓reduceIte, reduceCtorEq, Nat.reduceEqDiff, Nat.reduceAdd, Nat.reduceSub, Nat.reduceMul, Nat.reduceDiv, Nat.reduceMod, Nat.reduceLeDiff, Nat.reduceLT, Nat.reduceBEq, Int.reduceEq, Int.reduceBEq, Int.reduceBNe, Int.reduceLT, Int.reduceLE, Int.reduceAdd, Int.reduceSub, Int.reduceNeg, Int.reduceToNat, Int.reducePow, Nat.reducePow, Int.reduceMul, Int.reduceDiv, ↓s_law_joined_b1, hlen, hlt, i1, c1, enterK_eq hp, e1', e2', z]
            exact this
          · have := k2 (by simpa using h2) K
            rw [r_law_joined_1]
            simp (disch := first | with_reducible rfl | assumption | omega | rfl | (simp only [go_sem]; first | done | omega)) only [go_sem, ↓reduceIte, reduceCtorEq, Nat.reduceEqDiff, Nat.reduceAdd, Nat.reduceSub, Nat.reduceMul, Nat.reduceDiv, Nat.reduceMod, Nat.reduceLeDiff, Nat.reduceLT, Nat.reduceBEq, Int.reduceEq, Int.reduceBEq, Int.reduceBNe, Int.reduceLT, Int.reduceLE, Int.reduceAdd, Int.reduceSub, Int.reduceNeg, Int.reduceToNat, Int.reducePow, Nat.reducePow, Int.reduceMul, Int.reduceDiv, ↓s_law_joined_b1, hlen, hlt, i1, c1, enterK_eq hp, e1', e2', z]
            exact this
        | false =>
          have z := z3 ha
          have ec : cdP (ls.take i) x n p = false := by simp [cdP, ha]
          rw [ec]
          refine ⟨fun h2 => by simp at h2, fun h2 K => ?_⟩
          rw [r_law_joined_1]
          simp (disch := first | with_reducible rfl | assumption | omega | rfl | (simp only [go_sem]; first | done | omega)) only [go_sem, ↓reduceIte, reduceCtorEq, Nat.reduceEqDiff, Nat.reduceAdd, Nat.reduceSub, Nat.reduceMul, Nat.reduceDiv, Nat.reduceMod, Nat.reduceLeDiff, Nat.reduceLT, Nat.reduceBEq, Int.reduceEq, Int.reduceBEq, Int.reduceBNe, Int.reduceLT, Int.reduceLE, Int.reduceAdd, Int.reduceSub, Int.reduceNeg, Int.reduceToNat, Int.reducePow, Nat.reducePow, Int.reduceMul, Int.reduceDiv, ↓s_law_joined_b1, hlen, hlt, i1, c1, enterK_eq hp, e1', e2', z]
      · have e1' : (prX p = x) = True := by simp [e1]
        have ec : cdP (ls.take i) x n p = false := by simp [cdP, e2]
        rw [ec]
        refine ⟨fun h2 => by simp at h2, fun h2 K => ?_⟩
        rw [r_law_joined_1]
        simp (disch := first | with_reducible rfl | assumption | omega | rfl | (simp only [go_sem]; first | done | omega)) only [go_sem, ↓reduceIte, reduceCtorEq, Nat.reduceEqDiff, Nat.reduceAdd, Nat.reduceSub, Nat.reduceMul, Nat.reduceDiv, Nat.reduceMod, Nat.reduceLeDiff, Nat.reduceLT, Nat.reduceBEq, Int.reduceEq, Int.reduceBEq, Int.reduceBNe, Int.reduceLT, Int.reduceLE, Int.reduceAdd, Int.reduceSub, Int.reduceNeg, Int.reduceToNat, Int.reducePow, Nat.reducePow, Int.reduceMul, Int.reduceDiv, ↓s_law_joined_b1, hlen, hlt, i1, c1, enterK_eq hp, e1', e2]
    · have ec : cdP (ls.take i) x n p = false := by simp [cdP, e1]
      rw [ec]
      refine ⟨fun h2 => by simp at h2, fun h2 K => ?_⟩
      rw [r_law_joined_1]
      simp (disch := first | with_reducible rfl | assumption | omega | rfl | (simp only [go_sem]; first | done | omega)) only [go_sem, ↓reduceIte, reduceCtorEq, Nat.reduceEqDiff, Nat.reduceAdd, Nat.reduceSub, Nat.reduceMul, Nat.reduceDiv, Nat.reduceMod, Nat.reduceLeDiff, Nat.reduceLT, Nat.reduceBEq, Int.reduceEq, Int.reduceBEq, Int.reduceBNe, Int.reduceLT, Int.reduceLE, Int.reduceAdd, Int.reduceSub, Int.reduceNeg, Int.reduceToNat, Int.reducePow, Nat.reducePow, Int.reduceMul, Int.reduceDiv, ↓s_law_joined_b1, hlen, hlt, i1, c1, enterK_eq hp, e1]

end Go.Proofs.Ytehnchfnhbmkdaa
