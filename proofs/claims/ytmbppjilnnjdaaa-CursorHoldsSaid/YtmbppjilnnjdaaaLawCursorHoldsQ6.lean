/-
  5 texts in one (merge.py): Ha Hb Hc Hd LawCursorHolds.
  Conditions: none. By an AI agent.
-/
import Derived.Test.YtmbppjilnnjdaaaLawCursorHoldsQ5
import Derived.Test.YtmbppjilnnjdaaaRows
import Derived.WalkKit
import Derived.ProofKit
import Derived.OpenShut
import Derived.ShutString
import Derived.ChangeOld
import Derived.Below
import Derived.SizedLaws
import Derived.ChangeArms
import Derived.Carry

/-
  Chapter 42: the law CursorHolds: its parts, and its first four loops (printed by gen_ha.py).
  Conditions: none. By an AI agent.
-/
set_option maxRecDepth 10000
set_option linter.unusedSimpArgs false
set_option linter.unusedVariables false
namespace Go.Proofs.Ytmbppjilnnjdaaa
open Go Eng

/-! ### Parts (out of the printed text) -/
noncomputable def hP3 (k25 : K) (tT_3 : Env) (h83 : AHeap) : Res :=
bareK (ldN 2 h83 (get tT_3 18)) h83 fun t192 h84 =>
bothK (bldL T.api_Pair [(.string (mk [])), (.string (mk []))] 1 [(0, t192)] h84) fun t193 h85 =>
bothK (app T.api_Pair 2 32 (get tT_3 14) (srcS 2 t193 h85) h85) fun t194 h86 =>
k25 .normal [(3, (get tT_3 3)), (9, (get tT_3 9)), (11, (get tT_3 11)), (13, (get tT_3 13)), (14, t194), (17, (get tT_3 17))] h86

noncomputable def hP2 (k25 : K) (tT_2 : Env) (h54 : AHeap) : Res :=
enterK CC F.cursor_Cursor_Copy [(get tT_2 11)] h54 fun t160 h55 =>
bareK (xbin Try.prog .gtr T.int (.tmp 161) (.const (.int .i64 0)) (get tT_2 17) (.int .i64 0)) h55 fun t162 h56 =>
guardK t162 true (fun o38 => o38 t160 h56) h56 fun t164 h57 =>
guardK t162 true (fun o39 => o39 (get tT_2 9) h57) h57 fun t165 h58 =>
guardK t162 true (fun o40 => o40 (get tT_2 13) h58) h58 fun t166 h59 =>
guardK t162 true (fun o41 => o41 (get tT_2 17) h59) h59 fun t167 h60 =>
guardK t162 true (fun o42 => bareK (xbin Try.prog .sub T.int (.tmp 167) (.const (.int .i64 1)) t167 (.int .i64 1)) h60 o42) h60 fun t168 h61 =>
guardK t162 true (fun o43 => bareK (ixS 2 t166 t168) h61 o43) h61 fun t169 h62 =>
guardK t162 true (fun o44 => bareK (fad 0 t169) h62 o44) h62 fun t170 h63 =>
guardK t162 true (fun o45 => bareK (ld1 h63 t170) h63 o45) h63 fun t171 h64 =>
guardK t162 true (fun o46 => o46 (get tT_2 13) h64) h64 fun t172 h65 =>
guardK t162 true (fun o47 => o47 (get tT_2 17) h65) h65 fun t173 h66 =>
guardK t162 true (fun o48 => bareK (xbin Try.prog .sub T.int (.tmp 173) (.const (.int .i64 1)) t173 (.int .i64 1)) h66 o48) h66 fun t174 h67 =>
guardK t162 true (fun o49 => bareK (ixS 2 t172 t174) h67 o49) h67 fun t175 h68 =>
guardK t162 true (fun o50 => bareK (fad 1 t175) h68 o50) h68 fun t176 h69 =>
guardK t162 true (fun o51 => bareK (ld1 h69 t176) h69 o51) h69 fun t177 h70 =>
guardK t162 true (fun o52 => enterK CC F.law_prev [t164, t165, t171, t177, (.int .i64 0)] h70 o52) h70 fun t178 h71 =>
guardK t162 true (fun o53 => bareK (xun Try.prog .not t178) h71 o53) h71 fun t179 h72 =>
guardK t162 true (fun o54 => o54 t179 h72) h72 fun t180 h73 =>
guardK t180 false (fun o55 => o55 t160 h73) h73 fun t181 h74 =>
guardK t180 false (fun o56 => o56 (get tT_2 9) h74) h74 fun t182 h75 =>
guardK t180 false (fun o57 => bareK (fad 0 (get tT_2 18)) h75 o57) h75 fun t183 h76 =>
guardK t180 false (fun o58 => bareK (ld1 h76 t183) h76 o58) h76 fun t184 h77 =>
guardK t180 false (fun o59 => bareK (fad 1 (get tT_2 18)) h77 o59) h77 fun t185 h78 =>
guardK t180 false (fun o60 => bareK (ld1 h78 t185) h78 o60) h78 fun t186 h79 =>
guardK t180 false (fun o61 => enterK CC F.law_next [t181, t182, t184, t186, (.int .i64 0)] h79 o61) h79 fun t187 h80 =>
guardK t180 false (fun o62 => bareK (xun Try.prog .not t187) h80 o62) h80 fun t188 h81 =>
guardK t162 true (fun o63 => pickK t180 (.bool true) t188 fun v => o63 v h81) h81 fun t189 h82 =>
pickK t162 t189 (.bool false) fun t190 =>
checkK true <|
condL t190 (fun k64 => k64 .ret [(8, (.bool false))] h82) (fun k64 =>
k64 .normal [(3, (get tT_2 3)), (9, (get tT_2 9)), (11, (get tT_2 11)), (13, (get tT_2 13)), (14, (get tT_2 14)), (17, (get tT_2 17)), (18, (get tT_2 18))] h82) (seqK (hP3 k25) (blkK [3, 9, 11, 13, 14, 17] 5 k25))

noncomputable def hB2 (v3 v9 v11 v13 v14 v17 : Value) (H : AHeap) (k : K) : Res :=
bareK (lenS v13) H fun t131 h33 =>
bareK (xbin Try.prog .leq T.int (.tmp 129) (.tmp 131) v17 t131) h33 fun t132 h34 =>
condL t132 (fun k24 => k24 .normal [(3, v3), (9, v9), (11, v11), (13, v13), (14, v14), (17, v17)] h34) (fun k24 =>
k24 (.exit 4) [(132, t132), (131, t131), (130, v13), (129, v17), (3, v3), (9, v9), (11, v11), (13, v13), (14, v14), (17, v17)] h34) (seqK (fun tT h35 =>
shareL (fun k25 =>
enterK CC F.cursor_Cursor_Next [(get tT 11), (get tT 9)] h35 fun t138 h36 =>
bareK (xextract t138 0) h36 fun t139 h37 =>
bareK (xextract t138 1) h37 fun t140 h38 =>
bothK (newv T.api_Pair (.agg #[(.string (mk [])), (.string (mk []))]) h38) fun t18 h39 =>
quietK (stN 2 h39 t18 t139) fun _ h40 =>
bareK (xbin Try.prog .eql T.api_Errno (.tmp 141) (.const (.int .i64 17)) t140 (.int .i64 17)) h40 fun t142 h41 =>
condL t142 (fun k26 => k26 (.exit 4) ((142, t142) :: (141, t140) :: (19, t140) :: (18, t18) :: (140, t140) :: (139, t139) :: (135, t138) :: (138, t138) :: (137, (get tT 9)) :: (136, (get tT 11)) :: tT) h41) (fun k26 =>
k26 .normal [(3, (get tT 3)), (9, (get tT 9)), (11, (get tT 11)), (13, (get tT 13)), (14, (get tT 14)), (17, (get tT 17)), (18, t18), (19, t140)] h41) (seqK (fun tT_1 h42 =>
bareK (xbin Try.prog .neq T.api_Errno (.tmp 143) (.const (.int .i64 0)) (get tT_1 19) (.int .i64 0)) h42 fun t144 h43 =>
guardK t144 false (fun o27 => o27 (get tT_1 17) h43) h43 fun t146 h44 =>
guardK t144 false (fun o28 => o28 (get tT_1 13) h44) h44 fun t147 h45 =>
guardK t144 false (fun o29 => bareK (lenS t147) h45 o29) h45 fun t148 h46 =>
guardK t144 false (fun o30 => bareK (xbin Try.prog .geq T.int (.tmp 146) (.tmp 148) t146 t148) h46 o30) h46 fun t149 h47 =>
pickK t144 (.bool true) t149 fun t150 =>
guardK t150 false (fun o31 => bareK (ldN 2 h47 (get tT_1 18)) h47 o31) h47 fun t152 h48 =>
guardK t150 false (fun o32 => o32 (get tT_1 13) h48) h48 fun t153 h49 =>
guardK t150 false (fun o33 => o33 (get tT_1 17) h49) h49 fun t154 h50 =>
guardK t150 false (fun o34 => bareK (ixS 2 t153 t154) h50 o34) h50 fun t155 h51 =>
guardK t150 false (fun o35 => bareK (ldN 2 h51 t155) h51 o35) h51 fun t156 h52 =>
guardK t150 false (fun o36 => bareK (xbin Try.prog .neq T.api_Pair (.tmp 152) (.tmp 156) t152 t156) h52 o36) h52 fun t157 h53 =>
pickK t150 (.bool true) t157 fun t158 =>
checkK true <|
condL t158 (fun k37 => k37 .ret [(8, (.bool false))] h53) (fun k37 =>
k37 .normal [(3, (get tT_1 3)), (9, (get tT_1 9)), (11, (get tT_1 11)), (13, (get tT_1 13)), (14, (get tT_1 14)), (17, (get tT_1 17)), (18, (get tT_1 18))] h53) (seqK (hP2 k25) (blkK [3, 9, 11, 13, 14, 17] 5 k25))) (blkK [3, 9, 11, 13, 14, 17] 5 k25))) (seqK (fun tT_4 h87 =>
bareK (xbin Try.prog .add T.int (.tmp 133) (.const (.int .i64 1)) (get tT_4 17) (.int .i64 1)) h87 fun t134 h88 =>
k .normal [(3, (get tT_4 3)), (9, (get tT_4 9)), (11, (get tT_4 11)), (13, (get tT_4 13)), (14, (get tT_4 14)), (17, t134)] h88) (afterK [3, 9, 11, 13, 14, 17] k))) (afterK [3, 9, 11, 13, 14, 17] k))

theorem r_hB2 (v3 v9 v11 v13 v14 v17 : Value) (H : AHeap) (k : K) : l_law_CursorHolds_2 v3 v9 v11 v13 v14 v17 H k = hB2 v3 v9 v11 v13 v14 v17 H (seqK (fun T H => l_law_CursorHolds_2 (get T 3) (get T 9) (get T 11) (get T 13) (get T 14) (get T 17) H k) k) := (r_law_CursorHolds_2 v3 v9 v11 v13 v14 v17 H k).trans (by kernel_rfl)

noncomputable def hP4 (k35 : K) (tT_1 : Env) (h60 : AHeap) : Res :=
bareK (fad 0 (get tT_1 26)) h60 fun t251 h61 =>
bareK (ld1 h61 t251) h61 fun t252 h62 =>
bothK (bldL T.string [(.string (mk []))] 1 [(0, t252)] h62) fun t253 h63 =>
bothK (app T.string 1 16 (get tT_1 23) (srcS 1 t253 h63) h63) fun t254 h64 =>
bareK (lenS (get tT_1 3)) h64 fun t257 h65 =>
bareK (xbin Try.prog .lss T.int (.tmp 255) (.tmp 257) (get tT_1 25) t257) h65 fun t258 h66 =>
condL t258 (fun k37 => bareK (ixS 3 (get tT_1 3) (get tT_1 25)) h66 fun t262 h67 =>
bareK (fad 1 t262) h67 fun t263 h68 =>
bareK (ld1 h68 t263) h68 fun t264 h69 =>
quietK (xmapUpdate Try.prog T.map_string_bool (get tT_1 24) t264 (.bool true) h69) fun _ h70 =>
bareK (ixS 3 (get tT_1 3) (get tT_1 25)) h70 fun t267 h71 =>
bareK (fad 0 t267) h71 fun t268 h72 =>
bareK (ld1 h72 t268) h72 fun t269 h73 =>
bareK (xbin Try.prog .eql T.int (.tmp 269) (.const (.int .i64 3)) t269 (.int .i64 3)) h73 fun t270 h74 =>
condL t270 (fun k38 => bareK (ixS 3 (get tT_1 3) (get tT_1 25)) h74 fun t274 h75 =>
bareK (fad 1 t274) h75 fun t275 h76 =>
bareK (ld1 h76 t275) h76 fun t276 h77 =>
bareK (ixS 3 (get tT_1 3) (get tT_1 25)) h77 fun t279 h78 =>
bareK (fad 2 t279) h78 fun t280 h79 =>
bareK (ld1 h79 t280) h79 fun t281 h80 =>
enterK CC F.model_Model_Put [(get tT_1 9), t276, t281] h80 fun t282 h81 =>
checkK true <|
k38 .normal [(3, (get tT_1 3)), (9, (get tT_1 9)), (11, (get tT_1 11)), (13, (get tT_1 13)), (22, (get tT_1 22)), (23, t254), (24, (get tT_1 24)), (25, (get tT_1 25))] h81) (fun k38 =>
bareK (ixS 3 (get tT_1 3) (get tT_1 25)) h74 fun t286 h82 =>
bareK (fad 1 t286) h82 fun t287 h83 =>
bareK (ld1 h83 t287) h83 fun t288 h84 =>
enterK CC F.model_Model_Delete [(get tT_1 9), t288] h84 fun t289 h85 =>
k38 .normal [(3, (get tT_1 3)), (9, (get tT_1 9)), (11, (get tT_1 11)), (13, (get tT_1 13)), (22, (get tT_1 22)), (23, t254), (24, (get tT_1 24)), (25, (get tT_1 25))] h85) (afterK [3, 9, 11, 13, 22, 23, 24, 25] k37)) (fun k37 =>
k37 .normal [(3, (get tT_1 3)), (9, (get tT_1 9)), (11, (get tT_1 11)), (13, (get tT_1 13)), (22, (get tT_1 22)), (23, t254), (24, (get tT_1 24)), (25, (get tT_1 25))] h66) (blkK [3, 9, 11, 13, 22, 23, 24, 25] 9 k35)

noncomputable def hB4 (v3 v9 v11 v13 v22 v23 v24 v25 : Value) (H : AHeap) (k : K) : Res :=
bareK (xbin Try.prog .lss T.int (.tmp 238) (.const (.int .i64 64)) v25 (.int .i64 64)) H fun t239 h52 =>
condL t239 (fun k34 => k34 .normal [(3, v3), (9, v9), (11, v11), (13, v13), (22, v22), (23, v23), (24, v24), (25, v25)] h52) (fun k34 =>
k34 (.exit 8) [(239, t239), (238, v25), (3, v3), (9, v9), (11, v11), (13, v13), (22, v22), (23, v23), (24, v24), (25, v25)] h52) (seqK (fun tT h53 =>
shareL (fun k35 =>
enterK CC F.cursor_Cursor_Next [(get tT 11), (get tT 9)] h53 fun t245 h54 =>
bareK (xextract t245 0) h54 fun t246 h55 =>
bareK (xextract t245 1) h55 fun t247 h56 =>
bothK (newv T.api_Pair (.agg #[(.string (mk [])), (.string (mk []))]) h56) fun t26 h57 =>
quietK (stN 2 h57 t26 t246) fun _ h58 =>
bareK (xbin Try.prog .neq T.api_Errno (.tmp 248) (.const (.int .i64 0)) t247 (.int .i64 0)) h58 fun t249 h59 =>
condL t249 (fun k36 => k36 (.exit 8) ((249, t249) :: (248, t247) :: (27, t247) :: (26, t26) :: (247, t247) :: (246, t246) :: (242, t245) :: (245, t245) :: (244, (get tT 9)) :: (243, (get tT 11)) :: tT) h59) (fun k36 =>
k36 .normal [(3, (get tT 3)), (9, (get tT 9)), (11, (get tT 11)), (13, (get tT 13)), (22, (get tT 22)), (23, (get tT 23)), (24, (get tT 24)), (25, (get tT 25)), (26, t26)] h59) (seqK (hP4 k35) (blkK [3, 9, 11, 13, 22, 23, 24, 25] 9 k35))) (seqK (fun tT_2 h86 =>
bareK (xbin Try.prog .add T.int (.tmp 240) (.const (.int .i64 1)) (get tT_2 25) (.int .i64 1)) h86 fun t241 h87 =>
k .normal [(3, (get tT_2 3)), (9, (get tT_2 9)), (11, (get tT_2 11)), (13, (get tT_2 13)), (22, (get tT_2 22)), (23, (get tT_2 23)), (24, (get tT_2 24)), (25, t241)] h87) (afterK [3, 9, 11, 13, 22, 23, 24, 25] k))) (afterK [3, 9, 11, 13, 22, 23, 24, 25] k))

theorem r_hB4 (v3 v9 v11 v13 v22 v23 v24 v25 : Value) (H : AHeap) (k : K) : l_law_CursorHolds_4 v3 v9 v11 v13 v22 v23 v24 v25 H k = hB4 v3 v9 v11 v13 v22 v23 v24 v25 H (seqK (fun T H => l_law_CursorHolds_4 (get T 3) (get T 9) (get T 11) (get T 13) (get T 22) (get T 23) (get T 24) (get T 25) H k) k) := (r_law_CursorHolds_4 v3 v9 v11 v13 v22 v23 v24 v25 H k).trans (by kernel_rfl)

noncomputable def hM9 (K0 : K) (tT_9 : Env) (h53 : AHeap) : Res :=
shareL (fun k35 =>
l_law_CursorHolds_7 (get tT_9 23) (.int .i64 1) h53 (blkK [] 14 k35)) (seqK (fun tT_10 h54 =>
enterK CC F.law_known [] h54 fun t351 h55 =>
K0 .ret [(8, t351)] h55) K0)

noncomputable def hM8 (K0 : K) (tT_8 : Env) (h52 : AHeap) : Res :=
shareL (fun k34 =>
l_law_CursorHolds_5 (get tT_8 13) (get tT_8 22) (get tT_8 23) (get tT_8 24) (.int .i64 0) h52 (blkK [23] 10 k34)) (seqK (hM9 K0) K0)

noncomputable def hM7 (K0 : K) (tT_7 : Env) (h49 : AHeap) : Res :=
enterK CC F.model_Model_Copy [(get tT_7 9)] h49 fun t236 h50 =>
bothK (xmakeMap Try.prog T.map_string_bool none h50) fun t237 h51 =>
shareL (fun k33 =>
l_law_CursorHolds_4 (get tT_7 3) (get tT_7 9) (get tT_7 11) (get tT_7 13) t236 (.slice none 0 0) t237 (.int .i64 0) h51 (blkK [13, 22, 23, 24] 8 k33)) (seqK (hM8 K0) K0)

noncomputable def hM5 (K0 : K) (tT_5 : Env) (h40 : AHeap) : Res :=
bareK (lenS (get tT_5 13)) h40 fun t206 h41 =>
bareK (xbin Try.prog .sub T.int (.tmp 206) (.const (.int .i64 1)) t206 (.int .i64 1)) h41 fun t207 h42 =>
shareL (fun k28 =>
l_law_CursorHolds_3 (get tT_5 3) (get tT_5 9) (get tT_5 11) (get tT_5 13) t207 h42 (blkK [3, 9, 11, 13] 6 k28)) (seqK (fun tT_6 h43 =>
enterK CC F.law_prev [(get tT_6 11), (get tT_6 9), (.string (mk [])), (.string (mk [])), (.int .i64 17)] h43 fun t228 h44 =>
bareK (xun Try.prog .not t228) h44 fun t229 h45 =>
guardK t229 false (fun o29 => o29 (get tT_6 11) h45) h45 fun t231 h46 =>
guardK t229 false (fun o30 => enterK CC F.cursor_Cursor_Before [t231] h46 o30) h46 fun t232 h47 =>
guardK t229 false (fun o31 => bareK (xun Try.prog .not t232) h47 o31) h47 fun t233 h48 =>
pickK t229 (.bool true) t233 fun t234 =>
condL t234 (fun k32 => k32 .ret [(8, (.bool false))] h48) (fun k32 =>
k32 .normal [(3, (get tT_6 3)), (9, (get tT_6 9)), (11, (get tT_6 11)), (13, (get tT_6 13))] h48) (seqK (hM7 K0) K0)) K0)

noncomputable def hM3 (K0 : K) (tT_3 : Env) (h32 : AHeap) : Res :=
shareL (fun k23 =>
l_law_CursorHolds_2 (get tT_3 3) (get tT_3 9) (get tT_3 11) (get tT_3 13) (get tT_3 14) (.int .i64 0) h32 (blkK [3, 9, 11, 13, 14] 4 k23)) (seqK (fun tT_4 h33 =>
bareK (lenS (get tT_4 14)) h33 fun t196 h34 =>
bareK (lenS (get tT_4 13)) h34 fun t198 h35 =>
bareK (xbin Try.prog .neq T.int (.tmp 196) (.tmp 198) t196 t198) h35 fun t199 h36 =>
guardK t199 false (fun o24 => o24 (get tT_4 11) h36) h36 fun t201 h37 =>
guardK t199 false (fun o25 => enterK CC F.cursor_Cursor_Behind [t201] h37 o25) h37 fun t202 h38 =>
guardK t199 false (fun o26 => bareK (xun Try.prog .not t202) h38 o26) h38 fun t203 h39 =>
pickK t199 (.bool true) t203 fun t204 =>
condL t204 (fun k27 => k27 .ret [(8, (.bool false))] h39) (fun k27 =>
k27 .normal [(3, (get tT_4 3)), (9, (get tT_4 9)), (11, (get tT_4 11)), (13, (get tT_4 13))] h39) (seqK (hM5 K0) K0)) K0)

noncomputable def hM0 (K0 : K) (tT : Env) (h20 : AHeap) : Res :=
bareK (bldS #[(.slice none 0 0)] [(0, 1)] []) h20 fun t62 h21 =>
bothK (newv T.model_Model t62 h21) fun t63 h22 =>
shareL (fun k18 =>
l_law_CursorHolds_0 (get tT 0) (get tT 1) (get tT 2) (get tT 3) t63 (.int .i64 0) h22 (blkK [0, 1, 3, 9] 0 k18)) (seqK (fun tT_1 h23 =>
enterK CC F.cursor_New [(get tT_1 0), (get tT_1 1)] h23 fun t85 h24 =>
bareK (xextract t85 0) h24 fun t86 h25 =>
bareK (xextract t85 1) h25 fun t87 h26 =>
bareK (xbin Try.prog .eql T.p_cursor_Cursor (.tmp 88) (.const (.pointer none)) t86 (.pointer none)) h26 fun t89 h27 =>
guardK t89 false (fun o19 => o19 t87 h27) h27 fun t91 h28 =>
guardK t89 false (fun o20 => bareK (xbin Try.prog .neq T.api_Errno (.tmp 91) (.const (.int .i64 0)) t91 (.int .i64 0)) h28 o20) h28 fun t92 h29 =>
pickK t89 (.bool true) t92 fun t93 =>
condL t93 (fun k21 => k21 .ret [(8, (.bool false))] h29) (fun k21 =>
k21 .normal [(0, (get tT_1 0)), (1, (get tT_1 1)), (3, (get tT_1 3)), (9, (get tT_1 9)), (11, t86)] h29) (seqK (fun tT_2 h30 =>
enterK CC F.model_Model_Pairs [(get tT_2 9)] h30 fun t95 h31 =>
shareL (fun k22 =>
l_law_CursorHolds_1 (get tT_2 0) (get tT_2 1) (get tT_2 3) (get tT_2 9) (get tT_2 11) (.slice none 0 0) (.slice none 0 0) t95 (.int .i64 0) h31 (blkK [3, 9, 11, 13, 14] 2 k22)) (seqK (hM3 K0) K0)) K0)) K0)

noncomputable def hM (a0 a1 a2 a3 : Value) (H : AHeap) (K0 : K) : Res :=
bareK (lenT a0) H fun t35 h1 =>
bareK (xbin Try.prog .gtr T.int (.tmp 35) (.const (.int .i64 24)) t35 (.int .i64 24)) h1 fun t36 h2 =>
guardK t36 false (fun o1 => o1 a1 h2) h2 fun t38 h3 =>
guardK t36 false (fun o2 => bareK (lenT t38) h3 o2) h3 fun t39 h4 =>
guardK t36 false (fun o3 => bareK (xbin Try.prog .gtr T.int (.tmp 39) (.const (.int .i64 24)) t39 (.int .i64 24)) h4 o3) h4 fun t40 h5 =>
pickK t36 (.bool true) t40 fun t41 =>
guardK t41 false (fun o4 => o4 a1 h5) h5 fun t43 h6 =>
guardK t41 false (fun o5 => bareK (xbin Try.prog .neq T.string (.tmp 43) (.const (.string (mk []))) t43 (.string (mk []))) h6 o5) h6 fun t44 h7 =>
guardK t41 false (fun o6 => o6 t44 h7) h7 fun t45 h8 =>
guardK t45 true (fun o7 => o7 a1 h8) h8 fun t46 h9 =>
guardK t45 true (fun o8 => o8 a0 h9) h9 fun t47 h10 =>
guardK t45 true (fun o9 => bareK (xbin Try.prog .leq T.string (.tmp 46) (.tmp 47) t46 t47) h10 o9) h10 fun t48 h11 =>
guardK t41 false (fun o10 => pickK t45 t48 (.bool false) fun v => o10 v h11) h11 fun t49 h12 =>
pickK t41 (.bool true) t49 fun t50 =>
guardK t50 false (fun o11 => o11 a2 h12) h12 fun t52 h13 =>
guardK t50 false (fun o12 => enterK CC F.law_small [t52, (.int .i64 16)] h13 o12) h13 fun t53 h14 =>
guardK t50 false (fun o13 => bareK (xun Try.prog .not t53) h14 o13) h14 fun t54 h15 =>
pickK t50 (.bool true) t54 fun t55 =>
guardK t55 false (fun o14 => o14 a3 h15) h15 fun t57 h16 =>
guardK t55 false (fun o15 => enterK CC F.law_small [t57, (.int .i64 16)] h16 o15) h16 fun t58 h17 =>
guardK t55 false (fun o16 => bareK (xun Try.prog .not t58) h17 o16) h17 fun t59 h18 =>
pickK t55 (.bool true) t59 fun t60 =>
condL t60 (fun k17 => enterK CC F.law_known [] h18 fun t61 h19 =>
k17 .ret [(8, t61)] h19) (fun k17 =>
k17 .normal [(0, a0), (1, a1), (2, a2), (3, a3)] h18) (seqK (hM0 K0) K0)

theorem s_hM (a0 a1 a2 a3 : Value) (H : AHeap) (K0 : K) : s_law_CursorHolds guardK condL shareL Try.prog CC l_law_CursorHolds_0 l_law_CursorHolds_1 l_law_CursorHolds_2 l_law_CursorHolds_3 l_law_CursorHolds_4 l_law_CursorHolds_5 l_law_CursorHolds_6 l_law_CursorHolds_7 a0 a1 a2 a3 H K0 = hM a0 a1 a2 a3 H K0 := by kernel_rfl


/-! ### The map -/
def prA (a : Act) : Pr := ⟨a.key, a.value⟩
def fillA (m : List Pr) (l : List Act) : List Pr := l.foldl (fun m a => (putE m (prA a)).2) m
theorem put_len (l : List Pr) (a : Pr) : (putE l a).2.length ≤ l.length + 1 := by
  unfold putE putP
  split
  · split
    · simp
    · split
      · simp
      · simp; omega
  · simp
theorem allOk_putE {m : List Pr} (h : AllOk m) (a : Pr) : AllOk (putE m a).2 := by
  unfold putE
  split
  · rename_i hc; exact allOk_put h hc _
  · exact h
theorem fillA_ok : ∀ (l : List Act) (m : List Pr), Srt m → AllOk m → m.length + l.length ≤ 20000 → Srt (fillA m l) ∧ AllOk (fillA m l) ∧ (fillA m l).length ≤ m.length + l.length
  | [], m, hs, ho, _ => ⟨hs, ho, Nat.le_refl _⟩
  | a :: l, m, hs, ho, hl => by
    simp only [List.length_cons] at hl
    have h1 := put_len m (prA a)
    obtain ⟨r1, r2, r3⟩ := fillA_ok l (putE m (prA a)).2 (srt_putE hs _) (allOk_putE ho _) (by omega)
    refine ⟨r1, r2, Nat.le_trans r3 ?_⟩
    simp only [List.length_cons]
    omega
structure MdlS (Hz H : AHeap) (b : Nat) (l : List Pr) : Prop where
  ok : Ok H
  base : Still Hz H
  m : Mdl H b l
  lo : ∀ c, MB H b c → Hz.n ≤ c
theorem MdlS.step {Hz H H' : AHeap} {b : Nat} {l l' : List Pr} (t : MdlS Hz H b l) (m' : Mdl H' b l') (u : Up H b H') : MdlS Hz H' b l' := by
  have n0 : Hz.n ≤ H.n := t.base.n
  refine ⟨t.ok.fr u.fr, t.base.still.then u.fr fun c hc h => by have := t.lo c h; omega, m', fun c h => ?_⟩
  rcases u.mb c h with h | h
  · exact t.lo c h
  · omega

theorem l_H0 (l : List Act) (v w1 w2 w3 : Value) (Hz : AHeap) (b : Nat) (hr0 : Rd EAct Hz v l) (hl : l.length ≤ 1000) : ∀ (x : List Act) (i : Nat) (H : AHeap) (m : List Pr), l.drop i = x → MdlS Hz H b m → Srt m → m.length ≤ i → i ≤ l.length → ∃ H', MdlS Hz H' b (fillA m x) ∧
    ∀ K : K, l_law_CursorHolds_0 w1 w2 v w3 (.pointer (some ⟨b, 0, none⟩)) (.int .i64 (i : Int)) H (blkK [0, 1, 3, 9] 0 K) = K .normal [(0, w1), (1, w2), (3, w3), (9, .pointer (some ⟨b, 0, none⟩))] H'
  | [], i, H, m, hx, t, hs, hm, hi => by
    have h : l.length ≤ i := List.drop_eq_nil_iff.1 hx
    have hlt : ¬ (i : Int) < (l.length : Int) := by omega
    have hlen := hr0.lenS
    refine ⟨H, t, fun K => ?_⟩
    rw [r_law_CursorHolds_0]
    simp (disch := first | with_reducible rfl | assumption | omega | rfl | (simp only [go_sem]; first | done | omega)) only [go_sem, ↓reduceIte, reduceCtorEq, Nat.reduceEqDiff, Nat.reduceAdd, Nat.reduceSub, Nat.reduceMul, Nat.reduceDiv, Nat.reduceMod, Nat.reduceLeDiff, Nat.reduceLT, Nat.reduceBEq, Int.reduceEq, Int.reduceBEq, Int.reduceBNe, Int.reduceLT, Int.reduceLE, Int.reduceAdd, Int.reduceSub, Int.reduceNeg, Int.reduceToNat, Int.reducePow, Nat.reducePow, Int.reduceMul, Int.reduceDiv, ↓s_law_CursorHolds_b0, hlen, hlt]
  | a :: x, i, H, m, hx, t, hs, hm, hi => by
    obtain ⟨h, hxa, hx'⟩ := drop_cons hx
    have hlt : (i : Int) < (l.length : Int) := by omega
    have hlen := hr0.lenS
    obtain ⟨b1, o1, hix, _, hc1, _⟩ := (hr0.still t.base).ix (q := .i64) h
    rw [hxa] at hc1
    have hix : ixS 3 v (.int .i64 i) = some (.pointer (some ⟨b1, o1, none⟩)) := hix
    have hc2 : cellB (H.f b1) (o1 + 1) = some (.string a.key) := cutB_cell hc1 (i := 1) (by decide)
    have hc3 : cellB (H.f b1) (o1 + 2) = some (.string a.value) := cutB_cell hc1 (i := 2) (by decide)
    obtain ⟨H1, hput, m1, u1⟩ := q_putM b m (prA a) H t.ok t.m hs (by omega)
    have h1 := put_len m (prA a)
    obtain ⟨H', t', ih⟩ := l_H0 l v w1 w2 w3 Hz b hr0 hl x (i + 1) H1 _ hx' (t.step m1 u1) (srt_putE hs _) (by omega) h
    refine ⟨H', t', fun K => ?_⟩
    have ih := ih K
    rw [Int.natCast_add] at ih
    generalize (putE m (prA a)).1 = e at hput
    have hput : CC F.model_Model_Put [.pointer (some ⟨b, 0, none⟩), .string a.key, .string a.value] H = some (.int .i64 e, H1) := hput
    rw [r_law_CursorHolds_0]
    simp (disch := first | with_reducible rfl | assumption | omega | rfl | (simp only [go_sem]; first | done | omega)) only [go_sem, ↓reduceIte, reduceCtorEq, Nat.reduceEqDiff, Nat.reduceAdd, Nat.reduceSub, Nat.reduceMul, Nat.reduceDiv, Nat.reduceMod, Nat.reduceLeDiff, Nat.reduceLT, Nat.reduceBEq, Int.reduceEq, Int.reduceBEq, Int.reduceBNe, Int.reduceLT, Int.reduceLE, Int.reduceAdd, Int.reduceSub, Int.reduceNeg, Int.reduceToNat, Int.reducePow, Nat.reducePow, Int.reduceMul, Int.reduceDiv, ↓s_law_CursorHolds_b0, hlen, hlt, hix, hc2, hc3, enterK_eq hput]
    exact ih

/-! ### What is in the range -/
theorem inR_cases (sf st : ByteArray) (a : Pr) : (cmpS a.key sf < 0 ∧ inR sf st a = false) ∨ (¬ cmpS a.key sf < 0 ∧ bl st = [] ∧ inR sf st a = true) ∨ (¬ cmpS a.key sf < 0 ∧ ¬ bl st = [] ∧ inR sf st a = decide (cmpS a.key st < 0)) := by
  unfold inR
  by_cases h1 : cmpS a.key sf < 0
  · exact .inl ⟨h1, by rw [decide_eq_true h1]; rfl⟩
  · by_cases h2 : bl st = []
    · exact .inr (.inl ⟨h1, h2, by rw [decide_eq_false h1, decide_eq_true h2]; rfl⟩)
    · exact .inr (.inr ⟨h1, h2, by rw [decide_eq_false h1, decide_eq_false h2]; rfl⟩)

theorem l_H1 (l : List Pr) (v w3 w9 w11 w14 : Value) (sf st : ByteArray) (Hz : AHeap) (hr0 : Rd EPr Hz v l) (hl : l.length ≤ 1000) : ∀ (x : List Pr) (i : Nat) (H : AHeap) (o : Value) (acc : List Pr), l.drop i = x → Still Hz H → Own EPr H T.api_Pair o acc → (∀ c, blockOf o = some c → Hz.n ≤ c) → acc.length ≤ i → i ≤ l.length → ∃ H' o', Still Hz H' ∧ Own EPr H' T.api_Pair o' (acc ++ x.filter (inR sf st)) ∧ (∀ c, blockOf o' = some c → Hz.n ≤ c) ∧
    ∀ K : K, l_law_CursorHolds_1 (.string sf) (.string st) w3 w9 w11 o w14 v (.int .i64 (i : Int)) H (blkK [3, 9, 11, 13, 14] 2 K) = K .normal [(3, w3), (9, w9), (11, w11), (13, o'), (14, w14)] H'
  | [], i, H, o, acc, hx, hs, ho, hob, hacc, hi => by
    have h : l.length ≤ i := List.drop_eq_nil_iff.1 hx
    have hlt : ¬ (i : Int) < (l.length : Int) := by omega
    have hlen := hr0.lenS
    refine ⟨H, o, hs, by simpa using ho, hob, fun K => ?_⟩
    rw [r_law_CursorHolds_1]
    simp (disch := first | with_reducible rfl | assumption | omega | rfl | (simp only [go_sem]; first | done | omega)) only [go_sem, ↓reduceIte, reduceCtorEq, Nat.reduceEqDiff, Nat.reduceAdd, Nat.reduceSub, Nat.reduceMul, Nat.reduceDiv, Nat.reduceMod, Nat.reduceLeDiff, Nat.reduceLT, Nat.reduceBEq, Int.reduceEq, Int.reduceBEq, Int.reduceBNe, Int.reduceLT, Int.reduceLE, Int.reduceAdd, Int.reduceSub, Int.reduceNeg, Int.reduceToNat, Int.reducePow, Nat.reducePow, Int.reduceMul, Int.reduceDiv, ↓s_law_CursorHolds_b1, hlen, hlt]
  | a :: x, i, H, o, acc, hx, hs, ho, hob, hacc, hi => by
    obtain ⟨h, hxa, hx'⟩ := drop_cons hx
    have hlt : (i : Int) < (l.length : Int) := by omega
    have hlen := hr0.lenS
    obtain ⟨b1, o1, hix, _, hc1, _⟩ := (hr0.still hs).ix (q := .i64) h
    rw [hxa] at hc1
    have hix : ixS 2 v (.int .i64 i) = some (.pointer (some ⟨b1, o1, none⟩)) := hix
    have hc2 : cellB (H.f b1) o1 = some (.string a.key) := cutB_cell hc1 (i := 0) (by decide)
    have hc1 : cutB (H.f b1) o1 2 = some [.string a.key, .string a.value] := hc1
    have no : inR sf st a = false → (∀ K : K, l_law_CursorHolds_1 (.string sf) (.string st) w3 w9 w11 o w14 v (.int .i64 (i : Int)) H (blkK [3, 9, 11, 13, 14] 2 K) = l_law_CursorHolds_1 (.string sf) (.string st) w3 w9 w11 o w14 v (.int .i64 ((i + 1 : Nat) : Int)) H (blkK [3, 9, 11, 13, 14] 2 K)) → ∃ H' o', Still Hz H' ∧ Own EPr H' T.api_Pair o' (acc ++ (a :: x).filter (inR sf st)) ∧ (∀ c, blockOf o' = some c → Hz.n ≤ c) ∧
        ∀ K : K, l_law_CursorHolds_1 (.string sf) (.string st) w3 w9 w11 o w14 v (.int .i64 (i : Int)) H (blkK [3, 9, 11, 13, 14] 2 K) = K .normal [(3, w3), (9, w9), (11, w11), (13, o'), (14, w14)] H' := fun hz hstep => by
      obtain ⟨H', o', q1, q2, q3, ih⟩ := l_H1 l v w3 w9 w11 w14 sf st Hz hr0 hl x (i + 1) H o acc hx' hs ho hob (by omega) h
      refine ⟨H', o', q1, by rw [List.filter_cons_of_neg (by rw [hz]; simp)]; exact q2, q3, fun K => (hstep K).trans (ih K)⟩
    generalize hH2 : H.push (.cells [.string a.key, .string a.value] T.api_Pair true) = H2
    have s2 : Still H H2 := by rw [← hH2]; exact (Fr.refl H).push _
    have n2 : H2.n = H.n + 1 := by rw [← hH2]; rfl
    have n0 := hs.n
    have hlit := rdLit a H
    rw [hH2] at hlit
    obtain ⟨o', H3, happ, ho3, fr3, hb3⟩ := (ho.still s2).appE (m := [a]) (sz := 2) (bytes := 32) rfl (by simp; omega) (by simp; omega) (hlit.src (sz := 2) rfl)
    have yes : inR sf st a = true → (∀ K : K, l_law_CursorHolds_1 (.string sf) (.string st) w3 w9 w11 o w14 v (.int .i64 (i : Int)) H (blkK [3, 9, 11, 13, 14] 2 K) = l_law_CursorHolds_1 (.string sf) (.string st) w3 w9 w11 o' w14 v (.int .i64 ((i + 1 : Nat) : Int)) H3 (blkK [3, 9, 11, 13, 14] 2 K)) → ∃ H' o', Still Hz H' ∧ Own EPr H' T.api_Pair o' (acc ++ (a :: x).filter (inR sf st)) ∧ (∀ c, blockOf o' = some c → Hz.n ≤ c) ∧
        ∀ K : K, l_law_CursorHolds_1 (.string sf) (.string st) w3 w9 w11 o w14 v (.int .i64 (i : Int)) H (blkK [3, 9, 11, 13, 14] 2 K) = K .normal [(3, w3), (9, w9), (11, w11), (13, o'), (14, w14)] H' := fun hz hstep => by
      have hob' : ∀ d, blockOf o' = some d → Hz.n ≤ d := fun d hd => by
        rcases hb3 with hb | hb
        · rw [hb] at hd; exact hob d hd
        · rw [hb] at hd; cases hd; omega
      have s3 : Still Hz H3 := (hs.still.then s2 fun _ _ h => h).still.then fr3 fun d hd h => by have := hob d h; omega
      obtain ⟨H', o'', q1, q2, q3, ih⟩ := l_H1 l v w3 w9 w11 w14 sf st Hz hr0 hl x (i + 1) H3 o' _ hx' s3 ho3 hob' (by simp; omega) h
      refine ⟨H', o'', q1, by rw [List.filter_cons_of_pos hz]; simpa using q2, q3, fun K => (hstep K).trans (ih K)⟩
    rcases inR_cases sf st a with ⟨h1, hz⟩ | ⟨h1, h2, hz⟩ | ⟨h1, h2, hz⟩
    · refine no hz fun K => ?_
      rw [r_law_CursorHolds_1, Int.natCast_add]
      simp (disch := first | with_reducible rfl | assumption | omega | rfl | (simp only [go_sem]; first | done | omega)) only [go_sem, ↓reduceIte, reduceCtorEq, Nat.reduceEqDiff, Nat.reduceAdd, Nat.reduceSub, Nat.reduceMul, Nat.reduceDiv, Nat.reduceMod, Nat.reduceLeDiff, Nat.reduceLT, Nat.reduceBEq, Int.reduceEq, Int.reduceBEq, Int.reduceBNe, Int.reduceLT, Int.reduceLE, Int.reduceAdd, Int.reduceSub, Int.reduceNeg, Int.reduceToNat, Int.reducePow, Nat.reducePow, Int.reduceMul, Int.reduceDiv, ↓s_law_CursorHolds_b1, hlen, hlt, hix, hc2, less_cmpS, decide_eq_true h1]
    · refine yes hz fun K => ?_
      rw [r_law_CursorHolds_1, Int.natCast_add]
      simp (disch := first | with_reducible rfl | assumption | omega | rfl | (simp only [go_sem]; first | done | omega)) only [go_sem, ↓reduceIte, reduceCtorEq, Nat.reduceEqDiff, Nat.reduceAdd, Nat.reduceSub, Nat.reduceMul, Nat.reduceDiv, Nat.reduceMod, Nat.reduceLeDiff, Nat.reduceLT, Nat.reduceBEq, Int.reduceEq, Int.reduceBEq, Int.reduceBNe, Int.reduceLT, Int.reduceLE, Int.reduceAdd, Int.reduceSub, Int.reduceNeg, Int.reduceToNat, Int.reducePow, Nat.reducePow, Int.reduceMul, Int.reduceDiv, ↓s_law_CursorHolds_b1, hlen, hlt, hix, hc2, less_cmpS, decide_eq_false h1, bl_mk, decide_eq_true h2, hc1, hH2, happ]
    · by_cases h3 : cmpS a.key st < 0
      · rw [decide_eq_true h3] at hz
        refine yes hz fun K => ?_
        rw [r_law_CursorHolds_1, Int.natCast_add]
        simp (disch := first | with_reducible rfl | assumption | omega | rfl | (simp only [go_sem]; first | done | omega)) only [go_sem, ↓reduceIte, reduceCtorEq, Nat.reduceEqDiff, Nat.reduceAdd, Nat.reduceSub, Nat.reduceMul, Nat.reduceDiv, Nat.reduceMod, Nat.reduceLeDiff, Nat.reduceLT, Nat.reduceBEq, Int.reduceEq, Int.reduceBEq, Int.reduceBNe, Int.reduceLT, Int.reduceLE, Int.reduceAdd, Int.reduceSub, Int.reduceNeg, Int.reduceToNat, Int.reducePow, Nat.reducePow, Int.reduceMul, Int.reduceDiv, ↓s_law_CursorHolds_b1, hlen, hlt, hix, hc2, less_cmpS, decide_eq_false h1, bl_mk, decide_eq_false h2, decide_eq_true h3, hc1, hH2, happ]
      · rw [decide_eq_false h3] at hz
        refine no hz fun K => ?_
        rw [r_law_CursorHolds_1, Int.natCast_add]
        simp (disch := first | with_reducible rfl | assumption | omega | rfl | (simp only [go_sem]; first | done | omega)) only [go_sem, ↓reduceIte, reduceCtorEq, Nat.reduceEqDiff, Nat.reduceAdd, Nat.reduceSub, Nat.reduceMul, Nat.reduceDiv, Nat.reduceMod, Nat.reduceLeDiff, Nat.reduceLT, Nat.reduceBEq, Int.reduceEq, Int.reduceBEq, Int.reduceBNe, Int.reduceLT, Int.reduceLE, Int.reduceAdd, Int.reduceSub, Int.reduceNeg, Int.reduceToNat, Int.reducePow, Nat.reducePow, Int.reduceMul, Int.reduceDiv, ↓s_law_CursorHolds_b1, hlen, hlt, hix, hc2, less_cmpS, decide_eq_false h1, bl_mk, decide_eq_false h2, decide_eq_false h3]

/-! ### Places -/
theorem posG_at {R : List Pr} (hs : Srt R) {j : Nat} (h : j < R.length) : posG R R[j].key = j + 1 := by
  obtain ⟨p1, p2⟩ := posG_pos hs R[j].key
  have hle := posG_le R R[j].key
  have h1 : j < posG R R[j].key := Nat.lt_of_not_le fun h' => p2 j h h' (by rw [cmpS_self]; omega)
  by_cases h2 : j + 1 < R.length
  · have h3 : ¬ j + 1 < posG R R[j].key := fun h' => by
      have h4 := p1 (j + 1) h2 h'
      have h5 := List.pairwise_iff_getElem.1 hs j (j + 1) h h2 (by omega)
      rw [cmpS_swap] at h4
      omega
    omega
  · omega
theorem setC_in {R : List Pr} {i : Nat} (h : i < R.length) (e : Int) : setC R (i : Int) e = (R[i], 0, 2, R[i].key) := by
  unfold setC
  rw [dif_pos ⟨by omega, by simpa using h⟩]
  simp
theorem setC_out {R : List Pr} {i : Int} (h : i < 0 ∨ (R.length : Int) ≤ i) (e : Int) : setC R i e = (⟨mk [], mk []⟩, 17, e, mk []) := by
  unfold setC
  rw [dif_neg fun h' => by omega]
/-- Where the cursor is behind i steps forward. -/
def sdI (i : Nat) : Int := if i = 0 then 1 else 2
def kyI (R : List Pr) (i : Nat) : ByteArray := if i = 0 then mk [] else (R[i - 1]?.elim (mk []) Pr.key)
theorem sdI_ne (i : Nat) : sdI i ≠ 0 := by unfold sdI; split <;> omega
theorem fwd_I {R : List Pr} (hs : Srt R) {i : Nat} (h : i ≤ R.length) : fwd R (sdI i) (kyI R i) = i := by
  unfold sdI kyI
  by_cases h0 : i = 0
  · rw [if_pos h0, if_pos h0, h0]; rfl
  · have hi : i - 1 < R.length := by omega
    rw [if_neg h0, if_neg h0, List.getElem?_eq_getElem hi]
    show posG R R[i - 1].key = i
    rw [posG_at hs hi]; omega

/-- What stays while the cursor goes. -/
structure Go2 (H0 : AHeap) (bm bc : Nat) (m R : List Pr) (sf st : ByteArray) (w13 : Value) : Prop where
  ok : Ok H0
  md : Mdl H0 bm m
  mc : ¬ MB H0 bm bc
  cl : bc < H0.n
  srt : Srt m
  len : m.length ≤ 1000
  eR : R = m.filter (inR sf st)
  rd : Rd EPr H0 w13 R
  wc : ∀ c, blockOf w13 = some c → c ≠ bc
theorem Go2.rs {H0 : AHeap} {bm bc : Nat} {m R : List Pr} {sf st : ByteArray} {w13 : Value} (g : Go2 H0 bm bc m R sf st w13) : Srt R ∧ R.length ≤ 1000 := by
  rw [g.eR]
  exact ⟨srt_filter g.srt _, Nat.le_trans (List.length_filter_le _ _) g.len⟩
theorem Go2.at_ {H0 H : AHeap} {bm bc : Nat} {m R : List Pr} {sf st : ByteArray} {w13 : Value} (g : Go2 H0 bm bc m R sf st w13) (fr : Fr (fun c => c = bc) H0 H) : Mdl H bm m ∧ Rd EPr H w13 R :=
  ⟨(mdl_off g.md g.mc fr).1, g.rd.keep fr fun c hc h => g.wc c hc h⟩

/-- A copy that goes back and forth. -/
theorem to_fro {H0 H : AHeap} {bm bc : Nat} {m R : List Pr} {sf st : ByteArray} {w13 : Value} (g : Go2 H0 bm bc m R sf st w13) (fr : Fr (fun c => c = bc) H0 H) {bd : Nat} (hbd : H0.n ≤ bd) {j : Nat} (hj : j + 1 < R.length) (d : Cur H bd sf st 2 R[j + 1].key) :
    ∃ H1 H2, CC F.law_prev [.pointer (some ⟨bd, 0, none⟩), .pointer (some ⟨bm, 0, none⟩), .string R[j].key, .string R[j].value, .int .i64 0] H = some (.bool true, H1) ∧ CC F.law_next [.pointer (some ⟨bd, 0, none⟩), .pointer (some ⟨bm, 0, none⟩), .string R[j + 1].key, .string R[j + 1].value, .int .i64 0] H1 = some (.bool true, H2) ∧ Fr (fun c => c = bd) H H1 ∧ Fr (fun c => c = bd) H1 H2 := by
  obtain ⟨hsR, hlR⟩ := g.rs
  have n0 := fr.n
  obtain ⟨mH, _⟩ := g.at_ fr
  have hmb : ∀ {G : AHeap}, Fr (fun c => c = bc) H0 G → ¬ MB G bm bd := fun frG h => by
    have h1 := (mdl_off g.md g.mc frG).2 _ h
    have := g.md.blk h1
    omega
  obtain ⟨w, G1, hw, hcall, c1, f1⟩ := q_Prev bd bm m sf st R[j + 1].key 2 H (g.ok.fr fr) d (by omega) mH g.srt (by have := g.len; omega)
  rw [← g.eR, show bwd R 2 R[j + 1].key = (posP R R[j + 1].key : Int) - 1 from rfl, mem_pos hsR hj, show ((j + 1 : Nat) : Int) - 1 = (j : Int) by omega, setC_in (by omega)] at hw
  obtain ⟨H1, hp, cp, fp⟩ := q_lprev bd bm sf st R[j + 1].key 2 w H G1 (g.ok.fr fr) d hcall c1 f1
  subst hw
  obtain ⟨mH1, _⟩ := mdl_off mH (hmb fr) fp
  have ok1 : Ok H1 := (g.ok.fr fr).fr fp
  obtain ⟨u, G2, hu, hcall2, c2, f2⟩ := q_Next bd bm m sf st R[j].key 2 H1 ok1 cp (by omega) mH1 g.srt (by have := g.len; omega)
  rw [← g.eR, show fwd R 2 R[j].key = posG R R[j].key from rfl, posG_at hsR (by omega), setC_in hj] at hu
  obtain ⟨H2, hn, cn, fn⟩ := q_lnext bd bm sf st R[j].key 2 u H1 G2 ok1 cp hcall2 c2 f2
  subst hu
  exact ⟨H1, H2, hp, hn, fp, fn⟩

theorem l_H2 {H0 : AHeap} {bm bc : Nat} {m R : List Pr} {sf st : ByteArray} {w13 : Value} (g : Go2 H0 bm bc m R sf st w13) (w3 : Value) : ∀ (d i : Nat) (H : AHeap) (og : Value), R.length - i = d → i ≤ R.length → Fr (fun c => c = bc) H0 H → Cur H bc sf st (sdI i) (kyI R i) → Own EPr H T.api_Pair og (R.take i) → (∀ c, blockOf og = some c → H0.n ≤ c) →
    ∃ H' og', Fr (fun c => c = bc) H0 H' ∧ Cur H' bc sf st 3 (mk []) ∧ Own EPr H' T.api_Pair og' R ∧ ∀ K : K, l_law_CursorHolds_2 w3 (.pointer (some ⟨bm, 0, none⟩)) (.pointer (some ⟨bc, 0, none⟩)) w13 og (.int .i64 (i : Int)) H (blkK [3, 9, 11, 13, 14] 4 K) = K .normal [(3, w3), (9, .pointer (some ⟨bm, 0, none⟩)), (11, .pointer (some ⟨bc, 0, none⟩)), (13, w13), (14, og')] H'
  | 0, i, H, og, hd, hi, fr, c, ho, hob => by
    obtain ⟨hsR, hlR⟩ := g.rs
    obtain ⟨mH, rH⟩ := g.at_ fr
    have hlen := rH.lenS
    have e : i = R.length := by omega
    subst e
    obtain ⟨w, H1, hw, hcall, c1, f1⟩ := q_Next bc bm m sf st _ _ H (g.ok.fr fr) c (sdI_ne _) mH g.srt (by have := g.len; omega)
    rw [← g.eR, fwd_I hsR (Nat.le_refl _), setC_out (by omega)] at hw
    subst hw
    have hcall : CC F.cursor_Cursor_Next [.pointer (some ⟨bc, 0, none⟩), .pointer (some ⟨bm, 0, none⟩)] H = some (.tuple #[.agg #[.string (mk []), .string (mk [])], .int .i64 17], H1) := hcall
    generalize hH2 : (H1.push (.cells [.string (mk []), .string (mk [])] T.api_Pair true)).set H1.n (.cells [.string (mk []), .string (mk [])] T.api_Pair true) = H2
    have s2 : Still H1 H2 := by rw [← hH2]; exact Fr.set ((Fr.refl H1).push _) _ _ (fun h => by omega)
    have frH2 : Fr (fun c => c = bc) H H2 := f1.then s2 fun _ _ h => h.elim
    rw [List.take_length] at ho
    have hcl := g.cl
    have hle : (R.length : Int) ≤ (R.length : Int) := Int.le_refl _
    refine ⟨H2, og, fr.then frH2 fun _ _ h => h, c1.still s2, ho.keep frH2 fun d hd h => by have := hob d hd; omega, fun K => ?_⟩
    rw [r_hB2]
    simp (disch := first | with_reducible rfl | assumption | omega | rfl | (simp only [go_sem]; first | done | omega)) only [go_sem, ↓reduceIte, reduceCtorEq, Nat.reduceEqDiff, Nat.reduceAdd, Nat.reduceSub, Nat.reduceMul, Nat.reduceDiv, Nat.reduceMod, Nat.reduceLeDiff, Nat.reduceLT, Nat.reduceBEq, Int.reduceEq, Int.reduceBEq, Int.reduceBNe, Int.reduceLT, Int.reduceLE, Int.reduceAdd, Int.reduceSub, Int.reduceNeg, Int.reduceToNat, Int.reducePow, Nat.reducePow, Int.reduceMul, Int.reduceDiv, ↓hB2, hlen, decide_eq_true hle, enterK_eq hcall, hH2]
  | d + 1, i, H, og, hd, hi, fr, c, ho, hob => by
    obtain ⟨hsR, hlR⟩ := g.rs
    obtain ⟨mH, rH⟩ := g.at_ fr
    have hlen := rH.lenS
    have hiR : i < R.length := by omega
    have hle : (i : Int) ≤ (R.length : Int) := by omega
    have hge : ¬ (R.length : Int) ≤ (i : Int) := by omega
    have hlt : (i : Int) < (R.length : Int) := by omega
    have hcl := g.cl
    have n0 := fr.n
    obtain ⟨w, H1, hw, hcall, c1, f1⟩ := q_Next bc bm m sf st _ _ H (g.ok.fr fr) c (sdI_ne _) mH g.srt (by have := g.len; omega)
    rw [← g.eR, fwd_I hsR hi, setC_in hiR] at hw
    subst hw
    have hcall : CC F.cursor_Cursor_Next [.pointer (some ⟨bc, 0, none⟩), .pointer (some ⟨bm, 0, none⟩)] H = some (.tuple #[.agg #[.string R[i].key, .string R[i].value], .int .i64 0], H1) := hcall
    have c1 : Cur H1 bc sf st 2 R[i].key := c1
    generalize hH2 : (H1.push (.cells [.string (mk []), .string (mk [])] T.api_Pair true)).set H1.n (.cells [.string R[i].key, .string R[i].value] T.api_Pair true) = H2
    have s2 : Still H1 H2 := by rw [← hH2]; exact Fr.set ((Fr.refl H1).push _) _ _ (fun h => by omega)
    have n2 : H2.n = H1.n + 1 := by rw [← hH2]; rfl
    have f2 : H2.f H1.n = .cells [.string R[i].key, .string R[i].value] T.api_Pair true := by rw [← hH2]; exact set_f_eq
    have n1 := f1.n
    have frH2 : Fr (fun c => c = bc) H H2 := f1.then s2 fun _ _ h => h.elim
    have fr2 : Fr (fun c => c = bc) H0 H2 := fr.then frH2 fun _ _ h => h
    obtain ⟨_, rH2⟩ := g.at_ fr2
    have c2 := c1.still s2
    obtain ⟨bi, oi, hixi, hbi, hci, _⟩ := rH2.ix (q := .i64) hiR
    have hixi : ixS 2 w13 (.int .i64 i) = some (.pointer (some ⟨bi, oi, none⟩)) := hixi
    have hci : cutB (H2.f bi) oi 2 = some [.string R[i].key, .string R[i].value] := hci
    have hne : ∀ ox oy, xbin Try.prog .neq T.api_Pair ox oy (.agg #[.string R[i].key, .string R[i].value]) (.agg #[.string R[i].key, .string R[i].value]) = some (.bool false) := fun ox oy => by
      have := pair_ne' (ox := ox) (oy := oy) (a := R[i]) (b := R[i])
      rw [decide_eq_true rfl] at this
      exact this
    obtain ⟨bd, H3, hcp, d3, s3, hbd⟩ := q_CCopy bc sf st R[i].key 2 H2 c2 (by omega)
    have n3 := s3.n
    have fr3 : Fr (fun c => c = bc) H0 H3 := fr2.then s3 fun _ _ h => h.elim
    have c3 := c2.still s3
    have f3 : H3.f H1.n = .cells [.string R[i].key, .string R[i].value] T.api_Pair true := by rw [s3.f (by omega) (fun h => h), f2]
    -- behind the copy's way there and back
    have mid : ∃ H5, Fr (fun c => c = bd) H3 H5 ∧ ∀ K : K, hP2 K [(3, w3), (9, .pointer (some ⟨bm, 0, none⟩)), (11, .pointer (some ⟨bc, 0, none⟩)), (13, w13), (14, og), (17, .int .i64 (i : Int)), (18, .pointer (some ⟨H1.n, 0, none⟩))] H2 = hP3 K [(3, w3), (9, .pointer (some ⟨bm, 0, none⟩)), (11, .pointer (some ⟨bc, 0, none⟩)), (13, w13), (14, og), (17, .int .i64 (i : Int)), (18, .pointer (some ⟨H1.n, 0, none⟩))] H5 := by
      by_cases h0 : i = 0
      · subst h0
        refine ⟨H3, Fr.refl H3, fun K => ?_⟩
        simp (disch := first | with_reducible rfl | assumption | omega | rfl | (simp only [go_sem]; first | done | omega)) only [go_sem, ↓reduceIte, reduceCtorEq, Nat.reduceEqDiff, Nat.reduceAdd, Nat.reduceSub, Nat.reduceMul, Nat.reduceDiv, Nat.reduceMod, Nat.reduceLeDiff, Nat.reduceLT, Nat.reduceBEq, Int.reduceEq, Int.reduceBEq, Int.reduceBNe, Int.reduceLT, Int.reduceLE, Int.reduceAdd, Int.reduceSub, Int.reduceNeg, Int.reduceToNat, Int.reducePow, Nat.reducePow, Int.reduceMul, Int.reduceDiv, ↓hP2, enterK_eq hcp]
      · obtain ⟨j, rfl⟩ : ∃ j, i = j + 1 := ⟨i - 1, by omega⟩
        obtain ⟨H4, H5, hp, hn, f34, f45⟩ := to_fro g fr3 (by omega) hiR d3
        have n4 := f34.n
        obtain ⟨_, rH3⟩ := g.at_ fr3
        have hjR : j < R.length := by omega
        obtain ⟨bj, oj, hixj, hbj, hcj, _⟩ := rH3.ix (q := .i64) hjR
        have hixj : ixS 2 w13 (.int .i64 (j : Int)) = some (.pointer (some ⟨bj, oj, none⟩)) := hixj
        have hj0 : cellB (H3.f bj) oj = some (.string R[j].key) := cutB_cell hcj (i := 0) (by decide)
        have hj1 : cellB (H3.f bj) (oj + 1) = some (.string R[j].value) := cutB_cell hcj (i := 1) (by decide)
        have f4 : H4.f H1.n = .cells [.string R[j + 1].key, .string R[j + 1].value] T.api_Pair true := by rw [f34.f (by omega) (by omega), f3]
        have hpos : (0 : Int) < (j : Int) + 1 := by omega
        have hsub : ∀ ox oy, xbin Try.prog .sub T.int ox oy (.int .i64 ((j : Int) + 1)) (.int .i64 1) = some (.int .i64 (j : Int)) := fun ox oy => by
          simp (disch := first | with_reducible rfl | assumption | omega | rfl | (simp only [go_sem]; first | done | omega)) only [go_sem, ↓reduceIte, reduceCtorEq, Nat.reduceEqDiff, Nat.reduceAdd, Nat.reduceSub, Nat.reduceMul, Nat.reduceDiv, Nat.reduceMod, Nat.reduceLeDiff, Nat.reduceLT, Nat.reduceBEq, Int.reduceEq, Int.reduceBEq, Int.reduceBNe, Int.reduceLT, Int.reduceLE, Int.reduceAdd, Int.reduceSub, Int.reduceNeg, Int.reduceToNat, Int.reducePow, Nat.reducePow, Int.reduceMul, Int.reduceDiv]
          congr 2
          omega
        refine ⟨H5, f34.then f45 fun _ _ h => h, fun K => ?_⟩
        simp (disch := first | with_reducible rfl | assumption | omega | rfl | (simp only [go_sem]; first | done | omega)) only [go_sem, ↓reduceIte, reduceCtorEq, Nat.reduceEqDiff, Nat.reduceAdd, Nat.reduceSub, Nat.reduceMul, Nat.reduceDiv, Nat.reduceMod, Nat.reduceLeDiff, Nat.reduceLT, Nat.reduceBEq, Int.reduceEq, Int.reduceBEq, Int.reduceBNe, Int.reduceLT, Int.reduceLE, Int.reduceAdd, Int.reduceSub, Int.reduceNeg, Int.reduceToNat, Int.reducePow, Nat.reducePow, Int.reduceMul, Int.reduceDiv, ↓hP2, enterK_eq hcp, decide_eq_true hpos, hsub, hixj, hj0, hj1, enterK_eq hp, f4, enterK_eq hn]
    obtain ⟨H5, f35, hmid⟩ := mid
    have n5 := f35.n
    have f5 : H5.f H1.n = .cells [.string R[i].key, .string R[i].value] T.api_Pair true := by rw [f35.f (by omega) (by omega), f3]
    have fr5 : Fr (fun c => c = bc) H0 H5 := fr3.then f35 fun c hc h => by omega
    have c5 : Cur H5 bc sf st 2 R[i].key := ⟨by rw [f35.f c3.2 (by omega)]; exact c3.1, Nat.lt_of_lt_of_le c3.2 n5⟩
    have og5 : Own EPr H5 T.api_Pair og (R.take i) := ((ho.keep frH2 fun d hd h => by have := hob d hd; omega).still s3).keep f35 fun d hd h => by have := ho.blk hd; omega
    generalize hH6 : H5.push (.cells [.string R[i].key, .string R[i].value] T.api_Pair true) = H6
    have s6 : Still H5 H6 := by rw [← hH6]; exact (Fr.refl H5).push _
    have n6 : H6.n = H5.n + 1 := by rw [← hH6]; rfl
    have hlit := rdLit R[i] H5
    rw [hH6] at hlit
    have hti : (R.take i).length ≤ 1000 := by simp; omega
    obtain ⟨og', H7, happ, ho7, fr7, hb7⟩ := (og5.still s6).appE (m := [R[i]]) (sz := 2) (bytes := 32) rfl (by simp; omega) (by simp; omega) (hlit.src (sz := 2) rfl)
    have hob' : ∀ d, blockOf og' = some d → H0.n ≤ d := fun d hd => by
      rcases hb7 with hb | hb
      · rw [hb] at hd; exact hob d hd
      · rw [hb] at hd; cases hd; omega
    have ocb : ¬ OnlyOf og bc := fun h => by have := hob bc h; omega
    have c7 : Cur H7 bc sf st 2 R[i].key := ⟨by rw [fr7.f (c5.still s6).2 ocb]; exact (c5.still s6).1, Nat.lt_of_lt_of_le (c5.still s6).2 fr7.n⟩
    have fr7' : Fr (fun c => c = bc) H0 H7 := (fr5.then s6 fun _ _ h => h.elim).then fr7 fun d hd h => by have := hob d h; omega
    rw [List.take_append_getElem hiR] at ho7
    have cnext : Cur H7 bc sf st (sdI (i + 1)) (kyI R (i + 1)) := by
      unfold sdI kyI
      rw [if_neg (by omega), if_neg (by omega), Nat.add_sub_cancel, List.getElem?_eq_getElem hiR]
      exact c7
    obtain ⟨H', og'', q1, q2, q3, ih⟩ := l_H2 g w3 d (i + 1) H7 og' (by omega) hiR fr7' cnext ho7 hob'
    refine ⟨H', og'', q1, q2, q3, fun K => ?_⟩
    have ih := ih K
    rw [Int.natCast_add] at ih
    rw [r_hB2]
    simp (disch := first | with_reducible rfl | assumption | omega | rfl | (simp only [go_sem]; first | done | omega)) only [go_sem, ↓reduceIte, reduceCtorEq, Nat.reduceEqDiff, Nat.reduceAdd, Nat.reduceSub, Nat.reduceMul, Nat.reduceDiv, Nat.reduceMod, Nat.reduceLeDiff, Nat.reduceLT, Nat.reduceBEq, Int.reduceEq, Int.reduceBEq, Int.reduceBNe, Int.reduceLT, Int.reduceLE, Int.reduceAdd, Int.reduceSub, Int.reduceNeg, Int.reduceToNat, Int.reducePow, Nat.reducePow, Int.reduceMul, Int.reduceDiv, ↓hB2, hlen, hle, enterK_eq hcall, hH2, hge, hlt, f2, hixi, hci, hne, hmid]
    simp (disch := first | with_reducible rfl | assumption | omega | rfl | (simp only [go_sem]; first | done | omega)) only [go_sem, ↓reduceIte, reduceCtorEq, Nat.reduceEqDiff, Nat.reduceAdd, Nat.reduceSub, Nat.reduceMul, Nat.reduceDiv, Nat.reduceMod, Nat.reduceLeDiff, Nat.reduceLT, Nat.reduceBEq, Int.reduceEq, Int.reduceBEq, Int.reduceBNe, Int.reduceLT, Int.reduceLE, Int.reduceAdd, Int.reduceSub, Int.reduceNeg, Int.reduceToNat, Int.reducePow, Nat.reducePow, Int.reduceMul, Int.reduceDiv, ↓hP3, f5, hH6, happ]
    exact ih

theorem l_H3 {H0 : AHeap} {bm bc : Nat} {m R : List Pr} {sf st : ByteArray} {w13 : Value} (g : Go2 H0 bm bc m R sf st w13) (w3 : Value) : ∀ (i : Nat) (H : AHeap) (side : Int) (key : ByteArray), i ≤ R.length → Fr (fun c => c = bc) H0 H → Cur H bc sf st side key → side ≠ 0 → (bwd R side key = (i : Int) - 1) →
    ∃ H' side' key', Fr (fun c => c = bc) H0 H' ∧ Cur H' bc sf st side' key' ∧ side' ≠ 0 ∧ bwd R side' key' = -1 ∧ ∀ K : K, l_law_CursorHolds_3 w3 (.pointer (some ⟨bm, 0, none⟩)) (.pointer (some ⟨bc, 0, none⟩)) w13 (.int .i64 ((i : Int) - 1)) H (blkK [3, 9, 11, 13] 6 K) = K .normal [(3, w3), (9, .pointer (some ⟨bm, 0, none⟩)), (11, .pointer (some ⟨bc, 0, none⟩)), (13, w13)] H'
  | 0, H, side, key, hi, fr, c, h0, hb => by
    have hlt : ¬ (0 : Int) ≤ ((0 : Nat) : Int) - 1 := by omega
    refine ⟨H, side, key, fr, c, h0, by omega, fun K => ?_⟩
    rw [r_law_CursorHolds_3]
    simp (disch := first | with_reducible rfl | assumption | omega | rfl | (simp only [go_sem]; first | done | omega)) only [go_sem, ↓reduceIte, reduceCtorEq, Nat.reduceEqDiff, Nat.reduceAdd, Nat.reduceSub, Nat.reduceMul, Nat.reduceDiv, Nat.reduceMod, Nat.reduceLeDiff, Nat.reduceLT, Nat.reduceBEq, Int.reduceEq, Int.reduceBEq, Int.reduceBNe, Int.reduceLT, Int.reduceLE, Int.reduceAdd, Int.reduceSub, Int.reduceNeg, Int.reduceToNat, Int.reducePow, Nat.reducePow, Int.reduceMul, Int.reduceDiv, ↓s_law_CursorHolds_b3, hlt]
  | i + 1, H, side, key, hi, fr, c, h0, hb => by
    obtain ⟨hsR, hlR⟩ := g.rs
    obtain ⟨mH, rH⟩ := g.at_ fr
    have hiR : i < R.length := by omega
    rw [show ((i + 1 : Nat) : Int) - 1 = (i : Int) by omega] at hb ⊢
    obtain ⟨w, G1, hw, hcall, c1, f1⟩ := q_Prev bc bm m sf st key side H (g.ok.fr fr) c h0 mH g.srt (by have := g.len; omega)
    rw [← g.eR, hb, setC_in hiR] at hw
    obtain ⟨H1, hp, cp, fp⟩ := q_lprev bc bm sf st key side w H G1 (g.ok.fr fr) c hcall c1 f1
    subst hw
    have hp : CC F.law_prev [.pointer (some ⟨bc, 0, none⟩), .pointer (some ⟨bm, 0, none⟩), .string R[i].key, .string R[i].value, .int .i64 0] H = some (.bool true, H1) := hp
    have hbn : bwd R 2 R[i].key = (i : Int) - 1 := by
      rw [show bwd R 2 R[i].key = (posP R R[i].key : Int) - 1 from rfl, mem_pos hsR hiR]
    obtain ⟨b1, o1, hix, _, hc1, _⟩ := rH.ix (q := .i64) hiR
    have hix : ixS 2 w13 (.int .i64 (i : Int)) = some (.pointer (some ⟨b1, o1, none⟩)) := hix
    have hc2 : cellB (H.f b1) o1 = some (.string R[i].key) := cutB_cell hc1 (i := 0) (by decide)
    have hc3 : cellB (H.f b1) (o1 + 1) = some (.string R[i].value) := cutB_cell hc1 (i := 1) (by decide)
    have hge : (0 : Int) ≤ (i : Int) := by omega
    obtain ⟨H', side', key', q1, q2, q3, q4, ih⟩ := l_H3 g w3 i H1 2 R[i].key (by omega) (fr.then fp fun _ _ h => h) cp (by omega) hbn
    refine ⟨H', side', key', q1, q2, q3, q4, fun K => ?_⟩
    have ih := ih K
    rw [r_law_CursorHolds_3]
    simp (disch := first | with_reducible rfl | assumption | omega | rfl | (simp only [go_sem]; first | done | omega)) only [go_sem, ↓reduceIte, reduceCtorEq, Nat.reduceEqDiff, Nat.reduceAdd, Nat.reduceSub, Nat.reduceMul, Nat.reduceDiv, Nat.reduceMod, Nat.reduceLeDiff, Nat.reduceLT, Nat.reduceBEq, Int.reduceEq, Int.reduceBEq, Int.reduceBNe, Int.reduceLT, Int.reduceLE, Int.reduceAdd, Int.reduceSub, Int.reduceNeg, Int.reduceToNat, Int.reducePow, Nat.reducePow, Int.reduceMul, Int.reduceDiv, ↓s_law_CursorHolds_b3, hge, hix, hc2, hc3, enterK_eq hp]
    exact ih

end Go.Proofs.Ytmbppjilnnjdaaa

/-
  Chapter 42: the law CursorHolds: the map of what was touched; plain words about the loop in which others come and go.
  Conditions: none. By an AI agent.
-/
set_option maxRecDepth 10000
set_option linter.unusedSimpArgs false
set_option linter.unusedVariables false
namespace Go.Proofs.Ytmbppjilnnjdaaa
open Go Eng

/-! ### A map of strings -/
theorem keq_str {k j : ByteArray} : keq (.string k) (.string j) = true ↔ k = j := by
  have := keq_iff (d := .string) (a := .string k) (b := .string j) rfl rfl
  rw [this]
  exact ⟨fun h => by cases h; rfl, fun h => by rw [h]⟩
theorem key_str {v : Value} (h : keyOk .string v = true) : ∃ s, v = .string s := by
  cases v <;> simp [keyOk] at h
  exact ⟨_, rfl⟩
theorem mget_mput {es : List (Value × Value)} (hes : ∀ p ∈ es, keyOk .string p.1 = true) (k j : ByteArray) (v : Value) : mget (mput es (.string k) v) (.string j) = if k = j then some v else mget es (.string j) := by
  by_cases h : ∃ p ∈ es, p.1 = .string k
  · rw [mput_has (d := .string) rfl hes h]
    unfold mget
    rw [List.find?_map]
    have e : ((fun p : Value × Value => keq (.string j) p.1) ∘ fun p => if keq (.string k) p.1 = true then (p.1, v) else p) = fun p => keq (.string j) p.1 := by
      funext p
      simp only [Function.comp]
      split <;> rfl
    rw [e]
    cases hf : es.find? (fun p => keq (.string j) p.1) with
    | none =>
      by_cases hkj : k = j
      · subst hkj
        obtain ⟨p, hp, hpk⟩ := h
        rw [List.find?_eq_none] at hf
        exact absurd (by rw [hpk]; exact keq_str.2 rfl) (hf p hp)
      · rw [if_neg hkj]; rfl
    | some q =>
      have hq : keq (.string j) q.1 = true := List.find?_some (p := fun p : Value × Value => keq (.string j) p.1) hf
      obtain ⟨s, hs⟩ := key_str (hes q (List.mem_of_find?_eq_some hf))
      rw [hs] at hq
      obtain rfl := keq_str.1 hq
      simp only [Option.map_some, hs]
      by_cases hkj : k = j
      · subst hkj
        rw [if_pos (keq_str.2 rfl), if_pos rfl]
      · rw [if_neg fun h => hkj (keq_str.1 h), if_neg hkj]
  · have hno : ∀ p ∈ es, p.1 ≠ .string k := fun p hp he => h ⟨p, hp, he⟩
    rw [mput_new (d := .string) rfl hes hno]
    unfold mget
    rw [List.find?_append]
    by_cases hkj : k = j
    · subst hkj
      have : es.find? (fun p => keq (.string k) p.1) = none := by
        rw [List.find?_eq_none]
        intro p hp hq
        obtain ⟨s, hs⟩ := key_str (hes p hp)
        rw [hs] at hq
        obtain rfl := keq_str.1 hq
        exact hno p hp hs
      rw [this, if_pos rfl]
      simp [keq_str.2 rfl]
    · rw [if_neg hkj]
      have : keq (.string j) (.string k) = false := by
        cases hq : keq (.string j) (.string k) with
        | false => rfl
        | true => exact absurd (keq_str.1 hq).symm hkj
      cases hf : es.find? (fun p => keq (.string j) p.1) with
      | none => simp [this]
      | some q => simp
theorem mput_ok {es : List (Value × Value)} (hes : ∀ p ∈ es, keyOk .string p.1 = true) (k : ByteArray) (v : Value) : ∀ p ∈ mput es (.string k) v, keyOk .string p.1 = true := by
  intro p hp
  unfold mput at hp
  split at hp
  · obtain ⟨q, hq, rfl⟩ := List.mem_map.1 hp
    split
    · exact hes q hq
    · exact hes q hq
  · rcases List.mem_append.1 hp with hp | hp
    · exact hes p hp
    · rw [List.mem_singleton] at hp; subst hp; rfl
def inT (Z : List ByteArray) (k : ByteArray) : Bool := Z.any fun s => decide (s = k)
theorem inT_iff {Z : List ByteArray} {k : ByteArray} : inT Z k = true ↔ k ∈ Z := by
  unfold inT
  rw [List.any_eq_true]
  constructor
  · rintro ⟨s, hs, h⟩; rw [← of_decide_eq_true h]; exact hs
  · exact fun h => ⟨k, h, decide_eq_true rfl⟩
/-- The map's keys are the strings of a list, each with true. -/
structure TmS (es : List (Value × Value)) (Z : List ByteArray) : Prop where
  ok : ∀ p ∈ es, keyOk .string p.1 = true
  get : ∀ k, mget es (.string k) = if inT Z k = true then some (.bool true) else none
theorem TmS.nil : TmS [] [] := ⟨(fun p hp => by cases hp), fun k => rfl⟩
theorem TmS.put {es : List (Value × Value)} {Z : List ByteArray} (t : TmS es Z) (k : ByteArray) : TmS (mput es (.string k) (.bool true)) (k :: Z) := by
  refine ⟨mput_ok t.ok k _, fun j => ?_⟩
  have e : inT (k :: Z) j = (decide (k = j) || inT Z j) := rfl
  rw [mget_mput t.ok, t.get, e]
  by_cases h : k = j
  · rw [if_pos h, decide_eq_true h]; rfl
  · rw [if_neg h, decide_eq_false h, Bool.false_or]
theorem und_T : Try.prog.underlying T.map_string_bool = some (.map T.string T.bool) := by kernel_rfl
theorem desc_str : keyDesc Try.prog T.string = some .string := by kernel_rfl
theorem zero_bool : zero? Try.prog T.bool = some (.bool false) := by kernel_rfl
theorem upd_T {es : List (Value × Value)} {Z : List ByteArray} (t : TmS es Z) {bt : Nat} {H : AHeap} (hH : H.f bt = .map es) (k : ByteArray) : xmapUpdate Try.prog T.map_string_bool (.map (some bt)) (.string k) (.bool true) H = some (H.set bt (.map (mput es (.string k) (.bool true)))) := by
  have h1 : es.all (fun p => keyOk .string p.1) = true := List.all_eq_true.2 t.ok
  have h2 : keyOk .string (.string k) = true := rfl
  unfold xmapUpdate
  simp only [und_T, desc_str, entries, hH, h1, h2, if_true, Option.map_some]
theorem look_T {es : List (Value × Value)} {Z : List ByteArray} (t : TmS es Z) {bt : Nat} {H : AHeap} (hH : H.f bt = .map es) (k : ByteArray) : xlookup Try.prog T.map_string_bool (.map (some bt)) (.string k) false H = some (.bool (inT Z k)) := by
  have h1 : es.all (fun p => keyOk .string p.1) = true := List.all_eq_true.2 t.ok
  have h2 : keyOk .string (.string k) = true := rfl
  unfold xlookup
  simp only [und_T, desc_str, zero_bool, entries, hH, h1, h2, if_true, Option.map_some, t.get]
  cases inT Z k <;> rfl

/-! ### Plain words -/
theorem nodup_le {α : Type} [DecidableEq α] : ∀ {l m : List α}, l.Nodup → (∀ x ∈ l, x ∈ m) → l.length ≤ m.length
  | [], _, _, _ => Nat.zero_le _
  | x :: l, m, h, hs => by
    obtain ⟨h1, h2⟩ := List.nodup_cons.1 h
    have hx : x ∈ m := hs x List.mem_cons_self
    have ih := nodup_le (m := m.erase x) h2 fun y hy => (List.mem_erase_of_ne (fun e => h1 (by rw [← e]; exact hy))).2 (hs y (List.mem_cons_of_mem _ hy))
    have := List.length_erase_of_mem hx
    have := List.length_pos_of_mem hx
    rw [List.length_cons]
    omega
theorem has_val {l : List Pr} {k : ByteArray} : (∃ a ∈ l, a.key = k) ↔ (val l k).isSome = true := by
  unfold val
  constructor
  · rintro ⟨a, ha, rfl⟩
    cases h : l.find? fun b => decide (b.key = a.key) with
    | none => rw [List.find?_eq_none] at h; exact absurd (decide_eq_true rfl) (h a ha)
    | some b => rfl
  · intro h
    cases hf : l.find? fun b => decide (b.key = k) with
    | none => rw [hf] at h; cases h
    | some b => exact ⟨b, List.mem_of_find?_eq_some hf, by simpa using List.find?_some hf⟩
theorem val_putE {m : List Pr} (hs : Srt m) (a : Pr) {k : ByteArray} (h : ¬ a.key = k) : val (putE m a).2 k = val m k := by
  unfold putE
  split
  · exact (eff_put hs a).other k h
  · rfl
theorem val_delE {m : List Pr} (hs : Srt m) (a k : ByteArray) (h : ¬ a = k) : val (delE m a) k = val m k := by
  have := (eff_delete hs a).other k h
  unfold delE
  split
  · exact this
  · rfl
/-- One of the others comes or goes. -/
def actF (m : List Pr) (a : Act) : List Pr := if a.what = 3 then (putE m (prA a)).2 else delE m a.key
theorem actF_srt {m : List Pr} (hs : Srt m) (a : Act) : Srt (actF m a) := by
  unfold actF
  split
  · exact srt_putE hs _
  · exact srt_delE hs _
theorem actF_len {m : List Pr} (hl : m.length ≤ 20000) (a : Act) : (actF m a).length ≤ 20000 := by
  unfold actF
  split
  · exact len_putE hl _
  · exact len_delE hl _
theorem val_actF {m : List Pr} (hs : Srt m) (a : Act) {k : ByteArray} (h : ¬ a.key = k) : val (actF m a) k = val m k := by
  unfold actF
  split
  · exact val_putE hs (prA a) h
  · exact val_delE hs a.key k h

/-- How the loop stands: W are the keys that are wanted, A all keys that there are. -/
structure Pl (sf st : ByteArray) (W A : List ByteArray) (m : List Pr) (side : Int) (key : ByteArray) (seen T : List ByteArray) (i : Nat) : Prop where
  ss : seen.Pairwise fun a b => cmpS a b < 0
  sl : seen.length = i
  sd : (side = 1 ∧ seen = []) ∨ (side = 2 ∧ ∀ s ∈ seen, cmpS s key ≤ 0)
  wr : ∀ k ∈ W, inR sf st ⟨k, mk []⟩ = true
  un : ∀ k ∈ W, ¬ k ∈ T → (∃ p ∈ m, p.key = k) ∧ (k ∈ seen ∨ side = 1 ∨ cmpS key k < 0)
  ma : ∀ p ∈ m, p.key ∈ A
  sa : ∀ s ∈ seen, s ∈ A
  srt : Srt m
section
variable {sf st : ByteArray} {W A : List ByteArray} {m : List Pr} {side : Int} {key : ByteArray} {seen T : List ByteArray} {i : Nat}
theorem Pl.le (p : Pl sf st W A m side key seen T i) : i ≤ A.length := by
  rw [← p.sl]
  refine nodup_le (p.ss.imp fun h e => ?_) p.sa
  rw [e, cmpS_self] at h
  omega
theorem Pl.act (p : Pl sf st W A m side key seen T i) (a : Act) (ha : a.key ∈ A) : Pl sf st W A (actF m a) side key seen (a.key :: T) i := by
  refine ⟨p.ss, p.sl, p.sd, p.wr, fun k hk hT => ?_, fun q hq => ?_, p.sa, actF_srt p.srt a⟩
  · have hka : ¬ a.key = k := fun h => hT (by rw [h]; exact List.mem_cons_self)
    obtain ⟨h1, h2⟩ := p.un k hk fun h => hT (List.mem_cons_of_mem _ h)
    refine ⟨?_, h2⟩
    rw [has_val, val_actF p.srt a hka, ← has_val]
    exact h1
  · by_cases h : a.key = q.key
    · rw [← h]; exact ha
    · have h1 : ∃ b ∈ actF m a, b.key = q.key := ⟨q, hq, rfl⟩
      rw [has_val, val_actF p.srt a h, ← has_val] at h1
      obtain ⟨b, hb, he⟩ := h1
      rw [← he]
      exact p.ma b hb
/-- What is wanted, and there, is in the range. -/
theorem Pl.has (p : Pl sf st W A m side key seen T i) {k : ByteArray} (hk : k ∈ W) (h : ∃ q ∈ m, q.key = k) : ∃ j, ∃ h : j < (m.filter (inR sf st)).length, (m.filter (inR sf st))[j].key = k := by
  obtain ⟨q, hq, rfl⟩ := h
  have hr : inR sf st q = true := p.wr q.key hk
  obtain ⟨j, hj, he⟩ := List.mem_iff_getElem.1 (List.mem_filter.2 ⟨hq, hr⟩)
  exact ⟨j, hj, by rw [he]⟩
theorem fwd_behind {R : List Pr} (hs : Srt R) {j : Nat} (hj : j < R.length) (h : side = 1 ∨ (side = 2 ∧ cmpS key R[j].key < 0)) : fwd R side key ≤ j := by
  rcases h with rfl | ⟨rfl, h⟩
  · exact Nat.zero_le _
  · show posG R key ≤ j
    refine Nat.le_of_not_lt fun h' => ?_
    have := (posG_pos hs key).1 j hj h'
    rw [cmpS_swap] at this
    omega
theorem Pl.fin (p : Pl sf st W A m side key seen T i) (h : (m.filter (inR sf st)).length ≤ fwd (m.filter (inR sf st)) side key) : ∀ k ∈ W, ¬ k ∈ T → k ∈ seen := by
  intro k hk hT
  obtain ⟨h1, h2⟩ := p.un k hk hT
  obtain ⟨j, hj, rfl⟩ := p.has hk h1
  have hsR := srt_filter p.srt (inR sf st)
  rcases h2 with h2 | h2 | h2
  · exact h2
  · have := fwd_behind (key := key) hsR hj (.inl h2)
    omega
  · rcases p.sd with ⟨hs1, _⟩ | ⟨hs2, _⟩
    · have := fwd_behind (key := key) hsR hj (.inl hs1)
      omega
    · have := fwd_behind (key := key) hsR hj (.inr ⟨hs2, h2⟩)
      omega
theorem Pl.step (p : Pl sf st W A m side key seen T i) (h : fwd (m.filter (inR sf st)) side key < (m.filter (inR sf st)).length) : Pl sf st W A m 2 (m.filter (inR sf st))[fwd (m.filter (inR sf st)) side key].key (seen ++ [(m.filter (inR sf st))[fwd (m.filter (inR sf st)) side key].key]) T (i + 1) := by
  have hsR := srt_filter p.srt (inR sf st)
  have hmem : (m.filter (inR sf st))[fwd (m.filter (inR sf st)) side key] ∈ m := (List.mem_filter.1 (List.getElem_mem h)).1
  have hlt : ∀ s ∈ seen, cmpS s (m.filter (inR sf st))[fwd (m.filter (inR sf st)) side key].key < 0 := fun s hs => by
    rcases p.sd with ⟨_, h0⟩ | ⟨rfl, h2⟩
    · rw [h0] at hs; cases hs
    · have h3 : ¬ cmpS (m.filter (inR sf st))[fwd (m.filter (inR sf st)) 2 key].key key ≤ 0 := (posG_pos hsR key).2 _ h (Nat.le_refl _)
      have h4 := h2 s hs
      rw [cmpS_swap] at h3
      by_cases he : cmpS s key = 0
      · rw [cmpS_eq.1 he]; omega
      · exact cmpS_trans (show cmpS s key < 0 by omega) (by omega)
  refine ⟨?_, by simp [p.sl], .inr ⟨rfl, fun s hs => ?_⟩, p.wr, fun k hk hT => ?_, p.ma, fun s hs => ?_, p.srt⟩
  · refine List.pairwise_append.2 ⟨p.ss, List.pairwise_singleton _ _, fun a ha b hb => ?_⟩
    rw [List.mem_singleton.1 hb]
    exact hlt a ha
  · rcases List.mem_append.1 hs with hs | hs
    · have := hlt s hs; omega
    · rw [List.mem_singleton.1 hs, cmpS_self]; omega
  · obtain ⟨h1, h2⟩ := p.un k hk hT
    refine ⟨h1, ?_⟩
    obtain ⟨j, hj, rfl⟩ := p.has hk h1
    rcases h2 with h2 | h2
    · exact .inl (List.mem_append_left _ h2)
    · have hle : fwd (m.filter (inR sf st)) side key ≤ j := fwd_behind hsR hj (by
        rcases p.sd with ⟨hs1, _⟩ | ⟨hs2, _⟩
        · exact .inl hs1
        · exact .inr ⟨hs2, by rcases h2 with h2 | h2; omega; exact h2⟩)
      by_cases he : j = fwd (m.filter (inR sf st)) side key
      · subst he
        exact .inl (List.mem_append_right _ (List.mem_singleton.2 rfl))
      · exact .inr (.inr (List.pairwise_iff_getElem.1 hsR _ _ h hj (by omega)))
  · rcases List.mem_append.1 hs with hs | hs
    · exact p.sa s hs
    · rw [List.mem_singleton.1 hs]; exact p.ma _ hmem
end

end Go.Proofs.Ytmbppjilnnjdaaa

/-
  Chapter 42: the law CursorHolds: the loop in which others come and go.
  Conditions: none. By an AI agent.
-/
set_option maxRecDepth 10000
set_option linter.unusedSimpArgs false
set_option linter.unusedVariables false
namespace Go.Proofs.Ytmbppjilnnjdaaa
open Go Eng

/-- The cursor, the map, the row of what was seen, and the map of what was touched. -/
structure T4 (H0 H : AHeap) (bm bc bt : Nat) (m : List Pr) (sf st : ByteArray) (side : Int) (key : ByteArray) (o : Value) (seen : List ByteArray) (es : List (Value × Value)) : Prop where
  ok : Ok H
  fr : Fr (fun c => c = bc ∨ MB H0 bm c) H0 H
  m : Mdl H bm m
  mb : ∀ c, MB H bm c → MB H0 bm c ∨ H0.n ≤ c
  c : Cur H bc sf st side key
  mc : ¬ MB H bm bc
  cl : bc < H0.n
  own : Own EStr H T.string o seen
  slo : ∀ c, blockOf o = some c → H0.n ≤ c
  sm : ∀ c, blockOf o = some c → ¬ MB H bm c
  tf : H.f bt = .map es
  tn : bt < H.n
  tlo : H0.n ≤ bt
  tm : ¬ MB H bm bt
  ts : ∀ c, blockOf o = some c → c ≠ bt
section
variable {H0 H H' : AHeap} {bm bc bt : Nat} {m m' : List Pr} {sf st key key' : ByteArray} {side side' : Int} {o o' : Value} {seen seen' : List ByteArray} {es es' : List (Value × Value)}
theorem T4.still (t : T4 H0 H bm bc bt m sf st side key o seen es) (s : Still H H') : T4 H0 H' bm bc bt m sf st side key o seen es :=
  ⟨t.ok.fr s, t.fr.then s fun _ _ h => h.elim, t.m.still s, fun c h => t.mb c (MBT_still t.m s h), t.c.still s, fun h => t.mc (MBT_still t.m s h), t.cl, t.own.still s, t.slo, fun c hc h => t.sm c hc (MBT_still t.m s h), by rw [s.f t.tn (fun h => h), t.tf], Nat.lt_of_lt_of_le t.tn s.n, t.tlo, fun h => t.tm (MBT_still t.m s h), t.ts⟩
theorem T4.cur (t : T4 H0 H bm bc bt m sf st side key o seen es) (c' : Cur H' bc sf st side' key') (fr : Fr (fun c => c = bc) H H') : T4 H0 H' bm bc bt m sf st side' key' o seen es := by
  obtain ⟨m1, hm⟩ := mdl_off t.m t.mc fr
  have hcl := t.cl
  have htl := t.tlo
  exact ⟨t.ok.fr fr, t.fr.then fr fun c _ h => .inl h, m1, fun c h => t.mb c (hm c h), c', fun h => t.mc (hm _ h), t.cl, t.own.keep fr fun c hc h => by have := t.slo c hc; omega, t.slo, fun c hc h => t.sm c hc (hm _ h), by rw [fr.f t.tn (by omega), t.tf], Nat.lt_of_lt_of_le t.tn fr.n, t.tlo, fun h => t.tm (hm _ h), t.ts⟩
theorem T4.row (t : T4 H0 H bm bc bt m sf st side key o seen es) (own' : Own EStr H' T.string o' seen') (fr : Fr (OnlyOf o) H H') (hb : blockOf o' = blockOf o ∨ blockOf o' = some H.n) : T4 H0 H' bm bc bt m sf st side key o' seen' es := by
  have nb : ¬ OnlyOf o bm := fun h => t.sm bm h (.inl rfl)
  have hbm : bm < H.n := t.m.blk (.inl rfl)
  have e : H'.f bm = H.f bm := fr.f hbm nb
  have hm : ∀ c, MB H' bm c → MB H bm c := fun c h => by
    rcases h with h | ⟨u, hu, hc⟩
    · exact .inl h
    · rw [e] at hu; exact .inr ⟨u, hu, hc⟩
  have hcl := t.cl
  have nc : ¬ OnlyOf o bc := fun h => by have := t.slo bc h; omega
  have n0 := t.fr.n
  have nt : ¬ OnlyOf o bt := fun h => t.ts bt h rfl
  refine ⟨t.ok.fr fr, t.fr.then fr fun c hc h => by have := t.slo c h; omega, t.m.keep fr nb (fun u hu c hc h => t.sm c h (.inr ⟨u, hu, hc⟩)), fun c h => t.mb c (hm c h), ⟨by rw [fr.f t.c.2 nc, t.c.1], Nat.lt_of_lt_of_le t.c.2 fr.n⟩, fun h => t.mc (hm _ h), t.cl, own', fun c hc => ?_, fun c hc h => ?_, by rw [fr.f t.tn nt, t.tf], Nat.lt_of_lt_of_le t.tn fr.n, t.tlo, fun h => t.tm (hm _ h), fun c hc => ?_⟩
  · rcases hb with hb | hb
    · rw [hb] at hc; exact t.slo c hc
    · rw [hb] at hc; cases hc; exact n0
  · have h := hm c h
    rcases hb with hb | hb
    · rw [hb] at hc; exact t.sm c hc h
    · rw [hb] at hc; cases hc; have := t.m.blk h; omega
  · rcases hb with hb | hb
    · rw [hb] at hc; exact t.ts c hc
    · rw [hb] at hc; cases hc; have := t.tn; omega
theorem T4.put (t : T4 H0 H bm bc bt m sf st side key o seen es) (es' : List (Value × Value)) : T4 H0 (H.set bt (.map es')) bm bc bt m sf st side key o seen es' := by
  have fr : Fr (fun c => c = bt) H (H.set bt (.map es')) := Fr.set (Fr.refl H) _ _ fun _ => rfl
  obtain ⟨m1, hm⟩ := mdl_off t.m t.tm fr
  have hcl := t.cl
  have htl := t.tlo
  exact ⟨t.ok.fr fr, t.fr.then fr fun c _ h => by omega, m1, fun c h => t.mb c (hm c h), ⟨by rw [fr.f t.c.2 (by omega), t.c.1], Nat.lt_of_lt_of_le t.c.2 fr.n⟩, fun h => t.mc (hm _ h), t.cl, t.own.keep fr fun c hc h => t.ts c hc h, t.slo, fun c hc h => t.sm c hc (hm _ h), set_f_eq, Nat.lt_of_lt_of_le t.tn fr.n, t.tlo, fun h => t.tm (hm _ h), t.ts⟩
theorem T4.map (t : T4 H0 H bm bc bt m sf st side key o seen es) (m1 : Mdl H' bm m') (u : Up H bm H') : T4 H0 H' bm bc bt m' sf st side key o seen es := by
  have n0 := t.fr.n
  have hcl := t.cl
  have new : ∀ c, c < H.n → MB H' bm c → MB H bm c := fun c hc h => by
    rcases u.mb c h with h | h
    · exact h
    · omega
  refine ⟨t.ok.fr u.fr, t.fr.then u.fr fun c hc h => ?_, m1, fun c h => ?_, ⟨by rw [u.fr.f t.c.2 t.mc, t.c.1], Nat.lt_of_lt_of_le t.c.2 u.fr.n⟩, fun h => t.mc (new _ t.c.2 h), t.cl, t.own.keep u.fr fun c hc h => t.sm c hc h, t.slo, fun c hc h => t.sm c hc (new c (t.own.blk hc) h), by rw [u.fr.f t.tn t.tm, t.tf], Nat.lt_of_lt_of_le t.tn u.fr.n, t.tlo, fun h => t.tm (new _ t.tn h), t.ts⟩
  · rcases t.mb c h with h | h
    · exact .inr h
    · omega
  · rcases u.mb c h with h | h
    · exact t.mb c h
    · exact .inr (by omega)
end

theorem strLit (a : ByteArray) (H : AHeap) : Rd EStr (H.push (.cells [.string a] T.string true)) (.slice (some ⟨H.n, 0, none⟩) 1 2) [a] := by
  refine .inr (.inr ⟨H.n, 0, 2, rfl, by simp, by simp, ?_⟩)
  rw [push_f_eq rfl]
  rfl

theorem Eng.Rd.keepE {α : Type} {E : Enc α} {H H' : AHeap} {v : Value} {l : List α} {S : Nat → Prop} (r : Rd E H v l) (fr : Fr S H H') (h : ¬ l = [] → ∀ c, blockOf v = some c → ¬ S c) : Rd E H' v l := by
  by_cases h0 : l = []
  · rcases r with r | r | ⟨b, o, c, _, hl, _⟩
    · exact .inl r
    · exact .inr (.inl r)
    · exact absurd h0 hl
  · exact r.keep fr (h h0)
theorem l_H4 {H0 : AHeap} {bm bc bt : Nat} {sf st : ByteArray} (l : List Act) (vo w13 w22 : Value) (hr0 : Rd EAct H0 vo l) (hl : l.length ≤ 16) (hvo : ¬ l = [] → ∀ c, blockOf vo = some c → ¬ (c = bc ∨ MB H0 bm c)) (W A : List ByteArray) (hA : A.length ≤ 32) (hlA : ∀ a ∈ l, a.key ∈ A) :
    ∀ (d i : Nat) (H : AHeap) (m : List Pr) (side : Int) (key : ByteArray) (o : Value) (seen Z : List ByteArray) (es : List (Value × Value)), 64 - i = d → T4 H0 H bm bc bt m sf st side key o seen es → TmS es Z → Pl sf st W A m side key seen Z i → m.length ≤ 20000 →
    ∃ H' o' seen' Z' es' m' side' key', T4 H0 H' bm bc bt m' sf st side' key' o' seen' es' ∧ TmS es' Z' ∧ seen'.Pairwise (fun a b => cmpS a b < 0) ∧ seen'.length ≤ 32 ∧ (∀ k ∈ W, ¬ k ∈ Z' → k ∈ seen') ∧
      ∀ K : K, l_law_CursorHolds_4 vo (.pointer (some ⟨bm, 0, none⟩)) (.pointer (some ⟨bc, 0, none⟩)) w13 w22 o (.map (some bt)) (.int .i64 (i : Int)) H (blkK [13, 22, 23, 24] 8 K) = K .normal [(13, w13), (22, w22), (23, o'), (24, .map (some bt))] H'
  | 0, i, H, m, side, key, o, seen, Z, es, hd, t, tz, p, hlm => by
    have := p.le
    omega
  | d + 1, i, H, m, side, key, o, seen, Z, es, hd, t, tz, p, hlm => by
    have hi := p.le
    have hlt : (i : Int) < 64 := by omega
    have h0 : side ≠ 0 := by rcases p.sd with ⟨h, _⟩ | ⟨h, _⟩ <;> omega
    obtain ⟨w, H1, hw, hcall, c1, f1⟩ := q_Next bc bm m sf st key side H t.ok t.c h0 t.m p.srt hlm
    by_cases hend : fwd (m.filter (inR sf st)) side key < (m.filter (inR sf st)).length
    · have p1 := p.step hend
      rw [setC_in hend] at hw
      generalize (m.filter (inR sf st))[fwd (m.filter (inR sf st)) side key] = q at p1 hw
      subst hw
      have hcall : CC F.cursor_Cursor_Next [.pointer (some ⟨bc, 0, none⟩), .pointer (some ⟨bm, 0, none⟩)] H = some (.tuple #[.agg #[.string q.key, .string q.value], .int .i64 0], H1) := hcall
      have t1 : T4 H0 H1 bm bc bt m sf st 2 q.key o seen es := t.cur c1 f1
      generalize hH2 : (H1.push (.cells [.string (mk []), .string (mk [])] T.api_Pair true)).set H1.n (.cells [.string q.key, .string q.value] T.api_Pair true) = H2
      have s2 : Still H1 H2 := by rw [← hH2]; exact Fr.set ((Fr.refl H1).push _) _ _ (fun h => by omega)
      have f2 : H2.f H1.n = .cells [.string q.key, .string q.value] T.api_Pair true := by rw [← hH2]; exact set_f_eq
      have t2 := t1.still s2
      generalize hH3 : H2.push (.cells [.string q.key] T.string true) = H3
      have s3 : Still H2 H3 := by rw [← hH3]; exact (Fr.refl H2).push _
      have t3 := t2.still s3
      have hlit := strLit q.key H2
      rw [hH3] at hlit
      have hsl := p.sl
      obtain ⟨o', H4, happ, ho4, fr4, hb4⟩ := t3.own.appE (m := [q.key]) (sz := 1) (bytes := 16) rfl (by simp; omega) (by simp; omega) (hlit.src (sz := 1) rfl)
      have t4 := t3.row ho4 fr4 hb4
      have hlen := hr0.lenS
      have rd4 : Rd EAct H4 vo l := hr0.keepE t4.fr hvo
      by_cases hil : i < l.length
      · have hlt2 : (i : Int) < (l.length : Int) := by omega
        obtain ⟨a, hxa⟩ : ∃ a, l[i] = a := ⟨_, rfl⟩
        have haA : a.key ∈ A := hlA a (by rw [← hxa]; exact List.getElem_mem hil)
        obtain ⟨b4, p4, hix, _, hc4, _⟩ := rd4.ix (q := .i64) hil
        rw [hxa] at hc4
        have hix : ixS 3 vo (.int .i64 i) = some (.pointer (some ⟨b4, p4, none⟩)) := hix
        have hk4 : cellB (H4.f b4) (p4 + 1) = some (.string a.key) := cutB_cell hc4 (i := 1) (by decide)
        have hupd := upd_T tz t4.tf a.key
        have t5 := t4.put (mput es (.string a.key) (.bool true))
        have tz5 := tz.put a.key
        generalize H4.set bt (.map (mput es (.string a.key) (.bool true))) = H5 at hupd t5
        have rd5 : Rd EAct H5 vo l := hr0.keepE t5.fr hvo
        obtain ⟨b5, p5, hix5, _, hc5, _⟩ := rd5.ix (q := .i64) hil
        rw [hxa] at hc5
        have hix5 : ixS 3 vo (.int .i64 i) = some (.pointer (some ⟨b5, p5, none⟩)) := hix5
        rw [hix] at hix5
        cases hix5
        have hw5 : cellB (H5.f b4) p4 = some (.int .i64 a.what) := cutB_cell hc5 (i := 0) (by decide)
        have hk5 : cellB (H5.f b4) (p4 + 1) = some (.string a.key) := cutB_cell hc5 (i := 1) (by decide)
        have hv5 : cellB (H5.f b4) (p4 + 2) = some (.string a.value) := cutB_cell hc5 (i := 2) (by decide)
        have p2 := p1.act a haA
        have hl2 := actF_len hlm a
        by_cases hw3 : a.what = 3
        · obtain ⟨H6, hput, m6, u6⟩ := q_putM bm m (prA a) H5 t5.ok t5.m p.srt hlm
          have t6 := t5.map m6 u6
          have e6 : actF m a = (putE m (prA a)).2 := by unfold actF; rw [if_pos hw3]
          rw [← e6] at t6
          obtain ⟨H', o'', seen', Z', es', m', side', key', q1, q2, q3, q4, q5, ih⟩ := l_H4 l vo w13 w22 hr0 hl hvo W A hA hlA d (i + 1) H6 _ 2 q.key o' _ _ _ (by omega) t6 tz5 p2 hl2
          refine ⟨H', o'', seen', Z', es', m', side', key', q1, q2, q3, q4, q5, fun K => ?_⟩
          have ih := ih K
          rw [Int.natCast_add] at ih
          generalize (putE m (prA a)).1 = e at hput
          have hput : CC F.model_Model_Put [.pointer (some ⟨bm, 0, none⟩), .string a.key, .string a.value] H5 = some (.int .i64 e, H6) := hput
          rw [r_hB4]
          simp (disch := first | with_reducible rfl | assumption | omega | rfl | (simp only [go_sem]; first | done | omega)) only [go_sem, ↓reduceIte, reduceCtorEq, Nat.reduceEqDiff, Nat.reduceAdd, Nat.reduceSub, Nat.reduceMul, Nat.reduceDiv, Nat.reduceMod, Nat.reduceLeDiff, Nat.reduceLT, Nat.reduceBEq, Int.reduceEq, Int.reduceBEq, Int.reduceBNe, Int.reduceLT, Int.reduceLE, Int.reduceAdd, Int.reduceSub, Int.reduceNeg, Int.reduceToNat, Int.reducePow, Nat.reducePow, Int.reduceMul, Int.reduceDiv, ↓hB4, hlt, enterK_eq hcall, hH2]
          simp (disch := first | with_reducible rfl | assumption | omega | rfl | (simp only [go_sem]; first | done | omega)) only [go_sem, ↓reduceIte, reduceCtorEq, Nat.reduceEqDiff, Nat.reduceAdd, Nat.reduceSub, Nat.reduceMul, Nat.reduceDiv, Nat.reduceMod, Nat.reduceLeDiff, Nat.reduceLT, Nat.reduceBEq, Int.reduceEq, Int.reduceBEq, Int.reduceBNe, Int.reduceLT, Int.reduceLE, Int.reduceAdd, Int.reduceSub, Int.reduceNeg, Int.reduceToNat, Int.reducePow, Nat.reducePow, Int.reduceMul, Int.reduceDiv, ↓hP4, f2, hH3, happ, hlen, hlt2, hix, hk4, hupd, hw5, decide_eq_true hw3, hk5, hv5, enterK_eq hput]
          exact ih
        · obtain ⟨H6, hdel, m6, u6⟩ := q_delM bm m a.key H5 t5.ok t5.m p.srt hlm
          obtain ⟨s, e, hse⟩ := getE_shape m a.key
          rw [hse] at hdel
          have t6 := t5.map m6 u6
          have e6 : actF m a = delE m a.key := by unfold actF; rw [if_neg hw3]
          rw [← e6] at t6
          obtain ⟨H', o'', seen', Z', es', m', side', key', q1, q2, q3, q4, q5, ih⟩ := l_H4 l vo w13 w22 hr0 hl hvo W A hA hlA d (i + 1) H6 _ 2 q.key o' _ _ _ (by omega) t6 tz5 p2 hl2
          refine ⟨H', o'', seen', Z', es', m', side', key', q1, q2, q3, q4, q5, fun K => ?_⟩
          have ih := ih K
          rw [Int.natCast_add] at ih
          rw [r_hB4]
          simp (disch := first | with_reducible rfl | assumption | omega | rfl | (simp only [go_sem]; first | done | omega)) only [go_sem, ↓reduceIte, reduceCtorEq, Nat.reduceEqDiff, Nat.reduceAdd, Nat.reduceSub, Nat.reduceMul, Nat.reduceDiv, Nat.reduceMod, Nat.reduceLeDiff, Nat.reduceLT, Nat.reduceBEq, Int.reduceEq, Int.reduceBEq, Int.reduceBNe, Int.reduceLT, Int.reduceLE, Int.reduceAdd, Int.reduceSub, Int.reduceNeg, Int.reduceToNat, Int.reducePow, Nat.reducePow, Int.reduceMul, Int.reduceDiv, ↓hB4, hlt, enterK_eq hcall, hH2]
          simp (disch := first | with_reducible rfl | assumption | omega | rfl | (simp only [go_sem]; first | done | omega)) only [go_sem, ↓reduceIte, reduceCtorEq, Nat.reduceEqDiff, Nat.reduceAdd, Nat.reduceSub, Nat.reduceMul, Nat.reduceDiv, Nat.reduceMod, Nat.reduceLeDiff, Nat.reduceLT, Nat.reduceBEq, Int.reduceEq, Int.reduceBEq, Int.reduceBNe, Int.reduceLT, Int.reduceLE, Int.reduceAdd, Int.reduceSub, Int.reduceNeg, Int.reduceToNat, Int.reducePow, Nat.reducePow, Int.reduceMul, Int.reduceDiv, ↓hP4, f2, hH3, happ, hlen, hlt2, hix, hk4, hupd, hw5, decide_eq_false hw3, hk5, enterK_eq hdel]
          exact ih
      · have hlt2 : ¬ (i : Int) < (l.length : Int) := by omega
        obtain ⟨H', o'', seen', Z', es', m', side', key', q1, q2, q3, q4, q5, ih⟩ := l_H4 l vo w13 w22 hr0 hl hvo W A hA hlA d (i + 1) H4 m 2 q.key o' _ _ _ (by omega) t4 tz p1 hlm
        refine ⟨H', o'', seen', Z', es', m', side', key', q1, q2, q3, q4, q5, fun K => ?_⟩
        have ih := ih K
        rw [Int.natCast_add] at ih
        rw [r_hB4]
        simp (disch := first | with_reducible rfl | assumption | omega | rfl | (simp only [go_sem]; first | done | omega)) only [go_sem, ↓reduceIte, reduceCtorEq, Nat.reduceEqDiff, Nat.reduceAdd, Nat.reduceSub, Nat.reduceMul, Nat.reduceDiv, Nat.reduceMod, Nat.reduceLeDiff, Nat.reduceLT, Nat.reduceBEq, Int.reduceEq, Int.reduceBEq, Int.reduceBNe, Int.reduceLT, Int.reduceLE, Int.reduceAdd, Int.reduceSub, Int.reduceNeg, Int.reduceToNat, Int.reducePow, Nat.reducePow, Int.reduceMul, Int.reduceDiv, ↓hB4, hlt, enterK_eq hcall, hH2]
        simp (disch := first | with_reducible rfl | assumption | omega | rfl | (simp only [go_sem]; first | done | omega)) only [go_sem, ↓reduceIte, reduceCtorEq, Nat.reduceEqDiff, Nat.reduceAdd, Nat.reduceSub, Nat.reduceMul, Nat.reduceDiv, Nat.reduceMod, Nat.reduceLeDiff, Nat.reduceLT, Nat.reduceBEq, Int.reduceEq, Int.reduceBEq, Int.reduceBNe, Int.reduceLT, Int.reduceLE, Int.reduceAdd, Int.reduceSub, Int.reduceNeg, Int.reduceToNat, Int.reducePow, Nat.reducePow, Int.reduceMul, Int.reduceDiv, ↓hP4, f2, hH3, happ, hlen, hlt2]
        exact ih
    · rw [setC_out (by omega)] at hw
      subst hw
      have hcall : CC F.cursor_Cursor_Next [.pointer (some ⟨bc, 0, none⟩), .pointer (some ⟨bm, 0, none⟩)] H = some (.tuple #[.agg #[.string (mk []), .string (mk [])], .int .i64 17], H1) := hcall
      have t1 := t.cur c1 f1
      generalize hH2 : (H1.push (.cells [.string (mk []), .string (mk [])] T.api_Pair true)).set H1.n (.cells [.string (mk []), .string (mk [])] T.api_Pair true) = H2
      have s2 : Still H1 H2 := by rw [← hH2]; exact Fr.set ((Fr.refl H1).push _) _ _ (fun h => by omega)
      refine ⟨H2, o, seen, Z, es, m, _, _, t1.still s2, tz, p.ss, by rw [p.sl]; omega, p.fin (by omega), fun K => ?_⟩
      rw [r_hB4]
      simp (disch := first | with_reducible rfl | assumption | omega | rfl | (simp only [go_sem]; first | done | omega)) only [go_sem, ↓reduceIte, reduceCtorEq, Nat.reduceEqDiff, Nat.reduceAdd, Nat.reduceSub, Nat.reduceMul, Nat.reduceDiv, Nat.reduceMod, Nat.reduceLeDiff, Nat.reduceLT, Nat.reduceBEq, Int.reduceEq, Int.reduceBEq, Int.reduceBNe, Int.reduceLT, Int.reduceLE, Int.reduceAdd, Int.reduceSub, Int.reduceNeg, Int.reduceToNat, Int.reducePow, Nat.reducePow, Int.reduceMul, Int.reduceDiv, ↓hB4, hlt, enterK_eq hcall, hH2]

/-! ### What was wanted was seen once -/
def cntK (Z : List ByteArray) (k : ByteArray) : Nat := Z.countP fun s => decide (s = k)
theorem cnt_one : ∀ {Z : List ByteArray} {k : ByteArray}, Z.Pairwise (fun a b => cmpS a b < 0) → k ∈ Z → cntK Z k = 1
  | [], _, _, h => by cases h
  | s :: Z, k, hp, h => by
    obtain ⟨h1, h2⟩ := List.pairwise_cons.1 hp
    unfold cntK
    rw [List.countP_cons]
    by_cases hs : s = k
    · have : Z.countP (fun s => decide (s = k)) = 0 := by
        rw [List.countP_eq_zero]
        intro t ht hk
        have := h1 t ht
        rw [hs, of_decide_eq_true hk, cmpS_self] at this
        omega
      rw [this, decide_eq_true hs]
      rfl
    · rw [decide_eq_false hs]
      have := cnt_one h2 ((List.mem_cons.1 h).resolve_left fun e => hs e.symm)
      unfold cntK at this
      rw [this]
      rfl
theorem l_H6 (Z : List ByteArray) (R : List Pr) (v23 w13 w22 w24 : Value) (H : AHeap) (hz : Rd EStr H v23 Z) (hlz : Z.length ≤ 1000) (hr : Rd EPr H w13 R) {j : Nat} (hj : j < R.length) (K : K) : ∀ (x : List ByteArray) (i n : Nat), Z.drop i = x → n ≤ i → i ≤ Z.length →
    l_law_CursorHolds_6 w13 w22 v23 w24 (.int .i64 (j : Int)) (.int .i64 (n : Int)) (.int .i64 (i : Int)) H (blkK [13, 22, 23, 24, 28, 31] 12 K) = K .normal [(13, w13), (22, w22), (23, v23), (24, w24), (28, .int .i64 (j : Int)), (31, .int .i64 ((n + cntK x R[j].key : Nat) : Int))] H
  | [], i, n, hx, hn, hi => by
    have h : Z.length ≤ i := List.drop_eq_nil_iff.1 hx
    have hlt : ¬ (i : Int) < (Z.length : Int) := by omega
    have hlen := hz.lenS
    rw [r_law_CursorHolds_6]
    simp (disch := first | with_reducible rfl | assumption | omega | rfl | (simp only [go_sem]; first | done | omega)) only [go_sem, ↓reduceIte, reduceCtorEq, Nat.reduceEqDiff, Nat.reduceAdd, Nat.reduceSub, Nat.reduceMul, Nat.reduceDiv, Nat.reduceMod, Nat.reduceLeDiff, Nat.reduceLT, Nat.reduceBEq, Int.reduceEq, Int.reduceBEq, Int.reduceBNe, Int.reduceLT, Int.reduceLE, Int.reduceAdd, Int.reduceSub, Int.reduceNeg, Int.reduceToNat, Int.reducePow, Nat.reducePow, Int.reduceMul, Int.reduceDiv, ↓s_law_CursorHolds_b6, hlen, hlt]
    rfl
  | s :: x, i, n, hx, hn, hi => by
    obtain ⟨h, hxa, hx'⟩ := drop_cons hx
    have hlt : (i : Int) < (Z.length : Int) := by omega
    have hlen := hz.lenS
    obtain ⟨b1, o1, hix, _, hc1, _⟩ := hz.ix (q := .i64) h
    rw [hxa] at hc1
    have hix : ixS 1 v23 (.int .i64 i) = some (.pointer (some ⟨b1, o1, none⟩)) := hix
    have hc1 : cellB (H.f b1) o1 = some (.string s) := cutB_cell hc1 (i := 0) (by decide)
    obtain ⟨b2, o2, hix2, _, hc2, _⟩ := hr.ix (q := .i64) hj
    have hix2 : ixS 2 w13 (.int .i64 (j : Int)) = some (.pointer (some ⟨b2, o2, none⟩)) := hix2
    have hc2 : cellB (H.f b2) o2 = some (.string R[j].key) := cutB_cell hc2 (i := 0) (by decide)
    have e : cntK (s :: x) R[j].key = cntK x R[j].key + if decide (s = R[j].key) = true then 1 else 0 := List.countP_cons
    by_cases hs : bl s = bl R[j].key
    · have ih := l_H6 Z R v23 w13 w22 w24 H hz hlz hr hj K x (i + 1) (n + 1) hx' (by omega) h
      rw [e, decide_eq_true (bl_inj hs), if_pos rfl, show n + (cntK x R[j].key + 1) = n + 1 + cntK x R[j].key by omega]
      rw [Int.natCast_add i 1, Int.natCast_add n 1] at ih
      rw [r_law_CursorHolds_6]
      simp (disch := first | with_reducible rfl | assumption | omega | rfl | (simp only [go_sem]; first | done | omega)) only [go_sem, ↓reduceIte, reduceCtorEq, Nat.reduceEqDiff, Nat.reduceAdd, Nat.reduceSub, Nat.reduceMul, Nat.reduceDiv, Nat.reduceMod, Nat.reduceLeDiff, Nat.reduceLT, Nat.reduceBEq, Int.reduceEq, Int.reduceBEq, Int.reduceBNe, Int.reduceLT, Int.reduceLE, Int.reduceAdd, Int.reduceSub, Int.reduceNeg, Int.reduceToNat, Int.reducePow, Nat.reducePow, Int.reduceMul, Int.reduceDiv, ↓s_law_CursorHolds_b6, hlen, hlt, hix, hc1, hix2, hc2, decide_eq_true hs]
      exact ih
    · have ih := l_H6 Z R v23 w13 w22 w24 H hz hlz hr hj K x (i + 1) n hx' (by omega) h
      rw [e, decide_eq_false (fun h => hs (by rw [h])), if_neg (by simp), Nat.add_zero]
      rw [Int.natCast_add i 1] at ih
      rw [r_law_CursorHolds_6]
      simp (disch := first | with_reducible rfl | assumption | omega | rfl | (simp only [go_sem]; first | done | omega)) only [go_sem, ↓reduceIte, reduceCtorEq, Nat.reduceEqDiff, Nat.reduceAdd, Nat.reduceSub, Nat.reduceMul, Nat.reduceDiv, Nat.reduceMod, Nat.reduceLeDiff, Nat.reduceLT, Nat.reduceBEq, Int.reduceEq, Int.reduceBEq, Int.reduceBNe, Int.reduceLT, Int.reduceLE, Int.reduceAdd, Int.reduceSub, Int.reduceNeg, Int.reduceToNat, Int.reducePow, Nat.reducePow, Int.reduceMul, Int.reduceDiv, ↓s_law_CursorHolds_b6, hlen, hlt, hix, hc1, hix2, hc2, decide_eq_false hs]
      exact ih
theorem l_H5 (Z S : List ByteArray) (R m0 : List Pr) (v23 w13 : Value) (bf bt : Nat) (es : List (Value × Value)) (H : AHeap) (hz : Rd EStr H v23 Z) (hlz : Z.length ≤ 1000) (hp : Z.Pairwise fun a b => cmpS a b < 0) (hr : Rd EPr H w13 R) (hlR : R.length ≤ 1000) (tz : TmS es S) (tf : H.f bt = .map es) (mf : Mdl H bf m0) (hs : Srt m0) (hlm : m0.length ≤ 20000)
    (hget : ∀ p ∈ R, chk p.key [] = 0 ∧ (val m0 p.key).isSome = true) (hseen : ∀ p ∈ R, ¬ p.key ∈ S → p.key ∈ Z) (K : K) : ∀ (x : List Pr) (j : Nat), R.drop j = x → j ≤ R.length →
    l_law_CursorHolds_5 w13 (.pointer (some ⟨bf, 0, none⟩)) v23 (.map (some bt)) (.int .i64 (j : Int)) H (blkK [23] 10 K) = K .normal [(23, v23)] H
  | [], j, hx, hj => by
    have h : R.length ≤ j := List.drop_eq_nil_iff.1 hx
    have hlt : ¬ (j : Int) < (R.length : Int) := by omega
    have hlen := hr.lenS
    rw [r_law_CursorHolds_5]
    simp (disch := first | with_reducible rfl | assumption | omega | rfl | (simp only [go_sem]; first | done | omega)) only [go_sem, ↓reduceIte, reduceCtorEq, Nat.reduceEqDiff, Nat.reduceAdd, Nat.reduceSub, Nat.reduceMul, Nat.reduceDiv, Nat.reduceMod, Nat.reduceLeDiff, Nat.reduceLT, Nat.reduceBEq, Int.reduceEq, Int.reduceBEq, Int.reduceBNe, Int.reduceLT, Int.reduceLE, Int.reduceAdd, Int.reduceSub, Int.reduceNeg, Int.reduceToNat, Int.reducePow, Nat.reducePow, Int.reduceMul, Int.reduceDiv, ↓s_law_CursorHolds_b5, hlen, hlt]
  | p :: x, j, hx, hj => by
    obtain ⟨h, hxa, hx'⟩ := drop_cons hx
    have hlt : (j : Int) < (R.length : Int) := by omega
    have hlen := hr.lenS
    have hpR : p ∈ R := by rw [← hxa]; exact List.getElem_mem h
    obtain ⟨b1, o1, hix, _, hc1, _⟩ := hr.ix (q := .i64) h
    rw [hxa] at hc1
    have hix : ixS 2 w13 (.int .i64 j) = some (.pointer (some ⟨b1, o1, none⟩)) := hix
    have hc1 : cellB (H.f b1) o1 = some (.string p.key) := cutB_cell hc1 (i := 0) (by decide)
    have hlook := look_T tz tf p.key
    have ih := l_H5 Z S R m0 v23 w13 bf bt es H hz hlz hp hr hlR tz tf mf hs hlm hget hseen K x (j + 1) hx' h
    rw [Int.natCast_add] at ih
    cases hin : inT S p.key with
    | true =>
      rw [hin] at hlook
      rw [r_law_CursorHolds_5]
      simp (disch := first | with_reducible rfl | assumption | omega | rfl | (simp only [go_sem]; first | done | omega)) only [go_sem, ↓reduceIte, reduceCtorEq, Nat.reduceEqDiff, Nat.reduceAdd, Nat.reduceSub, Nat.reduceMul, Nat.reduceDiv, Nat.reduceMod, Nat.reduceLeDiff, Nat.reduceLT, Nat.reduceBEq, Int.reduceEq, Int.reduceBEq, Int.reduceBNe, Int.reduceLT, Int.reduceLE, Int.reduceAdd, Int.reduceSub, Int.reduceNeg, Int.reduceToNat, Int.reducePow, Nat.reducePow, Int.reduceMul, Int.reduceDiv, ↓s_law_CursorHolds_b5, hlen, hlt, hix, hc1, hlook]
      exact ih
    | false =>
      rw [hin] at hlook
      have hnS : ¬ p.key ∈ S := fun h' => by rw [inT_iff.2 h'] at hin; cases hin
      have hg := q_getM bf m0 p.key H mf hs hlm
      obtain ⟨g1, g2⟩ := hget p hpR
      obtain ⟨v, hv⟩ := Option.isSome_iff_exists.1 g2
      have he : getE m0 p.key = .tuple #[.string v, .int .i64 0] := by
        unfold getE
        rw [if_pos g1, getP_val hs, hv]
      rw [he] at hg
      have h6 := fun K => l_H6 Z R v23 w13 (.pointer (some ⟨bf, 0, none⟩)) (.map (some bt)) H hz hlz hr h K Z 0 0 rfl (by omega) (by omega)
      rw [hxa, cnt_one hp (hseen p hpR hnS)] at h6
      rw [r_law_CursorHolds_5]
      simp (disch := first | with_reducible rfl | assumption | omega | rfl | (simp only [go_sem]; first | done | omega)) only [go_sem, ↓reduceIte, reduceCtorEq, Nat.reduceEqDiff, Nat.reduceAdd, Nat.reduceSub, Nat.reduceMul, Nat.reduceDiv, Nat.reduceMod, Nat.reduceLeDiff, Nat.reduceLT, Nat.reduceBEq, Int.reduceEq, Int.reduceBEq, Int.reduceBNe, Int.reduceLT, Int.reduceLE, Int.reduceAdd, Int.reduceSub, Int.reduceNeg, Int.reduceToNat, Int.reducePow, Nat.reducePow, Int.reduceMul, Int.reduceDiv, ↓s_law_CursorHolds_b5, hlen, hlt, hix, hc1, hlook, enterK_eq hg]
      refine (h6 _).trans ?_
      simp (disch := first | with_reducible rfl | assumption | omega | rfl | (simp only [go_sem]; first | done | omega)) only [go_sem, ↓reduceIte, reduceCtorEq, Nat.reduceEqDiff, Nat.reduceAdd, Nat.reduceSub, Nat.reduceMul, Nat.reduceDiv, Nat.reduceMod, Nat.reduceLeDiff, Nat.reduceLT, Nat.reduceBEq, Int.reduceEq, Int.reduceBEq, Int.reduceBNe, Int.reduceLT, Int.reduceLE, Int.reduceAdd, Int.reduceSub, Int.reduceNeg, Int.reduceToNat, Int.reducePow, Nat.reducePow, Int.reduceMul, Int.reduceDiv]
      exact ih
theorem l_H7 (Z : List ByteArray) (v23 : Value) (H : AHeap) (hz : Rd EStr H v23 Z) (hlz : Z.length ≤ 1000) (hp : Z.Pairwise fun a b => cmpS a b < 0) (K : K) : ∀ (d i : Nat), Z.length - i = d → 1 ≤ i →
    l_law_CursorHolds_7 v23 (.int .i64 (i : Int)) H (blkK [] 14 K) = K .normal [] H
  | 0, i, hd, hi => by
    have hlt : ¬ (i : Int) < (Z.length : Int) := by omega
    have hlen := hz.lenS
    rw [r_law_CursorHolds_7]
    simp (disch := first | with_reducible rfl | assumption | omega | rfl | (simp only [go_sem]; first | done | omega)) only [go_sem, ↓reduceIte, reduceCtorEq, Nat.reduceEqDiff, Nat.reduceAdd, Nat.reduceSub, Nat.reduceMul, Nat.reduceDiv, Nat.reduceMod, Nat.reduceLeDiff, Nat.reduceLT, Nat.reduceBEq, Int.reduceEq, Int.reduceBEq, Int.reduceBNe, Int.reduceLT, Int.reduceLE, Int.reduceAdd, Int.reduceSub, Int.reduceNeg, Int.reduceToNat, Int.reducePow, Nat.reducePow, Int.reduceMul, Int.reduceDiv, ↓s_law_CursorHolds_b7, hlen, hlt]
  | d + 1, i, hd, hi => by
    obtain ⟨j, rfl⟩ : ∃ j, i = j + 1 := ⟨i - 1, by omega⟩
    have h1 : j + 1 < Z.length := by omega
    have h0 : j < Z.length := by omega
    have hlt : (j : Int) + 1 < (Z.length : Int) := by omega
    have hlen := hz.lenS
    obtain ⟨b1, o1, hix, _, hc1, _⟩ := hz.ix (q := .i64) h1
    have hix : ixS 1 v23 (.int .i64 ((j + 1 : Nat) : Int)) = some (.pointer (some ⟨b1, o1, none⟩)) := hix
    have hc1 : cellB (H.f b1) o1 = some (.string Z[j + 1]) := cutB_cell hc1 (i := 0) (by decide)
    obtain ⟨b0, o0, hix0, _, hc0, _⟩ := hz.ix (q := .i64) h0
    have hix0 : ixS 1 v23 (.int .i64 (j : Int)) = some (.pointer (some ⟨b0, o0, none⟩)) := hix0
    have hc0 : cellB (H.f b0) o0 = some (.string Z[j]) := cutB_cell hc0 (i := 0) (by decide)
    have hord := List.pairwise_iff_getElem.1 hp j (j + 1) h0 h1 (by omega)
    have hle : ¬ cmpS Z[j + 1] Z[j] ≤ 0 := by rw [cmpS_swap]; omega
    have ih := l_H7 Z v23 H hz hlz hp K d (j + 1 + 1) (by omega) (by omega)
    have hsub : ∀ ox oy, xbin Try.prog .sub T.int ox oy (.int .i64 ((j : Int) + 1)) (.int .i64 1) = some (.int .i64 (j : Int)) := fun ox oy => by
      simp (disch := first | with_reducible rfl | assumption | omega | rfl | (simp only [go_sem]; first | done | omega)) only [go_sem, ↓reduceIte, reduceCtorEq, Nat.reduceEqDiff, Nat.reduceAdd, Nat.reduceSub, Nat.reduceMul, Nat.reduceDiv, Nat.reduceMod, Nat.reduceLeDiff, Nat.reduceLT, Nat.reduceBEq, Int.reduceEq, Int.reduceBEq, Int.reduceBNe, Int.reduceLT, Int.reduceLE, Int.reduceAdd, Int.reduceSub, Int.reduceNeg, Int.reduceToNat, Int.reducePow, Nat.reducePow, Int.reduceMul, Int.reduceDiv]
      congr 2
      omega
    have e1 : ((j + 1 : Nat) : Int) = (j : Int) + 1 := by omega
    have e2 : ((j + 1 + 1 : Nat) : Int) = (j : Int) + 1 + 1 := by omega
    rw [e2] at ih
    rw [e1] at hix ⊢
    rw [r_law_CursorHolds_7]
    simp (disch := first | with_reducible rfl | assumption | omega | rfl | (simp only [go_sem]; first | done | omega)) only [go_sem, ↓reduceIte, reduceCtorEq, Nat.reduceEqDiff, Nat.reduceAdd, Nat.reduceSub, Nat.reduceMul, Nat.reduceDiv, Nat.reduceMod, Nat.reduceLeDiff, Nat.reduceLT, Nat.reduceBEq, Int.reduceEq, Int.reduceBEq, Int.reduceBNe, Int.reduceLT, Int.reduceLE, Int.reduceAdd, Int.reduceSub, Int.reduceNeg, Int.reduceToNat, Int.reducePow, Nat.reducePow, Int.reduceMul, Int.reduceDiv, ↓s_law_CursorHolds_b7, hlen, hlt, hix, hc1, hsub, hix0, hc0, leq_cmpS, decide_eq_false hle]
    exact ih

end Go.Proofs.Ytmbppjilnnjdaaa

/-
  Chapter 42: the law CursorHolds runs to true.
  Conditions: none. By an AI agent.
-/
set_option maxRecDepth 10000
set_option linter.unusedSimpArgs false
set_option linter.unusedVariables false
namespace Go.Proofs.Ytmbppjilnnjdaaa
open Go Eng

theorem chk_key' {k v : ByteArray} (h : chk k [v] = 0) : chk k [] = 0 := by
  unfold chk at h ⊢
  split at h
  · cases h
  · rename_i h1
    rw [if_neg h1]
    split at h
    · cases h
    · rename_i h2
      rw [if_neg]
      intro h3
      apply h2
      simp at h3 ⊢
      exact .inl h3
theorem key_putE {m : List Pr} (hs : Srt m) (a : Pr) : ∀ p ∈ (putE m a).2, p.key = a.key ∨ ∃ q ∈ m, q.key = p.key := fun p hp => by
  by_cases h : a.key = p.key
  · exact .inl h.symm
  · refine .inr ?_
    have h1 : ∃ b ∈ (putE m a).2, b.key = p.key := ⟨p, hp, rfl⟩
    rw [has_val, val_putE hs a h, ← has_val] at h1
    exact h1
theorem key_fillA : ∀ (l : List Act) (m : List Pr), Srt m → ∀ p ∈ fillA m l, (∃ q ∈ m, q.key = p.key) ∨ ∃ a ∈ l, a.key = p.key
  | [], m, _, p, hp => .inl ⟨p, hp, rfl⟩
  | a :: l, m, hs, p, hp => by
    rcases key_fillA l (putE m (prA a)).2 (srt_putE hs _) p hp with ⟨q, hq, he⟩ | ⟨b, hb, he⟩
    · rcases key_putE hs (prA a) q hq with h | ⟨r, hr, h⟩
      · exact .inr ⟨a, List.mem_cons_self, by rw [← he, h]; rfl⟩
      · exact .inl ⟨r, hr, by rw [h, he]⟩
    · exact .inr ⟨b, List.mem_cons_of_mem _ hb, he⟩
theorem make_T (H : AHeap) : xmakeMap Try.prog T.map_string_bool none H = some (.map (some H.n), H.push (.map [])) := by
  unfold xmakeMap
  simp only [und_T]

theorem q_Holds (a b : ByteArray) (l others : List Act) (va vo : Value) (H : AHeap) (ok : Ok H) (hr : Rd EAct H va l) (hro : Rd EAct H vo others) (hll : l.length ≤ 16) (hlo : others.length ≤ 16) (h1 : ¬ 24 < ((bl a).length : Int)) (h2 : ¬ 24 < ((bl b).length : Int)) (h3 : bl b = [] ∨ ¬ cmpS b a ≤ 0) :
    ∃ H', hM0 (endK Try.prog [.tmp 8]) [(0, .string a), (1, .string b), (2, va), (3, vo)] H = some (.bool true, H') := by
  -- the map
  generalize hH1 : H.push (.cells [.slice none 0 0] T.model_Model true) = H1
  have s1 : Still H H1 := by rw [← hH1]; exact (Fr.refl H).push _
  have n1 : H1.n = H.n + 1 := by rw [← hH1]; rfl
  have f1 : H1.f H.n = .cells [.slice none 0 0] T.model_Model true := by rw [← hH1]; exact push_f_eq rfl
  have t1 : MdlS H H1 H.n [] := ⟨ok.fr s1, s1, ⟨_, f1, by omega, .inl ⟨rfl, rfl⟩, by simp [blockOf]⟩, fun c h => by
    rcases h with h | ⟨u, hu, hb⟩
    · omega
    · rw [f1] at hu; cases hu; cases hb⟩
  obtain ⟨H2, t2, hl0⟩ := l_H0 l va (.string a) (.string b) vo H H.n hr (by omega) l 0 H1 [] rfl t1 List.Pairwise.nil (by simp) (by omega)
  obtain ⟨ms, mo, ml⟩ := fillA_ok l [] List.Pairwise.nil (fun p hp => by cases hp) (by simp; omega)
  have mky := key_fillA l [] List.Pairwise.nil
  generalize fillA [] l = m at *
  simp only [List.length_nil, Nat.zero_add] at ml
  have n2 : H.n < H2.n := t2.m.blk (.inl rfl)
  -- the cursor
  have hnew := q_New a b H2 h1 h2 h3
  have s3 : Still H2 (newH a b H2) := (Fr.refl H2).push _
  have f3 : (newH a b H2).f H2.n = .cells [.string a, .string b, .int .i64 1, .string (mk [])] T.cursor_Cursor true := push_f_eq rfl
  have n3 : (newH a b H2).n = H2.n + 1 := rfl
  generalize newH a b H2 = H3 at *
  have c3 : Cur H3 H2.n a b 1 (mk []) := ⟨f3, by omega⟩
  have m3 := t2.m.still s3
  obtain ⟨v15, H4, hp4, ho4, s4, hn4⟩ := q_Pairs H.n m H3 m3 (by omega)
  obtain ⟨H5, w13, s5, ow5, how, hl1⟩ := l_H1 m v15 vo (.pointer (some ⟨H.n, 0, none⟩)) (.pointer (some ⟨H2.n, 0, none⟩)) (.slice none 0 0) a b H4 ho4.rd (by omega) m 0 H4 (.slice none 0 0) [] rfl (Fr.refl H4) (.inl ⟨rfl, rfl⟩) (fun c hc => by cases hc) (by simp) (by omega)
  rw [List.nil_append] at ow5
  have s35 : Still H3 H5 := s4.still.then s5 fun _ _ h => h
  have s25 : Still H2 H5 := s3.still.then s35 fun _ _ h => h
  have n35 := s35.n
  have n34 := s4.n
  have ok5 : Ok H5 := t2.ok.fr s25
  have mb5 : ∀ c, MB H5 H.n c → H.n ≤ c ∧ c < H2.n := fun c h => by
    have h := MBT_still t2.m s25 h
    exact ⟨t2.lo c h, t2.m.blk h⟩
  obtain ⟨R, hR⟩ : ∃ R, m.filter (inR a b) = R := ⟨_, rfl⟩
  rw [hR] at ow5
  have g : Go2 H5 H.n H2.n m R a b w13 := ⟨ok5, t2.m.still s25, fun h => by have := (mb5 _ h).2; omega, by omega, ms, by omega, hR.symm, ow5.rd, fun c hc => by have := how c hc; omega⟩
  obtain ⟨hsR, hlR⟩ := g.rs
  obtain ⟨H6, og, fr6, c6, og6, hl2⟩ := l_H2 g vo R.length 0 H5 (.slice none 0 0) (by omega) (by omega) (Fr.refl H5) (c3.still s35) (.inl ⟨by simp, rfl⟩) fun c hc => by cases hc
  have hlen6 := og6.rd.lenS
  have hlenw6 := (g.at_ fr6).2.lenS
  have hbeh := q_Behind H2.n a b (mk []) 3 H6 c6 (by omega)
  have hbeh : CC F.cursor_Cursor_Behind [.pointer (some ⟨H2.n, 0, none⟩)] H6 = some (.bool true, H6) := hbeh
  obtain ⟨H7, sd, ky, fr7, c7, hne7, hb7, hl3⟩ := l_H3 g vo R.length H6 3 (mk []) (Nat.le_refl _) fr6 c6 (by omega) rfl
  obtain ⟨w, G8, hw, hcall8, c8', f8'⟩ := q_Prev H2.n H.n m a b ky sd H7 (ok5.fr fr7) c7 hne7 (g.at_ fr7).1 ms (by omega)
  rw [hR, hb7, setC_out (by omega)] at hw
  obtain ⟨H8, hpr, c8, f8⟩ := q_lprev H2.n H.n a b ky sd w H7 G8 (ok5.fr fr7) c7 hcall8 c8' f8'
  subst hw
  have hpr : CC F.law_prev [.pointer (some ⟨H2.n, 0, none⟩), .pointer (some ⟨H.n, 0, none⟩), .string (mk []), .string (mk []), .int .i64 17] H7 = some (.bool true, H8) := hpr
  have c8 : Cur H8 H2.n a b 1 (mk []) := c8
  have hbef : CC F.cursor_Cursor_Before [.pointer (some ⟨H2.n, 0, none⟩)] H8 = some (.bool true, H8) := q_Before H2.n a b (mk []) 1 H8 c8 (by omega)
  have fr8 : Fr (fun c => c = H2.n) H5 H8 := fr7.then f8 fun _ _ h => h
  obtain ⟨m8, rd8⟩ := g.at_ fr8
  have n58 := fr8.n
  have mb8 : ∀ c, MB H8 H.n c → H.n ≤ c ∧ c < H2.n := fun c h => mb5 c ((mdl_off g.md g.mc fr8).2 c h)
  -- others
  obtain ⟨bf, H9, hcp, mf9, s9, hbf, hmbf⟩ := q_MCopy H.n m H8 m8 (by omega)
  have n89 := s9.n
  have mb9 : ∀ c, MB H9 H.n c → H.n ≤ c ∧ c < H2.n := fun c h => mb8 c (MBT_still m8 s9 h)
  have hmk := make_T H9
  have s10 : Still H9 (H9.push (.map [])) := (Fr.refl H9).push _
  have f10 : (H9.push (.map [])).f H9.n = .map [] := push_f_eq rfl
  have n10 : (H9.push (.map [])).n = H9.n + 1 := rfl
  generalize H9.push (.map []) = H10 at *
  have ok9 : Ok H9 := (ok5.fr fr8).fr s9
  have m9 := m8.still s9
  have t10 : T4 H9 H10 H.n H2.n H9.n m a b 1 (mk []) (.slice none 0 0) [] [] := ⟨ok9.fr s10, s10.still, m9.still s10, fun c h => .inl (MBT_still m9 s10 h), (c8.still s9).still s10, fun h => by have := (mb9 _ (MBT_still m9 s10 h)).2; omega, by omega, .inl ⟨rfl, rfl⟩, (fun c hc => by cases hc), (fun c hc => by cases hc), f10, by omega, Nat.le_refl _, fun h => by have := (mb9 _ (MBT_still m9 s10 h)).2; omega, fun c hc => by cases hc⟩
  have s09 : Still H H9 := ((t2.base.still.then s25 fun _ _ h => h).still.then fr8 fun c hc h => by omega).still.then s9 fun _ _ h => h
  have hro9 := hro.still s09
  have hvo : ¬ others = [] → ∀ c, blockOf vo = some c → ¬ (c = H2.n ∨ MB H9 H.n c) := fun h0 c hc h => by
    obtain ⟨bb, oo, cc, rfl, hb, _⟩ := hro.elem (List.length_pos_iff.2 h0)
    obtain rfl : bb = c := by cases hc; rfl
    rcases h with h | h
    · omega
    · have := (mb9 _ h).1; omega
  have memR : ∀ p ∈ R, p ∈ m ∧ inR a b p = true := fun p hp => by rw [← hR] at hp; exact List.mem_filter.1 hp
  have pl : Pl a b (R.map Pr.key) (l.map Act.key ++ others.map Act.key) m 1 (mk []) [] [] 0 := by
    refine ⟨List.Pairwise.nil, rfl, .inl ⟨rfl, rfl⟩, fun k hk => ?_, fun k hk _ => ?_, fun p hp => ?_, (fun s hs => by cases hs), ms⟩
    · obtain ⟨p, hp, rfl⟩ := List.mem_map.1 hk
      exact (memR p hp).2
    · obtain ⟨p, hp, rfl⟩ := List.mem_map.1 hk
      exact ⟨⟨p, (memR p hp).1, rfl⟩, .inr (.inl rfl)⟩
    · rcases mky p hp with ⟨q, hq, _⟩ | ⟨q, hq, he⟩
      · cases hq
      · exact List.mem_append_left _ (List.mem_map.2 ⟨q, hq, he⟩)
  obtain ⟨H11, o', Z, S, es, m', sd', ky', t11, tz, hp, hlz, hseen, hl4⟩ := l_H4 others vo w13 (.pointer (some ⟨bf, 0, none⟩)) hro9 hlo hvo (R.map Pr.key) (l.map Act.key ++ others.map Act.key) (by simp; omega) (fun x hx => List.mem_append_right _ (List.mem_map.2 ⟨x, hx, rfl⟩)) 64 0 H10 m 1 (mk []) (.slice none 0 0) [] [] [] rfl t10 TmS.nil pl (by omega)
  have rd9 := rd8.still s9
  have rd11 : Rd EPr H11 w13 R := rd9.keep t11.fr fun c hc h => by
    have h1 := how c hc
    rcases h with h | h
    · omega
    · have := (mb9 c h).2; omega
  have mf11 : Mdl H11 bf m := mf9.keep t11.fr (fun h => by
    rcases h with h | h
    · omega
    · have := (mb9 _ h).2; omega) fun u hu c hc h => by
    have h1 := hmbf c (.inr ⟨u, hu, hc⟩)
    rcases h with h | h
    · omega
    · have := (mb9 _ h).2; omega
  have hl5 := fun K => l_H5 Z S R m o' w13 bf H9.n es H11 t11.own.rd (by omega) hp rd11 hlR tz t11.tf mf11 ms (by omega) (fun p hp => ⟨chk_key' (mo p (memR p hp).1), has_val.1 ⟨p, (memR p hp).1, rfl⟩⟩) (fun p hp hn => hseen p.key (List.mem_map.2 ⟨p, hp, rfl⟩) hn) K R 0 rfl (by omega)
  have hl7 := fun K => l_H7 Z o' H11 t11.own.rd (by omega) hp K (Z.length - 1) 1 rfl (by omega)
  refine ⟨H11, ?_⟩
  simp (disch := first | with_reducible rfl | assumption | omega | rfl | (simp only [go_sem]; first | done | omega)) only [go_sem, ↓reduceIte, reduceCtorEq, Nat.reduceEqDiff, Nat.reduceAdd, Nat.reduceSub, Nat.reduceMul, Nat.reduceDiv, Nat.reduceMod, Nat.reduceLeDiff, Nat.reduceLT, Nat.reduceBEq, Int.reduceEq, Int.reduceBEq, Int.reduceBNe, Int.reduceLT, Int.reduceLE, Int.reduceAdd, Int.reduceSub, Int.reduceNeg, Int.reduceToNat, Int.reducePow, Nat.reducePow, Int.reduceMul, Int.reduceDiv, ↓hM0, hH1]
  refine (hl0 _).trans ?_
  simp (disch := first | with_reducible rfl | assumption | omega | rfl | (simp only [go_sem]; first | done | omega)) only [go_sem, ↓reduceIte, reduceCtorEq, Nat.reduceEqDiff, Nat.reduceAdd, Nat.reduceSub, Nat.reduceMul, Nat.reduceDiv, Nat.reduceMod, Nat.reduceLeDiff, Nat.reduceLT, Nat.reduceBEq, Int.reduceEq, Int.reduceBEq, Int.reduceBNe, Int.reduceLT, Int.reduceLE, Int.reduceAdd, Int.reduceSub, Int.reduceNeg, Int.reduceToNat, Int.reducePow, Nat.reducePow, Int.reduceMul, Int.reduceDiv, enterK_eq hnew, cp_some, enterK_eq hp4]
  refine (hl1 _).trans ?_
  simp (disch := first | with_reducible rfl | assumption | omega | rfl | (simp only [go_sem]; first | done | omega)) only [go_sem, ↓reduceIte, reduceCtorEq, Nat.reduceEqDiff, Nat.reduceAdd, Nat.reduceSub, Nat.reduceMul, Nat.reduceDiv, Nat.reduceMod, Nat.reduceLeDiff, Nat.reduceLT, Nat.reduceBEq, Int.reduceEq, Int.reduceBEq, Int.reduceBNe, Int.reduceLT, Int.reduceLE, Int.reduceAdd, Int.reduceSub, Int.reduceNeg, Int.reduceToNat, Int.reducePow, Nat.reducePow, Int.reduceMul, Int.reduceDiv, ↓hM3]
  refine (hl2 _).trans ?_
  simp (disch := first | with_reducible rfl | assumption | omega | rfl | (simp only [go_sem]; first | done | omega)) only [go_sem, ↓reduceIte, reduceCtorEq, Nat.reduceEqDiff, Nat.reduceAdd, Nat.reduceSub, Nat.reduceMul, Nat.reduceDiv, Nat.reduceMod, Nat.reduceLeDiff, Nat.reduceLT, Nat.reduceBEq, Int.reduceEq, Int.reduceBEq, Int.reduceBNe, Int.reduceLT, Int.reduceLE, Int.reduceAdd, Int.reduceSub, Int.reduceNeg, Int.reduceToNat, Int.reducePow, Nat.reducePow, Int.reduceMul, Int.reduceDiv, hlen6, hlenw6, enterK_eq hbeh]
  simp (disch := first | with_reducible rfl | assumption | omega | rfl | (simp only [go_sem]; first | done | omega)) only [go_sem, ↓reduceIte, reduceCtorEq, Nat.reduceEqDiff, Nat.reduceAdd, Nat.reduceSub, Nat.reduceMul, Nat.reduceDiv, Nat.reduceMod, Nat.reduceLeDiff, Nat.reduceLT, Nat.reduceBEq, Int.reduceEq, Int.reduceBEq, Int.reduceBNe, Int.reduceLT, Int.reduceLE, Int.reduceAdd, Int.reduceSub, Int.reduceNeg, Int.reduceToNat, Int.reducePow, Nat.reducePow, Int.reduceMul, Int.reduceDiv, ↓hM5, hlenw6]
  refine (hl3 _).trans ?_
  simp (disch := first | with_reducible rfl | assumption | omega | rfl | (simp only [go_sem]; first | done | omega)) only [go_sem, ↓reduceIte, reduceCtorEq, Nat.reduceEqDiff, Nat.reduceAdd, Nat.reduceSub, Nat.reduceMul, Nat.reduceDiv, Nat.reduceMod, Nat.reduceLeDiff, Nat.reduceLT, Nat.reduceBEq, Int.reduceEq, Int.reduceBEq, Int.reduceBNe, Int.reduceLT, Int.reduceLE, Int.reduceAdd, Int.reduceSub, Int.reduceNeg, Int.reduceToNat, Int.reducePow, Nat.reducePow, Int.reduceMul, Int.reduceDiv, enterK_eq hpr, enterK_eq hbef]
  simp (disch := first | with_reducible rfl | assumption | omega | rfl | (simp only [go_sem]; first | done | omega)) only [go_sem, ↓reduceIte, reduceCtorEq, Nat.reduceEqDiff, Nat.reduceAdd, Nat.reduceSub, Nat.reduceMul, Nat.reduceDiv, Nat.reduceMod, Nat.reduceLeDiff, Nat.reduceLT, Nat.reduceBEq, Int.reduceEq, Int.reduceBEq, Int.reduceBNe, Int.reduceLT, Int.reduceLE, Int.reduceAdd, Int.reduceSub, Int.reduceNeg, Int.reduceToNat, Int.reducePow, Nat.reducePow, Int.reduceMul, Int.reduceDiv, ↓hM7, enterK_eq hcp, hmk]
  refine (hl4 _).trans ?_
  simp (disch := first | with_reducible rfl | assumption | omega | rfl | (simp only [go_sem]; first | done | omega)) only [go_sem, ↓reduceIte, reduceCtorEq, Nat.reduceEqDiff, Nat.reduceAdd, Nat.reduceSub, Nat.reduceMul, Nat.reduceDiv, Nat.reduceMod, Nat.reduceLeDiff, Nat.reduceLT, Nat.reduceBEq, Int.reduceEq, Int.reduceBEq, Int.reduceBNe, Int.reduceLT, Int.reduceLE, Int.reduceAdd, Int.reduceSub, Int.reduceNeg, Int.reduceToNat, Int.reducePow, Nat.reducePow, Int.reduceMul, Int.reduceDiv, ↓hM8]
  refine (hl5 _).trans ?_
  simp (disch := first | with_reducible rfl | assumption | omega | rfl | (simp only [go_sem]; first | done | omega)) only [go_sem, ↓reduceIte, reduceCtorEq, Nat.reduceEqDiff, Nat.reduceAdd, Nat.reduceSub, Nat.reduceMul, Nat.reduceDiv, Nat.reduceMod, Nat.reduceLeDiff, Nat.reduceLT, Nat.reduceBEq, Int.reduceEq, Int.reduceBEq, Int.reduceBNe, Int.reduceLT, Int.reduceLE, Int.reduceAdd, Int.reduceSub, Int.reduceNeg, Int.reduceToNat, Int.reducePow, Nat.reducePow, Int.reduceMul, Int.reduceDiv, ↓hM9]
  refine (hl7 _).trans ?_
  simp (disch := first | with_reducible rfl | assumption | omega | rfl | (simp only [go_sem]; first | done | omega)) only [go_sem, ↓reduceIte, reduceCtorEq, Nat.reduceEqDiff, Nat.reduceAdd, Nat.reduceSub, Nat.reduceMul, Nat.reduceDiv, Nat.reduceMod, Nat.reduceLeDiff, Nat.reduceLT, Nat.reduceBEq, Int.reduceEq, Int.reduceBEq, Int.reduceBNe, Int.reduceLT, Int.reduceLE, Int.reduceAdd, Int.reduceSub, Int.reduceNeg, Int.reduceToNat, Int.reducePow, Nat.reducePow, Int.reduceMul, Int.reduceDiv]

theorem q_CursorHolds (a b : ByteArray) (l others : List Act) (va vo : Value) (H : AHeap) (ok : Ok H) (hr : Rd EAct H va l) (hro : Rd EAct H vo others) : ∃ H', CC F.law_CursorHolds [.string a, .string b, va, vo] H = some (.bool true, H') := by
  by_cases h1 : 24 < ((bl a).length : Int)
  · refine any_of (H1 := ?_) (d_law_CursorHolds _ _ _ _ H ?_)
    rotate_left 1
    · rw [s_hM]
      simp (disch := first | with_reducible rfl | assumption | omega | rfl | (simp only [go_sem]; first | done | omega)) only [go_sem, ↓reduceIte, reduceCtorEq, Nat.reduceEqDiff, Nat.reduceAdd, Nat.reduceSub, Nat.reduceMul, Nat.reduceDiv, Nat.reduceMod, Nat.reduceLeDiff, Nat.reduceLT, Nat.reduceBEq, Int.reduceEq, Int.reduceBEq, Int.reduceBNe, Int.reduceLT, Int.reduceLE, Int.reduceAdd, Int.reduceSub, Int.reduceNeg, Int.reduceToNat, Int.reducePow, Nat.reducePow, Int.reduceMul, Int.reduceDiv, ↓hM, decide_eq_true h1]
      rfl
  by_cases h2 : 24 < ((bl b).length : Int)
  · refine any_of (H1 := ?_) (d_law_CursorHolds _ _ _ _ H ?_)
    rotate_left 1
    · rw [s_hM]
      simp (disch := first | with_reducible rfl | assumption | omega | rfl | (simp only [go_sem]; first | done | omega)) only [go_sem, ↓reduceIte, reduceCtorEq, Nat.reduceEqDiff, Nat.reduceAdd, Nat.reduceSub, Nat.reduceMul, Nat.reduceDiv, Nat.reduceMod, Nat.reduceLeDiff, Nat.reduceLT, Nat.reduceBEq, Int.reduceEq, Int.reduceBEq, Int.reduceBNe, Int.reduceLT, Int.reduceLE, Int.reduceAdd, Int.reduceSub, Int.reduceNeg, Int.reduceToNat, Int.reducePow, Nat.reducePow, Int.reduceMul, Int.reduceDiv, ↓hM, decide_eq_false h1, decide_eq_true h2]
      rfl
  obtain ⟨x, hsa, hxa⟩ := q_small l va 16 H hr (by omega)
  have hsa : CC F.law_small [va, .int .i64 16] H = some (.bool x, H) := hsa
  obtain ⟨y, hsb, hyb⟩ := q_small others vo 16 H hro (by omega)
  have hsb : CC F.law_small [vo, .int .i64 16] H = some (.bool y, H) := hsb
  by_cases h5 : bl b = []
  · cases hx : x with
    | false =>
      rw [hx] at hsa
      refine any_of (H1 := ?_) (d_law_CursorHolds _ _ _ _ H ?_)
      rotate_left 1
      · rw [s_hM]
        simp (disch := first | with_reducible rfl | assumption | omega | rfl | (simp only [go_sem]; first | done | omega)) only [go_sem, ↓reduceIte, reduceCtorEq, Nat.reduceEqDiff, Nat.reduceAdd, Nat.reduceSub, Nat.reduceMul, Nat.reduceDiv, Nat.reduceMod, Nat.reduceLeDiff, Nat.reduceLT, Nat.reduceBEq, Int.reduceEq, Int.reduceBEq, Int.reduceBNe, Int.reduceLT, Int.reduceLE, Int.reduceAdd, Int.reduceSub, Int.reduceNeg, Int.reduceToNat, Int.reducePow, Nat.reducePow, Int.reduceMul, Int.reduceDiv, ↓hM, decide_eq_false h1, decide_eq_false h2, bl_mk, decide_eq_true h5, enterK_eq hsa]
        rfl
    | true =>
      cases hy : y with
      | false =>
        rw [hx] at hsa
        rw [hy] at hsb
        refine any_of (H1 := ?_) (d_law_CursorHolds _ _ _ _ H ?_)
        rotate_left 1
        · rw [s_hM]
          simp (disch := first | with_reducible rfl | assumption | omega | rfl | (simp only [go_sem]; first | done | omega)) only [go_sem, ↓reduceIte, reduceCtorEq, Nat.reduceEqDiff, Nat.reduceAdd, Nat.reduceSub, Nat.reduceMul, Nat.reduceDiv, Nat.reduceMod, Nat.reduceLeDiff, Nat.reduceLT, Nat.reduceBEq, Int.reduceEq, Int.reduceBEq, Int.reduceBNe, Int.reduceLT, Int.reduceLE, Int.reduceAdd, Int.reduceSub, Int.reduceNeg, Int.reduceToNat, Int.reducePow, Nat.reducePow, Int.reduceMul, Int.reduceDiv, ↓hM, decide_eq_false h1, decide_eq_false h2, bl_mk, decide_eq_true h5, enterK_eq hsa, enterK_eq hsb]
          rfl
      | true =>
        rw [hx] at hsa
        rw [hy] at hsb
        obtain ⟨H', hq⟩ := q_Holds a b l others va vo H ok hr hro (hxa hx) (hyb hy) h1 h2 (.inl h5)
        refine any_of (H1 := H') (d_law_CursorHolds _ _ _ _ H ?_)
        rw [s_hM]
        simp (disch := first | with_reducible rfl | assumption | omega | rfl | (simp only [go_sem]; first | done | omega)) only [go_sem, ↓reduceIte, reduceCtorEq, Nat.reduceEqDiff, Nat.reduceAdd, Nat.reduceSub, Nat.reduceMul, Nat.reduceDiv, Nat.reduceMod, Nat.reduceLeDiff, Nat.reduceLT, Nat.reduceBEq, Int.reduceEq, Int.reduceBEq, Int.reduceBNe, Int.reduceLT, Int.reduceLE, Int.reduceAdd, Int.reduceSub, Int.reduceNeg, Int.reduceToNat, Int.reducePow, Nat.reducePow, Int.reduceMul, Int.reduceDiv, ↓hM, decide_eq_false h1, decide_eq_false h2, bl_mk, decide_eq_true h5, enterK_eq hsa, enterK_eq hsb]
        exact hq
  · by_cases h6 : cmpS b a ≤ 0
    · refine any_of (H1 := ?_) (d_law_CursorHolds _ _ _ _ H ?_)
      rotate_left 1
      · rw [s_hM]
        simp (disch := first | with_reducible rfl | assumption | omega | rfl | (simp only [go_sem]; first | done | omega)) only [go_sem, ↓reduceIte, reduceCtorEq, Nat.reduceEqDiff, Nat.reduceAdd, Nat.reduceSub, Nat.reduceMul, Nat.reduceDiv, Nat.reduceMod, Nat.reduceLeDiff, Nat.reduceLT, Nat.reduceBEq, Int.reduceEq, Int.reduceBEq, Int.reduceBNe, Int.reduceLT, Int.reduceLE, Int.reduceAdd, Int.reduceSub, Int.reduceNeg, Int.reduceToNat, Int.reducePow, Nat.reducePow, Int.reduceMul, Int.reduceDiv, ↓hM, decide_eq_false h1, decide_eq_false h2, bl_mk, decide_eq_false h5, leq_cmpS, decide_eq_true h6]
        rfl
    · cases hx : x with
      | false =>
        rw [hx] at hsa
        refine any_of (H1 := ?_) (d_law_CursorHolds _ _ _ _ H ?_)
        rotate_left 1
        · rw [s_hM]
          simp (disch := first | with_reducible rfl | assumption | omega | rfl | (simp only [go_sem]; first | done | omega)) only [go_sem, ↓reduceIte, reduceCtorEq, Nat.reduceEqDiff, Nat.reduceAdd, Nat.reduceSub, Nat.reduceMul, Nat.reduceDiv, Nat.reduceMod, Nat.reduceLeDiff, Nat.reduceLT, Nat.reduceBEq, Int.reduceEq, Int.reduceBEq, Int.reduceBNe, Int.reduceLT, Int.reduceLE, Int.reduceAdd, Int.reduceSub, Int.reduceNeg, Int.reduceToNat, Int.reducePow, Nat.reducePow, Int.reduceMul, Int.reduceDiv, ↓hM, decide_eq_false h1, decide_eq_false h2, bl_mk, decide_eq_false h5, leq_cmpS, decide_eq_false h6, enterK_eq hsa]
          rfl
      | true =>
        cases hy : y with
        | false =>
          rw [hx] at hsa
          rw [hy] at hsb
          refine any_of (H1 := ?_) (d_law_CursorHolds _ _ _ _ H ?_)
          rotate_left 1
          · rw [s_hM]
            simp (disch := first | with_reducible rfl | assumption | omega | rfl | (simp only [go_sem]; first | done | omega)) only [go_sem, ↓reduceIte, reduceCtorEq, Nat.reduceEqDiff, Nat.reduceAdd, Nat.reduceSub, Nat.reduceMul, Nat.reduceDiv, Nat.reduceMod, Nat.reduceLeDiff, Nat.reduceLT, Nat.reduceBEq, Int.reduceEq, Int.reduceBEq, Int.reduceBNe, Int.reduceLT, Int.reduceLE, Int.reduceAdd, Int.reduceSub, Int.reduceNeg, Int.reduceToNat, Int.reducePow, Nat.reducePow, Int.reduceMul, Int.reduceDiv, ↓hM, decide_eq_false h1, decide_eq_false h2, bl_mk, decide_eq_false h5, leq_cmpS, decide_eq_false h6, enterK_eq hsa, enterK_eq hsb]
            rfl
        | true =>
          rw [hx] at hsa
          rw [hy] at hsb
          obtain ⟨H', hq⟩ := q_Holds a b l others va vo H ok hr hro (hxa hx) (hyb hy) h1 h2 (.inr h6)
          refine any_of (H1 := H') (d_law_CursorHolds _ _ _ _ H ?_)
          rw [s_hM]
          simp (disch := first | with_reducible rfl | assumption | omega | rfl | (simp only [go_sem]; first | done | omega)) only [go_sem, ↓reduceIte, reduceCtorEq, Nat.reduceEqDiff, Nat.reduceAdd, Nat.reduceSub, Nat.reduceMul, Nat.reduceDiv, Nat.reduceMod, Nat.reduceLeDiff, Nat.reduceLT, Nat.reduceBEq, Int.reduceEq, Int.reduceBEq, Int.reduceBNe, Int.reduceLT, Int.reduceLE, Int.reduceAdd, Int.reduceSub, Int.reduceNeg, Int.reduceToNat, Int.reducePow, Nat.reducePow, Int.reduceMul, Int.reduceDiv, ↓hM, decide_eq_false h1, decide_eq_false h2, bl_mk, decide_eq_false h5, leq_cmpS, decide_eq_false h6, enterK_eq hsa, enterK_eq hsb]
          exact hq

theorem run_CursorHolds (W : World) (a : ByteArray) (_ : (bl a).length ≤ 140737488351232) (b : ByteArray) (_ : (bl b).length ≤ 140737488351232) (v : Value) (l : List Act) (hr : Rd EAct (absHeap W) v l) (_ : ∀ a, a ∈ l → True) (_ : l.length ≤ maxLen) (w : Value) (o : List Act) (ho : Rd EAct (absHeap W) w o) (_ : ∀ a, a ∈ o → True) (_ : o.length ≤ maxLen) :
    ∃ k H', dCall Try.prog prims1 hints k F.law_CursorHolds [.string a, .string b, v, w] (absHeap W) = some (.bool true, H') := by
  obtain ⟨H', h⟩ := q_CursorHolds a b l o v w (absHeap W) (absHeap_ok W) hr ho
  obtain ⟨k, h⟩ := D_run h
  exact ⟨k, _, h⟩

end Go.Proofs.Ytmbppjilnnjdaaa

/-
  The law CursorHolds: for every input it returns true, and its input reads as it did.
  Conditions: none. By an AI agent.
-/
namespace Go.Proofs.Ytmbppjilnnjdaaa.cursorHolds
open Go.ChangeShapes Go.WideShapes Go.ChangeAt Go.RowKit
open Go.ChangeMaps (open_string shut_string)
set_option linter.unusedVariables false
theorem own : ownKnob Try.prog.godebug = none := by kernel_rfl
theorem laidOut : laidOutB Try.prog = true := by kernel_rfl
set_option maxRecDepth 100000 in
theorem lifted (os : Os) (started : os.Started) (H : Type) (enc : TypeId × Value → H) :
    ReturnsInHanded {} Try.checked os 6 .any (Rows.cursorHoldsSpec.pre6 enc Try.prog Try.f6 Rows.cursorHoldsRow.domain false) (Rows.cursorHoldsSpec.post enc Try.prog Try.f6 false true false false) := by
  refine returnsInHanded_of_change_sized (C := Try.checked) own started (by kernel_rfl) Try.func6
    (ChangeSpec.witness6 (enc := enc) (C := Try.checked) false ⟨#[], #[.string ByteArray.empty, .string ByteArray.empty, .slice none 0 0, .slice none 0 0], []⟩ 8 (by kernel_rfl) (by kernel_rfl) (by kernel_rfl) (by kernel_rfl)) ?_
  intro W base args ds gs before hval0 hW hcnd hsz0 _
  have hsz : (DataW.weightsEach Try.prog (Try.f6.params.toList ++ Rows.cursorHoldsSpec.plain.varTypes Try.prog) (ds ++ gs)).all (· ≤ reachBytes) = true := hsz0
  have hval : ∀ (j : Nat) t v, Try.f6.params[j]? = some t → args[j]? = some v → Value.okWide Try.prog W .any base t v := hval0
  have hW' := hW
  obtain ⟨p, q, hA0, hV, rfl, hfz, hnd⟩ := hW
  have hA : DataW.TrodAll enc Try.prog W 0 (fun _ => true) true Try.f6.params.toList args.toList ds p := hA0
  rw [Try.params6] at hA hval hsz
  obtain ⟨v0, vs0, d0, ds0, p0, q0, hargs, rfl, rfl, h0, r0⟩ := trodAll_cons hA
  obtain ⟨v1, vs1, d1, ds1, p1, q1, rfl, rfl, rfl, h1, r1⟩ := trodAll_cons r0
  obtain ⟨v2, vs2, d2, ds2, p2, q2, rfl, rfl, rfl, h2, r2⟩ := trodAll_cons r1
  obtain ⟨v3, vs3, d3, ds3, p3, q3, rfl, rfl, rfl, h3, r3⟩ := trodAll_cons r2
  obtain ⟨rfl, rfl, rfl⟩ := trodAll_nil r3
  obtain rfl : args = #[v0, v1, v2, v3] := by cases args; simp_all
  obtain ⟨rfl, rfl⟩ := trodVars_none hV
  obtain ⟨a0, rfl, rfl, rfl, y0⟩ := open_string Try.underlying9 (hval 0 9 v0 rfl rfl) h0
  have w0 : (Eng.bl a0).length ≤ 140737488351232 := sized_string hsz (j := 0) (t := 9) rfl rfl
  obtain ⟨a1, rfl, rfl, rfl, y1⟩ := open_string Try.underlying9 (hval 1 9 v1 rfl rfl) h1
  have w1 : (Eng.bl a1).length ≤ 140737488351232 := sized_string hsz (j := 1) (t := 9) rfl rfl
  have k2 := h2
  have lt2 : ∀ x ∈ p2, x.block < W.heap.size := by obtain ⟨m, hm⟩ := k2; exact DataW.trod_lt m _ _ _ hm
  obtain ⟨l2, rd2, all2, len2⟩ := Eng.open_rd (t := 49) Try.underlying49 (by kernel_rfl) (fun cs n y h hl => decAct h hl) (hval 2 49 v2 rfl rfl) k2
  have k3 := h3
  have lt3 : ∀ x ∈ p3, x.block < W.heap.size := by obtain ⟨m, hm⟩ := k3; exact DataW.trod_lt m _ _ _ hm
  obtain ⟨l3, rd3, all3, len3⟩ := Eng.open_rd (t := 49) Try.underlying49 (by kernel_rfl) (fun cs n y h hl => decAct h hl) (hval 3 49 v3 rfl rfl) k3
  refine (Eng.law_calls (args := #[.string a0, .string a1, v2, v3]) prims1_ok mixed (run_CursorHolds W a0 w0 a1 w1 (Eng.convA W.heap.size v2) l2 rd2 all2 len2 (Eng.convA W.heap.size v3) l3 rd3 all3 len3)).mono fun e W' ⟨he, bel⟩ => ?_
  subst he
  exact ⟨_, rfl, _, _, _, [], _, [], hW', trodAll_mk1 (shut_bool Try.underlying4 _), (trodAll_cons_mk (shut_string Try.underlying9 y0) (trodAll_cons_mk (shut_string Try.underlying9 y1) (trodAll_cons_mk (Below.trod laidOut (by kernel_rfl) (of_decide_eq_true (by kernel_rfl)) k2 bel lt2) (trodAll_cons_mk (Below.trod laidOut (by kernel_rfl) (of_decide_eq_true (by kernel_rfl)) k3 bel lt3) trodAll_mk0)))), rfl, bel.frame _, fun h => by cases h⟩

theorem over : Rows.cursorHoldsRow.holds Try.pinned (OpenSpec.ofChange Rows.cursorHoldsSpec) :=
  OpenClaim.holds_of_wide 6 Try.f6 rfl rfl rfl rfl rfl rfl rfl ⟨rfl, rfl, rfl, rfl, rfl⟩ rfl rfl rfl rfl rfl (by kernel_rfl) Try.func6 (by kernel_rfl)
    (of_decide_eq_true (by kernel_rfl)) (by unfold Func.isWrapper; first | (rw [if_pos (by decide +kernel)]; kernel_rfl) | (rw [if_neg (by decide +kernel)]; exact ⟨rfl, rfl⟩))
    (fun os started H enc _ => lifted os started H enc)
theorem proved : Rows.CursorHoldsSaid := over
#print axioms proved
end Go.Proofs.Ytmbppjilnnjdaaa.cursorHolds
namespace Go.Proofs.Ytmbppjilnnjdaaa
/-- The row, under a short name, for the claim. -/
theorem cursorHolds_holds : Rows.CursorHoldsSaid := cursorHolds.proved
end Go.Proofs.Ytmbppjilnnjdaaa
