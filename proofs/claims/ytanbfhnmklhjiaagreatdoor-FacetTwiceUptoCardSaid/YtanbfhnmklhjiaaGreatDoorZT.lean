/- Part of a proof about this program; no condition of its own. -/
import Derived.Test.YtanbfhnmklhjiaaGreatDoorProg
import Derived.Test.YtanbfhnmklhjiaaGreatDoorAxVd
set_option linter.all false
/- Facts on the types of the translation, for the rule that reckons. No condition. -/
namespace Go.Proofs
open Go Go.Ax
theorem Tryz.mixed : Tryz.prog.follows .mixedOrders = true := by kernel_rfl
@[push_cast] theorem Tryz.ldT3 : ldT Tryz.prog 3 = some none := by kernel_rfl
@[push_cast] theorem Tryz.ldT5 : ldT Tryz.prog 5 = some none := by kernel_rfl
@[push_cast] theorem Tryz.ldT9 : ldT Tryz.prog 9 = some none := by kernel_rfl
@[push_cast] theorem Tryz.ldT29 : ldT Tryz.prog 29 = some none := by kernel_rfl
@[push_cast] theorem Tryz.ldT37 : ldT Tryz.prog 37 = some (some 3) := by kernel_rfl
@[push_cast] theorem Tryz.ldT42 : ldT Tryz.prog 42 = some none := by kernel_rfl
@[push_cast] theorem Tryz.ldT43 : ldT Tryz.prog 43 = some none := by kernel_rfl
@[push_cast] theorem Tryz.ldT45 : ldT Tryz.prog 45 = some (some 5) := by kernel_rfl
@[push_cast] theorem Tryz.ldT62 : ldT Tryz.prog 62 = some none := by kernel_rfl
@[push_cast] theorem Tryz.ldT64 : ldT Tryz.prog 64 = some (some 5) := by kernel_rfl
@[push_cast] theorem Tryz.ldT79 : ldT Tryz.prog 79 = some (some 2) := by kernel_rfl
@[push_cast] theorem Tryz.ldT85 : ldT Tryz.prog 85 = some (some 2) := by kernel_rfl
@[push_cast] theorem Tryz.ldT86 : ldT Tryz.prog 86 = some none := by kernel_rfl
@[push_cast] theorem Tryz.ldT88 : ldT Tryz.prog 88 = some (some 4) := by kernel_rfl
@[push_cast] theorem Tryz.ldT93 : ldT Tryz.prog 93 = some none := by kernel_rfl
@[push_cast] theorem Tryz.ldT115 : ldT Tryz.prog 115 = some (some 2) := by kernel_rfl
@[push_cast] theorem Tryz.ldT146 : ldT Tryz.prog 146 = some none := by kernel_rfl
@[push_cast] theorem Tryz.ldT155 : ldT Tryz.prog 155 = some (some 7) := by kernel_rfl
@[push_cast] theorem Tryz.ldT191 : ldT Tryz.prog 191 = some none := by kernel_rfl
@[push_cast] theorem Tryz.ldT192 : ldT Tryz.prog 192 = some none := by kernel_rfl
@[push_cast] theorem Tryz.ldT237 : ldT Tryz.prog 237 = some none := by kernel_rfl
@[push_cast] theorem Tryz.ldT249 : ldT Tryz.prog 249 = some (some 2) := by kernel_rfl
@[push_cast] theorem Tryz.ldT270 : ldT Tryz.prog 270 = some (some 2) := by kernel_rfl
@[push_cast] theorem Tryz.szT3 : szT Tryz.prog 3 = some 1 := by kernel_rfl
@[push_cast] theorem Tryz.szT5 : szT Tryz.prog 5 = some 1 := by kernel_rfl
@[push_cast] theorem Tryz.szT9 : szT Tryz.prog 9 = some 1 := by kernel_rfl
@[push_cast] theorem Tryz.szT29 : szT Tryz.prog 29 = some 1 := by kernel_rfl
@[push_cast] theorem Tryz.szT37 : szT Tryz.prog 37 = some 3 := by kernel_rfl
@[push_cast] theorem Tryz.szT42 : szT Tryz.prog 42 = some 1 := by kernel_rfl
@[push_cast] theorem Tryz.szT43 : szT Tryz.prog 43 = some 1 := by kernel_rfl
@[push_cast] theorem Tryz.szT45 : szT Tryz.prog 45 = some 5 := by kernel_rfl
@[push_cast] theorem Tryz.szT62 : szT Tryz.prog 62 = some 1 := by kernel_rfl
@[push_cast] theorem Tryz.szT64 : szT Tryz.prog 64 = some 5 := by kernel_rfl
@[push_cast] theorem Tryz.szT79 : szT Tryz.prog 79 = some 2 := by kernel_rfl
@[push_cast] theorem Tryz.szT85 : szT Tryz.prog 85 = some 2 := by kernel_rfl
@[push_cast] theorem Tryz.szT86 : szT Tryz.prog 86 = some 1 := by kernel_rfl
@[push_cast] theorem Tryz.szT88 : szT Tryz.prog 88 = some 4 := by kernel_rfl
@[push_cast] theorem Tryz.szT93 : szT Tryz.prog 93 = some 1 := by kernel_rfl
@[push_cast] theorem Tryz.szT115 : szT Tryz.prog 115 = some 2 := by kernel_rfl
@[push_cast] theorem Tryz.szT146 : szT Tryz.prog 146 = some 1 := by kernel_rfl
@[push_cast] theorem Tryz.szT155 : szT Tryz.prog 155 = some 7 := by kernel_rfl
@[push_cast] theorem Tryz.szT172 : szT Tryz.prog 172 = some 4 := by kernel_rfl
@[push_cast] theorem Tryz.szT191 : szT Tryz.prog 191 = some 1 := by kernel_rfl
@[push_cast] theorem Tryz.szT192 : szT Tryz.prog 192 = some 1 := by kernel_rfl
@[push_cast] theorem Tryz.szT237 : szT Tryz.prog 237 = some 1 := by kernel_rfl
@[push_cast] theorem Tryz.szT249 : szT Tryz.prog 249 = some 2 := by kernel_rfl
@[push_cast] theorem Tryz.szT270 : szT Tryz.prog 270 = some 2 := by kernel_rfl
@[push_cast] theorem Tryz.zC3 : zeroC Tryz.prog 3 = some [.d (.int .i64 0)] := by kernel_rfl
@[push_cast] theorem Tryz.zC9 : zeroC Tryz.prog 9 = some [.d (.str [])] := by kernel_rfl
@[push_cast] theorem Tryz.zC29 : zeroC Tryz.prog 29 = some [.d (.raw (.slice none 0 0))] := by kernel_rfl
@[push_cast] theorem Tryz.zC37 : zeroC Tryz.prog 37 = some [.d (.str []), .d (.str []), .d (.int .i64 0)] := by kernel_rfl
@[push_cast] theorem Tryz.zC45 : zeroC Tryz.prog 45 = some [.d (.int .i64 0), .d (.int .i64 0), .d (.str []), .d (.raw (.slice none 0 0)), .d (.raw (.slice none 0 0))] := by kernel_rfl
@[push_cast] theorem Tryz.zC64 : zeroC Tryz.prog 64 = some [.d (.int .i64 0), .d (.int .i64 0), .d (.int .i64 0), .d (.str []), .d (.raw (.slice none 0 0))] := by kernel_rfl
@[push_cast] theorem Tryz.zC79 : zeroC Tryz.prog 79 = some [.d (.str []), .d (.int .i64 0)] := by kernel_rfl
@[push_cast] theorem Tryz.zC85 : zeroC Tryz.prog 85 = some [.d (.int .u8 0), .d (.str [])] := by kernel_rfl
@[push_cast] theorem Tryz.zC88 : zeroC Tryz.prog 88 = some [.d (.str []), .d (.str []), .d (.raw (.slice none 0 0)), .d (.int .i64 0)] := by kernel_rfl
@[push_cast] theorem Tryz.zC93 : zeroC Tryz.prog 93 = some [.d (.raw (.map none))] := by kernel_rfl
@[push_cast] theorem Tryz.zC94 : zeroC Tryz.prog 94 = some [.d (.str []), .d (.str [])] := by kernel_rfl
@[push_cast] theorem Tryz.zC115 : zeroC Tryz.prog 115 = some [.d (.int .i64 0), .d (.str [])] := by kernel_rfl
@[push_cast] theorem Tryz.zC155 : zeroC Tryz.prog 155 = some [.d (.str []), .d (.bool false), .d (.bool false), .d (.str []), .d (.str []), .d (.str []), .d (.int .i64 0)] := by kernel_rfl
@[push_cast] theorem Tryz.zC172 : zeroC Tryz.prog 172 = some [.d (.str []), .d (.str []), .d (.str []), .d (.str [])] := by kernel_rfl
@[push_cast] theorem Tryz.zC194 : zeroC Tryz.prog 194 = some [.d (.raw (.pointer none)), .d (.raw (.slice none 0 0))] := by kernel_rfl
@[push_cast] theorem Tryz.zC237 : zeroC Tryz.prog 237 = some [.d (.int .u64 0)] := by kernel_rfl
@[push_cast] theorem Tryz.zC249 : zeroC Tryz.prog 249 = some [.d (.int .i64 0), .d (.int .i64 0)] := by kernel_rfl
@[push_cast] theorem Tryz.zC257 : zeroC Tryz.prog 257 = some [.d (.int .u8 0), .d (.int .u8 0), .d (.int .u8 0), .d (.int .u8 0), .d (.int .u8 0), .d (.int .u8 0), .d (.int .u8 0), .d (.int .u8 0), .d (.int .u8 0), .d (.int .u8 0), .d (.int .u8 0), .d (.int .u8 0), .d (.int .u8 0), .d (.int .u8 0), .d (.int .u8 0), .d (.int .u8 0), .d (.int .u8 0), .d (.int .u8 0), .d (.int .u8 0), .d (.int .u8 0), .d (.int .u8 0), .d (.int .u8 0), .d (.int .u8 0), .d (.int .u8 0)] := by kernel_rfl
@[push_cast] theorem Tryz.zC270 : zeroC Tryz.prog 270 = some [.d (.int .u8 0), .d (.int .u8 0)] := by kernel_rfl
@[push_cast] theorem Tryz.zC278 : zeroC Tryz.prog 278 = some [.d (.int .u8 0), .d (.int .u8 0), .d (.int .u8 0), .d (.int .u8 0), .d (.int .u8 0), .d (.int .u8 0), .d (.int .u8 0), .d (.int .u8 0), .d (.int .u8 0), .d (.int .u8 0), .d (.int .u8 0), .d (.int .u8 0), .d (.int .u8 0), .d (.int .u8 0), .d (.int .u8 0), .d (.int .u8 0), .d (.int .u8 0), .d (.int .u8 0), .d (.int .u8 0), .d (.int .u8 0), .d (.int .u8 0), .d (.int .u8 0), .d (.int .u8 0), .d (.int .u8 0), .d (.int .u8 0), .d (.int .u8 0), .d (.int .u8 0), .d (.int .u8 0), .d (.int .u8 0), .d (.int .u8 0), .d (.int .u8 0), .d (.int .u8 0), .d (.int .u8 0), .d (.int .u8 0), .d (.int .u8 0), .d (.int .u8 0), .d (.int .u8 0), .d (.int .u8 0), .d (.int .u8 0), .d (.int .u8 0), .d (.int .u8 0), .d (.int .u8 0), .d (.int .u8 0), .d (.int .u8 0), .d (.int .u8 0), .d (.int .u8 0), .d (.int .u8 0), .d (.int .u8 0), .d (.int .u8 0), .d (.int .u8 0), .d (.int .u8 0), .d (.int .u8 0), .d (.int .u8 0), .d (.int .u8 0), .d (.int .u8 0), .d (.int .u8 0), .d (.int .u8 0), .d (.int .u8 0), .d (.int .u8 0), .d (.int .u8 0), .d (.int .u8 0), .d (.int .u8 0), .d (.int .u8 0), .d (.int .u8 0), .d (.int .u8 0)] := by kernel_rfl
@[push_cast] theorem Tryz.fdT25_0 : fdT Tryz.prog 25 0 = some 0 := by kernel_rfl
@[push_cast] theorem Tryz.fdT25_1 : fdT Tryz.prog 25 1 = some 1 := by kernel_rfl
@[push_cast] theorem Tryz.fdT37_0 : fdT Tryz.prog 37 0 = some 0 := by kernel_rfl
@[push_cast] theorem Tryz.fdT37_1 : fdT Tryz.prog 37 1 = some 1 := by kernel_rfl
@[push_cast] theorem Tryz.fdT37_2 : fdT Tryz.prog 37 2 = some 2 := by kernel_rfl
@[push_cast] theorem Tryz.fdT45_0 : fdT Tryz.prog 45 0 = some 0 := by kernel_rfl
@[push_cast] theorem Tryz.fdT45_1 : fdT Tryz.prog 45 1 = some 1 := by kernel_rfl
@[push_cast] theorem Tryz.fdT45_2 : fdT Tryz.prog 45 2 = some 2 := by kernel_rfl
@[push_cast] theorem Tryz.fdT45_3 : fdT Tryz.prog 45 3 = some 3 := by kernel_rfl
@[push_cast] theorem Tryz.fdT45_4 : fdT Tryz.prog 45 4 = some 4 := by kernel_rfl
@[push_cast] theorem Tryz.fdT64_0 : fdT Tryz.prog 64 0 = some 0 := by kernel_rfl
@[push_cast] theorem Tryz.fdT64_1 : fdT Tryz.prog 64 1 = some 1 := by kernel_rfl
@[push_cast] theorem Tryz.fdT64_2 : fdT Tryz.prog 64 2 = some 2 := by kernel_rfl
@[push_cast] theorem Tryz.fdT64_3 : fdT Tryz.prog 64 3 = some 3 := by kernel_rfl
@[push_cast] theorem Tryz.fdT64_4 : fdT Tryz.prog 64 4 = some 4 := by kernel_rfl
@[push_cast] theorem Tryz.fdT79_0 : fdT Tryz.prog 79 0 = some 0 := by kernel_rfl
@[push_cast] theorem Tryz.fdT79_1 : fdT Tryz.prog 79 1 = some 1 := by kernel_rfl
@[push_cast] theorem Tryz.fdT85_0 : fdT Tryz.prog 85 0 = some 0 := by kernel_rfl
@[push_cast] theorem Tryz.fdT85_1 : fdT Tryz.prog 85 1 = some 1 := by kernel_rfl
@[push_cast] theorem Tryz.fdT88_0 : fdT Tryz.prog 88 0 = some 0 := by kernel_rfl
@[push_cast] theorem Tryz.fdT88_1 : fdT Tryz.prog 88 1 = some 1 := by kernel_rfl
@[push_cast] theorem Tryz.fdT88_2 : fdT Tryz.prog 88 2 = some 2 := by kernel_rfl
@[push_cast] theorem Tryz.fdT88_3 : fdT Tryz.prog 88 3 = some 3 := by kernel_rfl
@[push_cast] theorem Tryz.fdT155_0 : fdT Tryz.prog 155 0 = some 0 := by kernel_rfl
@[push_cast] theorem Tryz.fdT155_6 : fdT Tryz.prog 155 6 = some 6 := by kernel_rfl
@[push_cast] theorem Tryz.fdT194_0 : fdT Tryz.prog 194 0 = some 0 := by kernel_rfl
@[push_cast] theorem Tryz.fdT194_1 : fdT Tryz.prog 194 1 = some 1 := by kernel_rfl
@[push_cast] theorem Tryz.fdT249_0 : fdT Tryz.prog 249 0 = some 0 := by kernel_rfl
@[push_cast] theorem Tryz.fdT249_1 : fdT Tryz.prog 249 1 = some 1 := by kernel_rfl
@[push_cast] theorem Tryz.fdT270_0 : fdT Tryz.prog 270 0 = some 0 := by kernel_rfl
@[push_cast] theorem Tryz.fdT270_1 : fdT Tryz.prog 270 1 = some 1 := by kernel_rfl
@[push_cast] theorem Tryz.isS9 : isS Tryz.prog 9 = True := eq_true Tryz.underlying9
@[push_cast] theorem Tryz.slT22 : slT Tryz.prog 22 = some (64, 5) := by kernel_rfl
@[push_cast] theorem Tryz.slT23 : slT Tryz.prog 23 = some (45, 5) := by kernel_rfl
@[push_cast] theorem Tryz.slT29 : slT Tryz.prog 29 = some (37, 3) := by kernel_rfl
@[push_cast] theorem Tryz.slT42 : slT Tryz.prog 42 = some (9, 1) := by kernel_rfl
@[push_cast] theorem Tryz.slT43 : slT Tryz.prog 43 = some (3, 1) := by kernel_rfl
@[push_cast] theorem Tryz.slT62 : slT Tryz.prog 62 = some (88, 4) := by kernel_rfl
@[push_cast] theorem Tryz.slT70 : slT Tryz.prog 70 = some (79, 2) := by kernel_rfl
@[push_cast] theorem Tryz.slT80 : slT Tryz.prog 80 = none := by kernel_rfl
@[push_cast] theorem Tryz.ixT80 : ixT Tryz.prog 80 = some 2 := by kernel_rfl
@[push_cast] theorem Tryz.arT80 : arT Tryz.prog 80 = some (2, 3, 1) := by kernel_rfl
@[push_cast] theorem Tryz.slT86 : slT Tryz.prog 86 = some (85, 2) := by kernel_rfl
@[push_cast] theorem Tryz.slT158 : slT Tryz.prog 158 = some (155, 7) := by kernel_rfl
@[push_cast] theorem Tryz.slT172 : slT Tryz.prog 172 = none := by kernel_rfl
@[push_cast] theorem Tryz.ixT172 : ixT Tryz.prog 172 = some 4 := by kernel_rfl
@[push_cast] theorem Tryz.arT172 : arT Tryz.prog 172 = some (4, 9, 1) := by kernel_rfl
@[push_cast] theorem Tryz.slT192 : slT Tryz.prog 192 = some (5, 1) := by kernel_rfl
@[push_cast] theorem Tryz.slT235 : slT Tryz.prog 235 = none := by kernel_rfl
@[push_cast] theorem Tryz.arT235 : arT Tryz.prog 235 = some (25, 155, 7) := by kernel_rfl
@[push_cast] theorem Tryz.slT247 : slT Tryz.prog 247 = some (249, 2) := by kernel_rfl
@[push_cast] theorem Tryz.slT257 : slT Tryz.prog 257 = none := by kernel_rfl
@[push_cast] theorem Tryz.ixT257 : ixT Tryz.prog 257 = some 24 := by kernel_rfl
@[push_cast] theorem Tryz.arT257 : arT Tryz.prog 257 = some (24, 5, 1) := by kernel_rfl
@[push_cast] theorem Tryz.slT268 : slT Tryz.prog 268 = none := by kernel_rfl
@[push_cast] theorem Tryz.ixT268 : ixT Tryz.prog 268 = some 256 := by kernel_rfl
@[push_cast] theorem Tryz.arT268 : arT Tryz.prog 268 = some (256, 5, 1) := by kernel_rfl
@[push_cast] theorem Tryz.slT271 : slT Tryz.prog 271 = none := by kernel_rfl
@[push_cast] theorem Tryz.arT271 : arT Tryz.prog 271 = some (16, 270, 2) := by kernel_rfl
@[push_cast] theorem Tryz.slT277 : slT Tryz.prog 277 = none := by kernel_rfl
@[push_cast] theorem Tryz.ixT277 : ixT Tryz.prog 277 = some 20 := by kernel_rfl
@[push_cast] theorem Tryz.arT277 : arT Tryz.prog 277 = some (20, 146, 1) := by kernel_rfl
@[push_cast] theorem Tryz.slT278 : slT Tryz.prog 278 = none := by kernel_rfl
@[push_cast] theorem Tryz.ixT278 : ixT Tryz.prog 278 = some 65 := by kernel_rfl
@[push_cast] theorem Tryz.arT278 : arT Tryz.prog 278 = some (65, 5, 1) := by kernel_rfl
@[push_cast] theorem Tryz.slT281 : slT Tryz.prog 281 = none := by kernel_rfl
@[push_cast] theorem Tryz.ixT281 : ixT Tryz.prog 281 = some 32 := by kernel_rfl
@[push_cast] theorem Tryz.arT281 : arT Tryz.prog 281 = some (32, 5, 1) := by kernel_rfl
@[push_cast] theorem Tryz.slT282 : slT Tryz.prog 282 = none := by kernel_rfl
@[push_cast] theorem Tryz.ixT282 : ixT Tryz.prog 282 = some 64 := by kernel_rfl
@[push_cast] theorem Tryz.arT282 : arT Tryz.prog 282 = some (64, 5, 1) := by kernel_rfl
@[push_cast] theorem Tryz.plT37 : plT Tryz.prog 37 = some [(0, 1), (1, 1), (2, 1)] := by kernel_rfl
@[push_cast] theorem Tryz.plT45 : plT Tryz.prog 45 = some [(0, 1), (1, 1), (2, 1), (3, 1), (4, 1)] := by kernel_rfl
@[push_cast] theorem Tryz.plT64 : plT Tryz.prog 64 = some [(0, 1), (1, 1), (2, 1), (3, 1), (4, 1)] := by kernel_rfl
@[push_cast] theorem Tryz.plT79 : plT Tryz.prog 79 = some [(0, 1), (1, 1)] := by kernel_rfl
@[push_cast] theorem Tryz.plT85 : plT Tryz.prog 85 = some [(0, 1), (1, 1)] := by kernel_rfl
@[push_cast] theorem Tryz.plT88 : plT Tryz.prog 88 = some [(0, 1), (1, 1), (2, 1), (3, 1)] := by kernel_rfl
@[push_cast] theorem Tryz.plT94 : plT Tryz.prog 94 = some [(0, 1), (1, 1)] := by kernel_rfl
@[push_cast] theorem Tryz.plT115 : plT Tryz.prog 115 = some [(0, 1), (1, 1)] := by kernel_rfl
@[push_cast] theorem Tryz.plT155 : plT Tryz.prog 155 = some [(0, 1), (1, 1), (2, 1), (3, 1), (4, 1), (5, 1), (6, 1)] := by kernel_rfl
@[push_cast] theorem Tryz.plT172 : plT Tryz.prog 172 = some [(0, 1), (1, 1), (2, 1), (3, 1)] := by kernel_rfl
@[push_cast] theorem Tryz.plT249 : plT Tryz.prog 249 = some [(0, 1), (1, 1)] := by kernel_rfl
@[push_cast] theorem Tryz.apT22 : apT Tryz.prog 22 = some (64, 5, 64) := by kernel_rfl
@[push_cast] theorem Tryz.apT23 : apT Tryz.prog 23 = some (45, 5, 80) := by kernel_rfl
@[push_cast] theorem Tryz.apT29 : apT Tryz.prog 29 = some (37, 3, 40) := by kernel_rfl
@[push_cast] theorem Tryz.apT42 : apT Tryz.prog 42 = some (9, 1, 16) := by kernel_rfl
@[push_cast] theorem Tryz.apT43 : apT Tryz.prog 43 = some (3, 1, 8) := by kernel_rfl
@[push_cast] theorem Tryz.apT62 : apT Tryz.prog 62 = some (88, 4, 64) := by kernel_rfl
@[push_cast] theorem Tryz.apT70 : apT Tryz.prog 70 = some (79, 2, 24) := by kernel_rfl
@[push_cast] theorem Tryz.apT86 : apT Tryz.prog 86 = some (85, 2, 24) := by kernel_rfl
@[push_cast] theorem Tryz.apT158 : apT Tryz.prog 158 = some (155, 7, 80) := by kernel_rfl
@[push_cast] theorem Tryz.apT192 : apT Tryz.prog 192 = some (5, 1, 1) := by kernel_rfl
@[push_cast] theorem Tryz.apT247 : apT Tryz.prog 247 = some (249, 2, 16) := by kernel_rfl
@[push_cast] theorem Tryz.mapSh91 : mapSh Tryz.prog 91 = some [.str] := by kernel_rfl
@[push_cast] theorem Tryz.mapSh93 : mapSh Tryz.prog 93 = some [.str, .str] := by kernel_rfl
@[push_cast] theorem Tryz.mapSh110 : mapSh Tryz.prog 110 = some [.int .i64, .str] := by kernel_rfl
@[push_cast] theorem Tryz.mapSh116 : mapSh Tryz.prog 116 = some [.int .i64] := by kernel_rfl
@[push_cast] theorem Tryz.intT2 : intT Tryz.prog 2 = some .i64 := by kernel_rfl
@[push_cast] theorem Tryz.intT3 : intT Tryz.prog 3 = some .i64 := by kernel_rfl
@[push_cast] theorem Tryz.intT5 : intT Tryz.prog 5 = some .u8 := by kernel_rfl
@[push_cast] theorem Tryz.intT9 : intT Tryz.prog 9 = none := by kernel_rfl
@[push_cast] theorem Tryz.strB9 : strB Tryz.prog 9 = true := by kernel_rfl
@[push_cast] theorem Tryz.intT12 : intT Tryz.prog 12 = some .u64 := by kernel_rfl
@[push_cast] theorem Tryz.intT21 : intT Tryz.prog 21 = some .i32 := by kernel_rfl
@[push_cast] theorem Tryz.intT146 : intT Tryz.prog 146 = some .u64 := by kernel_rfl
@[push_cast] theorem Tryz.intT149 : intT Tryz.prog 149 = some .u64 := by kernel_rfl
@[push_cast] theorem Tryz.intT189 : intT Tryz.prog 189 = some .u32 := by kernel_rfl
@[push_cast] theorem Tryz.intT192 : intT Tryz.prog 192 = none := by kernel_rfl
@[push_cast] theorem Tryz.bysT192 : bysT Tryz.prog 192 = true := by kernel_rfl
@[push_cast] theorem Tryz.intT237 : intT Tryz.prog 237 = some .u64 := by kernel_rfl
@[push_cast] theorem Tryz.isB4 : isB Tryz.prog 4 = True := eq_true Tryz.underlying4
@[push_cast] theorem Tryz.eqT37 : eqT Tryz.prog 37 = some [2, 2, 0] := by kernel_rfl
@[push_cast] theorem Tryz.eqT79 : eqT Tryz.prog 79 = some [2, 0] := by kernel_rfl
end Go.Proofs
