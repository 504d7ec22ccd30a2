/- Part of a proof about this program; no condition of its own. -/
import Derived.Test.YtanbfhnmklhjiaaGreatDoorProg
import Derived.Test.YtanbfhnmklhjiaaGreatDoorAxVd
import Derived.Test.YtanbfhnmklhjiaaGreatDoorGtA
import Derived.Test.YtanbfhnmklhjiaaGreatDoorGfA
set_option linter.all false
/- Facts on the types of the translation, for the rule that reckons. No condition. -/
namespace Go.Proofs
open Go Go.Ax
theorem Tryz.mixed : Tryz.prog.follows .mixedOrders = true := by kernel_rfl
@[push_cast] theorem Tryz.ldT3 : ldT Tryz.prog 3 = some none := by kernel_rfl
@[push_cast] theorem Tryz.ldT5 : ldT Tryz.prog 5 = some none := by kernel_rfl
@[push_cast] theorem Tryz.ldT9 : ldT Tryz.prog 9 = some none := by kernel_rfl
@[push_cast] theorem Tryz.ldT29 : ldT Tryz.prog 29 = some none := by kernel_rfl
@[push_cast] theorem Tryz.ldT37 : ldT Tryz.prog 37 = some (some 3) := by kernel_rfl
@[push_cast] theorem Tryz.ldT42 : ldT Tryz.prog 42 = some none := by kernel_rfl
@[push_cast] theorem Tryz.ldT43 : ldT Tryz.prog 43 = some none := by kernel_rfl
@[push_cast] theorem Tryz.ldT45 : ldT Tryz.prog 45 = some (some 5) := by kernel_rfl
@[push_cast] theorem Tryz.ldT62 : ldT Tryz.prog 62 = some none := by kernel_rfl
@[push_cast] theorem Tryz.ldT64 : ldT Tryz.prog 64 = some (some 5) := by kernel_rfl
@[push_cast] theorem Tryz.ldT79 : ldT Tryz.prog 79 = some (some 2) := by kernel_rfl
@[push_cast] theorem Tryz.ldT85 : ldT Tryz.prog 85 = some (some 2) := by kernel_rfl
@[push_cast] theorem Tryz.ldT86 : ldT Tryz.prog 86 = some none := by kernel_rfl
@[push_cast] theorem Tryz.ldT88 : ldT Tryz.prog 88 = some (some 4) := by kernel_rfl
@[push_cast] theorem Tryz.ldT93 : ldT Tryz.prog 93 = some none := by kernel_rfl
@[push_cast] theorem Tryz.ldT115 : ldT Tryz.prog 115 = some (some 2) := by kernel_rfl
@[push_cast] theorem Tryz.ldT146 : ldT Tryz.prog 146 = some none := by kernel_rfl
@[push_cast] theorem Tryz.ldT155 : ldT Tryz.prog 155 = some (some 7) := by kernel_rfl
@[push_cast] theorem Tryz.ldT191 : ldT Tryz.prog 191 = some none := by kernel_rfl
@[push_cast] theorem Tryz.ldT192 : ldT Tryz.prog 192 = some none := by kernel_rfl
@[push_cast] theorem Tryz.ldT237 : ldT Tryz.prog 237 = some none := by kernel_rfl
@[push_cast] theorem Tryz.ldT249 : ldT Tryz.prog 249 = some (some 2) := by kernel_rfl
@[push_cast] theorem Tryz.ldT270 : ldT Tryz.prog 270 = some (some 2) := by kernel_rfl
@[push_cast] theorem Tryz.szT3 : szT Tryz.prog 3 = some 1 := by kernel_rfl
@[push_cast] theorem Tryz.szT5 : szT Tryz.prog 5 = some 1 := by kernel_rfl
@[push_cast] theorem Tryz.szT9 : szT Tryz.prog 9 = some 1 := by kernel_rfl
@[push_cast] theorem Tryz.szT29 : szT Tryz.prog 29 = some 1 := by kernel_rfl
@[push_cast] theorem Tryz.szT37 : szT Tryz.prog 37 = some 3 := by kernel_rfl
@[push_cast] theorem Tryz.szT42 : szT Tryz.prog 42 = some 1 := by kernel_rfl
@[push_cast] theorem Tryz.szT43 : szT Tryz.prog 43 = some 1 := by kernel_rfl
@[push_cast] theorem Tryz.szT45 : szT Tryz.prog 45 = some 5 := by kernel_rfl
@[push_cast] theorem Tryz.szT62 : szT Tryz.prog 62 = some 1 := by kernel_rfl
@[push_cast] theorem Tryz.szT64 : szT Tryz.prog 64 = some 5 := by kernel_rfl
@[push_cast] theorem Tryz.szT79 : szT Tryz.prog 79 = some 2 := by kernel_rfl
@[push_cast] theorem Tryz.szT85 : szT Tryz.prog 85 = some 2 := by kernel_rfl
@[push_cast] theorem Tryz.szT86 : szT Tryz.prog 86 = some 1 := by kernel_rfl
@[push_cast] theorem Tryz.szT88 : szT Tryz.prog 88 = some 4 := by kernel_rfl
@[push_cast] theorem Tryz.szT93 : szT Tryz.prog 93 = some 1 := by kernel_rfl
@[push_cast] theorem Tryz.szT115 : szT Tryz.prog 115 = some 2 := by kernel_rfl
@[push_cast] theorem Tryz.szT146 : szT Tryz.prog 146 = some 1 := by kernel_rfl
@[push_cast] theorem Tryz.szT155 : szT Tryz.prog 155 = some 7 := by kernel_rfl
@[push_cast] theorem Tryz.szT172 : szT Tryz.prog 172 = some 4 := by kernel_rfl
@[push_cast] theorem Tryz.szT191 : szT Tryz.prog 191 = some 1 := by kernel_rfl
@[push_cast] theorem Tryz.szT192 : szT Tryz.prog 192 = some 1 := by kernel_rfl
@[push_cast] theorem Tryz.szT237 : szT Tryz.prog 237 = some 1 := by kernel_rfl
@[push_cast] theorem Tryz.szT249 : szT Tryz.prog 249 = some 2 := by kernel_rfl
@[push_cast] theorem Tryz.szT270 : szT Tryz.prog 270 = some 2 := by kernel_rfl
@[push_cast] theorem Tryz.zC3 : zeroC Tryz.prog 3 = some [.d (.int .i64 0)] := by kernel_rfl
@[push_cast] theorem Tryz.zC9 : zeroC Tryz.prog 9 = some [.d (.str [])] := by kernel_rfl
@[push_cast] theorem Tryz.zC29 : zeroC Tryz.prog 29 = some [.d (.raw (.slice none 0 0))] := by kernel_rfl
@[push_cast] theorem Tryz.zC37 : zeroC Tryz.prog 37 = some [.d (.str []), .d (.str []), .d (.int .i64 0)] := by kernel_rfl
@[push_cast] theorem Tryz.zC45 : zeroC Tryz.prog 45 = some [.d (.int .i64 0), .d (.int .i64 0), .d (.str []), .d (.raw (.slice none 0 0)), .d (.raw (.slice none 0 0))] := by kernel_rfl
@[push_cast] theorem Tryz.zC64 : zeroC Tryz.prog 64 = some [.d (.int .i64 0), .d (.int .i64 0), .d (.int .i64 0), .d (.str []), .d (.raw (.slice none 0 0))] := by kernel_rfl
@[push_cast] theorem Tryz.zC79 : zeroC Tryz.prog 79 = some [.d (.str []), .d (.int .i64 0)] := by kernel_rfl
@[push_cast] theorem Tryz.zC85 : zeroC Tryz.prog 85 = some [.d (.int .u8 0), .d (.str [])] := by kernel_rfl
@[push_cast] theorem Tryz.zC88 : zeroC Tryz.prog 88 = some [.d (.str []), .d (.str []), .d (.raw (.slice none 0 0)), .d (.int .i64 0)] := by kernel_rfl
@[push_cast] theorem Tryz.zC93 : zeroC Tryz.prog 93 = some [.d (.raw (.map none))] := by kernel_rfl
@[push_cast] theorem Tryz.zC94 : zeroC Tryz.prog 94 = some [.d (.str []), .d (.str [])] := by kernel_rfl
@[push_cast] theorem Tryz.zC115 : zeroC Tryz.prog 115 = some [.d (.int .i64 0), .d (.str [])] := by kernel_rfl
@[push_cast] theorem Tryz.zC155 : zeroC Tryz.prog 155 = some [.d (.str []), .d (.bool false), .d (.bool false), .d (.str []), .d (.str []), .d (.str []), .d (.int .i64 0)] := by kernel_rfl
@[push_cast] theorem Tryz.zC172 : zeroC Tryz.prog 172 = some [.d (.str []), .d (.str []), .d (.str []), .d (.str [])] := by kernel_rfl
@[push_cast] theorem Tryz.zC194 : zeroC Tryz.prog 194 = some [.d (.raw (.pointer none)), .d (.raw (.slice none 0 0))] := by kernel_rfl
@[push_cast] theorem Tryz.zC237 : zeroC Tryz.prog 237 = some [.d (.int .u64 0)] := by kernel_rfl
@[push_cast] theorem Tryz.zC249 : zeroC Tryz.prog 249 = some [.d (.int .i64 0), .d (.int .i64 0)] := by kernel_rfl
@[push_cast] theorem Tryz.zC257 : zeroC Tryz.prog 257 = some [.d (.int .u8 0), .d (.int .u8 0), .d (.int .u8 0), .d (.int .u8 0), .d (.int .u8 0), .d (.int .u8 0), .d (.int .u8 0), .d (.int .u8 0), .d (.int .u8 0), .d (.int .u8 0), .d (.int .u8 0), .d (.int .u8 0), .d (.int .u8 0), .d (.int .u8 0), .d (.int .u8 0), .d (.int .u8 0), .d (.int .u8 0), .d (.int .u8 0), .d (.int .u8 0), .d (.int .u8 0), .d (.int .u8 0), .d (.int .u8 0), .d (.int .u8 0), .d (.int .u8 0)] := by kernel_rfl
@[push_cast] theorem Tryz.zC270 : zeroC Tryz.prog 270 = some [.d (.int .u8 0), .d (.int .u8 0)] := by kernel_rfl
@[push_cast] theorem Tryz.zC278 : zeroC Tryz.prog 278 = some [.d (.int .u8 0), .d (.int .u8 0), .d (.int .u8 0), .d (.int .u8 0), .d (.int .u8 0), .d (.int .u8 0), .d (.int .u8 0), .d (.int .u8 0), .d (.int .u8 0), .d (.int .u8 0), .d (.int .u8 0), .d (.int .u8 0), .d (.int .u8 0), .d (.int .u8 0), .d (.int .u8 0), .d (.int .u8 0), .d (.int .u8 0), .d (.int .u8 0), .d (.int .u8 0), .d (.int .u8 0), .d (.int .u8 0), .d (.int .u8 0), .d (.int .u8 0), .d (.int .u8 0), .d (.int .u8 0), .d (.int .u8 0), .d (.int .u8 0), .d (.int .u8 0), .d (.int .u8 0), .d (.int .u8 0), .d (.int .u8 0), .d (.int .u8 0), .d (.int .u8 0), .d (.int .u8 0), .d (.int .u8 0), .d (.int .u8 0), .d (.int .u8 0), .d (.int .u8 0), .d (.int .u8 0), .d (.int .u8 0), .d (.int .u8 0), .d (.int .u8 0), .d (.int .u8 0), .d (.int .u8 0), .d (.int .u8 0), .d (.int .u8 0), .d (.int .u8 0), .d (.int .u8 0), .d (.int .u8 0), .d (.int .u8 0), .d (.int .u8 0), .d (.int .u8 0), .d (.int .u8 0), .d (.int .u8 0), .d (.int .u8 0), .d (.int .u8 0), .d (.int .u8 0), .d (.int .u8 0), .d (.int .u8 0), .d (.int .u8 0), .d (.int .u8 0), .d (.int .u8 0), .d (.int .u8 0), .d (.int .u8 0), .d (.int .u8 0)] := by kernel_rfl
@[push_cast] theorem Tryz.fdT25_0 : fdT Tryz.prog 25 0 = some 0 := by kernel_rfl
@[push_cast] theorem Tryz.fdT25_1 : fdT Tryz.prog 25 1 = some 1 := by kernel_rfl
@[push_cast] theorem Tryz.fdT37_0 : fdT Tryz.prog 37 0 = some 0 := by kernel_rfl
@[push_cast] theorem Tryz.fdT37_1 : fdT Tryz.prog 37 1 = some 1 := by kernel_rfl
@[push_cast] theorem Tryz.fdT37_2 : fdT Tryz.prog 37 2 = some 2 := by kernel_rfl
@[push_cast] theorem Tryz.fdT45_0 : fdT Tryz.prog 45 0 = some 0 := by kernel_rfl
@[push_cast] theorem Tryz.fdT45_1 : fdT Tryz.prog 45 1 = some 1 := by kernel_rfl
@[push_cast] theorem Tryz.fdT45_2 : fdT Tryz.prog 45 2 = some 2 := by kernel_rfl
@[push_cast] theorem Tryz.fdT45_3 : fdT Tryz.prog 45 3 = some 3 := by kernel_rfl
@[push_cast] theorem Tryz.fdT45_4 : fdT Tryz.prog 45 4 = some 4 := by kernel_rfl
@[push_cast] theorem Tryz.fdT64_0 : fdT Tryz.prog 64 0 = some 0 := by kernel_rfl
@[push_cast] theorem Tryz.fdT64_1 : fdT Tryz.prog 64 1 = some 1 := by kernel_rfl
@[push_cast] theorem Tryz.fdT64_2 : fdT Tryz.prog 64 2 = some 2 := by kernel_rfl
@[push_cast] theorem Tryz.fdT64_3 : fdT Tryz.prog 64 3 = some 3 := by kernel_rfl
@[push_cast] theorem Tryz.fdT64_4 : fdT Tryz.prog 64 4 = some 4 := by kernel_rfl
@[push_cast] theorem Tryz.fdT79_0 : fdT Tryz.prog 79 0 = some 0 := by kernel_rfl
@[push_cast] theorem Tryz.fdT79_1 : fdT Tryz.prog 79 1 = some 1 := by kernel_rfl
@[push_cast] theorem Tryz.fdT85_0 : fdT Tryz.prog 85 0 = some 0 := by kernel_rfl
@[push_cast] theorem Tryz.fdT85_1 : fdT Tryz.prog 85 1 = some 1 := by kernel_rfl
@[push_cast] theorem Tryz.fdT88_0 : fdT Tryz.prog 88 0 = some 0 := by kernel_rfl
@[push_cast] theorem Tryz.fdT88_1 : fdT Tryz.prog 88 1 = some 1 := by kernel_rfl
@[push_cast] theorem Tryz.fdT88_2 : fdT Tryz.prog 88 2 = some 2 := by kernel_rfl
@[push_cast] theorem Tryz.fdT88_3 : fdT Tryz.prog 88 3 = some 3 := by kernel_rfl
@[push_cast] theorem Tryz.fdT155_0 : fdT Tryz.prog 155 0 = some 0 := by kernel_rfl
@[push_cast] theorem Tryz.fdT155_6 : fdT Tryz.prog 155 6 = some 6 := by kernel_rfl
@[push_cast] theorem Tryz.fdT194_0 : fdT Tryz.prog 194 0 = some 0 := by kernel_rfl
@[push_cast] theorem Tryz.fdT194_1 : fdT Tryz.prog 194 1 = some 1 := by kernel_rfl
@[push_cast] theorem Tryz.fdT249_0 : fdT Tryz.prog 249 0 = some 0 := by kernel_rfl
@[push_cast] theorem Tryz.fdT249_1 : fdT Tryz.prog 249 1 = some 1 := by kernel_rfl
@[push_cast] theorem Tryz.fdT270_0 : fdT Tryz.prog 270 0 = some 0 := by kernel_rfl
@[push_cast] theorem Tryz.fdT270_1 : fdT Tryz.prog 270 1 = some 1 := by kernel_rfl
@[push_cast] theorem Tryz.isS9 : isS Tryz.prog 9 = True := eq_true Tryz.underlying9
@[push_cast] theorem Tryz.slT22 : slT Tryz.prog 22 = some (64, 5) := by kernel_rfl
@[push_cast] theorem Tryz.slT23 : slT Tryz.prog 23 = some (45, 5) := by kernel_rfl
@[push_cast] theorem Tryz.slT29 : slT Tryz.prog 29 = some (37, 3) := by kernel_rfl
@[push_cast] theorem Tryz.slT42 : slT Tryz.prog 42 = some (9, 1) := by kernel_rfl
@[push_cast] theorem Tryz.slT43 : slT Tryz.prog 43 = some (3, 1) := by kernel_rfl
@[push_cast] theorem Tryz.slT62 : slT Tryz.prog 62 = some (88, 4) := by kernel_rfl
@[push_cast] theorem Tryz.slT70 : slT Tryz.prog 70 = some (79, 2) := by kernel_rfl
@[push_cast] theorem Tryz.slT80 : slT Tryz.prog 80 = none := by kernel_rfl
@[push_cast] theorem Tryz.ixT80 : ixT Tryz.prog 80 = some 2 := by kernel_rfl
@[push_cast] theorem Tryz.arT80 : arT Tryz.prog 80 = some (2, 3, 1) := by kernel_rfl
@[push_cast] theorem Tryz.slT86 : slT Tryz.prog 86 = some (85, 2) := by kernel_rfl
@[push_cast] theorem Tryz.slT158 : slT Tryz.prog 158 = some (155, 7) := by kernel_rfl
@[push_cast] theorem Tryz.slT172 : slT Tryz.prog 172 = none := by kernel_rfl
@[push_cast] theorem Tryz.ixT172 : ixT Tryz.prog 172 = some 4 := by kernel_rfl
@[push_cast] theorem Tryz.arT172 : arT Tryz.prog 172 = some (4, 9, 1) := by kernel_rfl
@[push_cast] theorem Tryz.slT192 : slT Tryz.prog 192 = some (5, 1) := by kernel_rfl
@[push_cast] theorem Tryz.slT235 : slT Tryz.prog 235 = none := by kernel_rfl
@[push_cast] theorem Tryz.arT235 : arT Tryz.prog 235 = some (25, 155, 7) := by kernel_rfl
@[push_cast] theorem Tryz.slT247 : slT Tryz.prog 247 = some (249, 2) := by kernel_rfl
@[push_cast] theorem Tryz.slT257 : slT Tryz.prog 257 = none := by kernel_rfl
@[push_cast] theorem Tryz.ixT257 : ixT Tryz.prog 257 = some 24 := by kernel_rfl
@[push_cast] theorem Tryz.arT257 : arT Tryz.prog 257 = some (24, 5, 1) := by kernel_rfl
@[push_cast] theorem Tryz.slT268 : slT Tryz.prog 268 = none := by kernel_rfl
@[push_cast] theorem Tryz.ixT268 : ixT Tryz.prog 268 = some 256 := by kernel_rfl
@[push_cast] theorem Tryz.arT268 : arT Tryz.prog 268 = some (256, 5, 1) := by kernel_rfl
@[push_cast] theorem Tryz.slT271 : slT Tryz.prog 271 = none := by kernel_rfl
@[push_cast] theorem Tryz.arT271 : arT Tryz.prog 271 = some (16, 270, 2) := by kernel_rfl
@[push_cast] theorem Tryz.slT277 : slT Tryz.prog 277 = none := by kernel_rfl
@[push_cast] theorem Tryz.ixT277 : ixT Tryz.prog 277 = some 20 := by kernel_rfl
@[push_cast] theorem Tryz.arT277 : arT Tryz.prog 277 = some (20, 146, 1) := by kernel_rfl
@[push_cast] theorem Tryz.slT278 : slT Tryz.prog 278 = none := by kernel_rfl
@[push_cast] theorem Tryz.ixT278 : ixT Tryz.prog 278 = some 65 := by kernel_rfl
@[push_cast] theorem Tryz.arT278 : arT Tryz.prog 278 = some (65, 5, 1) := by kernel_rfl
@[push_cast] theorem Tryz.slT281 : slT Tryz.prog 281 = none := by kernel_rfl
@[push_cast] theorem Tryz.ixT281 : ixT Tryz.prog 281 = some 32 := by kernel_rfl
@[push_cast] theorem Tryz.arT281 : arT Tryz.prog 281 = some (32, 5, 1) := by kernel_rfl
@[push_cast] theorem Tryz.slT282 : slT Tryz.prog 282 = none := by kernel_rfl
@[push_cast] theorem Tryz.ixT282 : ixT Tryz.prog 282 = some 64 := by kernel_rfl
@[push_cast] theorem Tryz.arT282 : arT Tryz.prog 282 = some (64, 5, 1) := by kernel_rfl
@[push_cast] theorem Tryz.plT37 : plT Tryz.prog 37 = some [(0, 1), (1, 1), (2, 1)] := by kernel_rfl
@[push_cast] theorem Tryz.plT45 : plT Tryz.prog 45 = some [(0, 1), (1, 1), (2, 1), (3, 1), (4, 1)] := by kernel_rfl
@[push_cast] theorem Tryz.plT64 : plT Tryz.prog 64 = some [(0, 1), (1, 1), (2, 1), (3, 1), (4, 1)] := by kernel_rfl
@[push_cast] theorem Tryz.plT79 : plT Tryz.prog 79 = some [(0, 1), (1, 1)] := by kernel_rfl
@[push_cast] theorem Tryz.plT85 : plT Tryz.prog 85 = some [(0, 1), (1, 1)] := by kernel_rfl
@[push_cast] theorem Tryz.plT88 : plT Tryz.prog 88 = some [(0, 1), (1, 1), (2, 1), (3, 1)] := by kernel_rfl
@[push_cast] theorem Tryz.plT94 : plT Tryz.prog 94 = some [(0, 1), (1, 1)] := by kernel_rfl
@[push_cast] theorem Tryz.plT115 : plT Tryz.prog 115 = some [(0, 1), (1, 1)] := by kernel_rfl
@[push_cast] theorem Tryz.plT155 : plT Tryz.prog 155 = some [(0, 1), (1, 1), (2, 1), (3, 1), (4, 1), (5, 1), (6, 1)] := by kernel_rfl
@[push_cast] theorem Tryz.plT172 : plT Tryz.prog 172 = some [(0, 1), (1, 1), (2, 1), (3, 1)] := by kernel_rfl
@[push_cast] theorem Tryz.plT249 : plT Tryz.prog 249 = some [(0, 1), (1, 1)] := by kernel_rfl
@[push_cast] theorem Tryz.apT22 : apT Tryz.prog 22 = some (64, 5, 64) := by kernel_rfl
@[push_cast] theorem Tryz.apT23 : apT Tryz.prog 23 = some (45, 5, 80) := by kernel_rfl
@[push_cast] theorem Tryz.apT29 : apT Tryz.prog 29 = some (37, 3, 40) := by kernel_rfl
@[push_cast] theorem Tryz.apT42 : apT Tryz.prog 42 = some (9, 1, 16) := by kernel_rfl
@[push_cast] theorem Tryz.apT43 : apT Tryz.prog 43 = some (3, 1, 8) := by kernel_rfl
@[push_cast] theorem Tryz.apT62 : apT Tryz.prog 62 = some (88, 4, 64) := by kernel_rfl
@[push_cast] theorem Tryz.apT70 : apT Tryz.prog 70 = some (79, 2, 24) := by kernel_rfl
@[push_cast] theorem Tryz.apT86 : apT Tryz.prog 86 = some (85, 2, 24) := by kernel_rfl
@[push_cast] theorem Tryz.apT158 : apT Tryz.prog 158 = some (155, 7, 80) := by kernel_rfl
@[push_cast] theorem Tryz.apT192 : apT Tryz.prog 192 = some (5, 1, 1) := by kernel_rfl
@[push_cast] theorem Tryz.apT247 : apT Tryz.prog 247 = some (249, 2, 16) := by kernel_rfl
@[push_cast] theorem Tryz.mapSh91 : mapSh Tryz.prog 91 = some [.str] := by kernel_rfl
@[push_cast] theorem Tryz.mapSh93 : mapSh Tryz.prog 93 = some [.str, .str] := by kernel_rfl
@[push_cast] theorem Tryz.mapSh110 : mapSh Tryz.prog 110 = some [.int .i64, .str] := by kernel_rfl
@[push_cast] theorem Tryz.mapSh116 : mapSh Tryz.prog 116 = some [.int .i64] := by kernel_rfl
@[push_cast] theorem Tryz.intT2 : intT Tryz.prog 2 = some .i64 := by kernel_rfl
@[push_cast] theorem Tryz.intT3 : intT Tryz.prog 3 = some .i64 := by kernel_rfl
@[push_cast] theorem Tryz.intT5 : intT Tryz.prog 5 = some .u8 := by kernel_rfl
@[push_cast] theorem Tryz.intT9 : intT Tryz.prog 9 = none := by kernel_rfl
@[push_cast] theorem Tryz.strB9 : strB Tryz.prog 9 = true := by kernel_rfl
@[push_cast] theorem Tryz.intT12 : intT Tryz.prog 12 = some .u64 := by kernel_rfl
@[push_cast] theorem Tryz.intT21 : intT Tryz.prog 21 = some .i32 := by kernel_rfl
@[push_cast] theorem Tryz.intT146 : intT Tryz.prog 146 = some .u64 := by kernel_rfl
@[push_cast] theorem Tryz.intT149 : intT Tryz.prog 149 = some .u64 := by kernel_rfl
@[push_cast] theorem Tryz.intT189 : intT Tryz.prog 189 = some .u32 := by kernel_rfl
@[push_cast] theorem Tryz.intT192 : intT Tryz.prog 192 = none := by kernel_rfl
@[push_cast] theorem Tryz.bysT192 : bysT Tryz.prog 192 = true := by kernel_rfl
@[push_cast] theorem Tryz.intT237 : intT Tryz.prog 237 = some .u64 := by kernel_rfl
@[push_cast] theorem Tryz.isB4 : isB Tryz.prog 4 = True := eq_true Tryz.underlying4
@[push_cast] theorem Tryz.eqT37 : eqT Tryz.prog 37 = some [2, 2, 0] := by kernel_rfl
@[push_cast] theorem Tryz.eqT79 : eqT Tryz.prog 79 = some [2, 0] := by kernel_rfl
end Go.Proofs

/- Walks: characters, texts, lists (reference). -/
namespace Go.Proofs
open Go Go.Ax Go.Tx
set_option maxRecDepth 100000
set_option maxHeartbeats 0
variable {Γ : List (Nat × List D)}
theorem c195 (c : Nat) : AFn Tryz.prog Γ 195 [.c (.d (.int .i64 c))] [.d (.bool (blankR c))] := by
  refine AFn.vc [] Tryz.func195 rfl Tryz.mixed (by kernel_rfl) Tryz.ntmps195 Tryz.results195 (by simp) ?_
  push_cast
  unfold blankR
  refine ⟨fun h => ?_, fun h => ?_⟩
  · rw [decide_eq_false (by omega : ¬ c = 32), Bool.false_or]
    exact decide_eq_decide.2 (by omega)
  · rw [decide_eq_true (by omega : c = 32)]; rfl
theorem c72_p0 (s : List UInt8) (i b c : Nat) (hi : i < s.length) (hs : s.length ≤ 9000000) (ha : s[i].toNat < 256) (hb : b < 256) (hc : c < 256) (eb : ∀ (z : Nat) (hz : z = i + 1) (h : z < s.length), s[z].toNat = b) (ec : ∀ (z : Nat) (hz : z = i + 2) (h : z < s.length), s[z].toNat = c) (p : 32 ≤ s[i].toNat ∧ s[i].toNat < 127) : AFn Tryz.prog Γ 72 [.c (.d (.str s)), .c (.d (.int .i64 i))] [.d (.int .i64 (dec3 s[i].toNat b c (s.length - i)).1), .d (.int .i64 (dec3 s[i].toNat b c (s.length - i)).2)] := by
  have hA1 : (32 ≤ (s[i].toNat : Int)) = True := eq_true (by omega)
  have hA2 : ((s[i].toNat : Int) < 127) = True := eq_true (by omega)
  have e : dec3 s[i].toNat b c (s.length - i) = (s[i].toNat, 1) := by unfold dec3; rw [if_pos (by omega)]
  rw [e]
  clear e
  refine AFn.vc [] Tryz.func72 rfl Tryz.mixed (by kernel_rfl) Tryz.ntmps72 Tryz.results72 (by simp) ?_
  push_cast [hA1, hA2]
  repeat' (first | apply And.intro | intro _ | refine Exists.intro (by omega) ?_)
  all_goals first | omega | rfl
theorem c72_p1 (s : List UInt8) (i b c : Nat) (hi : i < s.length) (hs : s.length ≤ 9000000) (ha : s[i].toNat < 256) (hb : b < 256) (hc : c < 256) (eb : ∀ (z : Nat) (hz : z = i + 1) (h : z < s.length), s[z].toNat = b) (ec : ∀ (z : Nat) (hz : z = i + 2) (h : z < s.length), s[z].toNat = c) (p : s[i].toNat < 32) : AFn Tryz.prog Γ 72 [.c (.d (.str s)), .c (.d (.int .i64 i))] [.d (.int .i64 (dec3 s[i].toNat b c (s.length - i)).1), .d (.int .i64 (dec3 s[i].toNat b c (s.length - i)).2)] := by
  have hA1 : (32 ≤ (s[i].toNat : Int)) = False := eq_false (by omega)
  have hB1 : (194 ≤ (s[i].toNat : Int)) = False := eq_false (by omega)
  have hC1 : (224 ≤ (s[i].toNat : Int)) = False := eq_false (by omega)
  have e : dec3 s[i].toNat b c (s.length - i) = (0, 0) := by unfold dec3; rw [if_neg (by omega), if_neg (by omega), if_neg (by omega)]
  rw [e]
  clear e
  refine AFn.vc [] Tryz.func72 rfl Tryz.mixed (by kernel_rfl) Tryz.ntmps72 Tryz.results72 (by simp) ?_
  push_cast [hA1, hB1, hC1]
  repeat' (first | apply And.intro | intro _ | refine Exists.intro (by omega) ?_)
  all_goals first | omega | rfl
theorem c72_p2 (s : List UInt8) (i b c : Nat) (hi : i < s.length) (hs : s.length ≤ 9000000) (ha : s[i].toNat < 256) (hb : b < 256) (hc : c < 256) (eb : ∀ (z : Nat) (hz : z = i + 1) (h : z < s.length), s[z].toNat = b) (ec : ∀ (z : Nat) (hz : z = i + 2) (h : z < s.length), s[z].toNat = c) (p : 127 ≤ s[i].toNat ∧ s[i].toNat < 194) : AFn Tryz.prog Γ 72 [.c (.d (.str s)), .c (.d (.int .i64 i))] [.d (.int .i64 (dec3 s[i].toNat b c (s.length - i)).1), .d (.int .i64 (dec3 s[i].toNat b c (s.length - i)).2)] := by
  have hA1 : (32 ≤ (s[i].toNat : Int)) = True := eq_true (by omega)
  have hA2 : ((s[i].toNat : Int) < 127) = False := eq_false (by omega)
  have hB1 : (194 ≤ (s[i].toNat : Int)) = False := eq_false (by omega)
  have hC1 : (224 ≤ (s[i].toNat : Int)) = False := eq_false (by omega)
  have e : dec3 s[i].toNat b c (s.length - i) = (0, 0) := by unfold dec3; rw [if_neg (by omega), if_neg (by omega), if_neg (by omega)]
  rw [e]
  clear e
  refine AFn.vc [] Tryz.func72 rfl Tryz.mixed (by kernel_rfl) Tryz.ntmps72 Tryz.results72 (by simp) ?_
  push_cast [hA1, hA2, hB1, hC1]
  repeat' (first | apply And.intro | intro _ | refine Exists.intro (by omega) ?_)
  all_goals first | omega | rfl
theorem c72_p3 (s : List UInt8) (i b c : Nat) (hi : i < s.length) (hs : s.length ≤ 9000000) (ha : s[i].toNat < 256) (hb : b < 256) (hc : c < 256) (eb : ∀ (z : Nat) (hz : z = i + 1) (h : z < s.length), s[z].toNat = b) (ec : ∀ (z : Nat) (hz : z = i + 2) (h : z < s.length), s[z].toNat = c) (p : 194 ≤ s[i].toNat ∧ s[i].toNat < 224 ∧ ¬ i + 1 < s.length) : AFn Tryz.prog Γ 72 [.c (.d (.str s)), .c (.d (.int .i64 i))] [.d (.int .i64 (dec3 s[i].toNat b c (s.length - i)).1), .d (.int .i64 (dec3 s[i].toNat b c (s.length - i)).2)] := by
  have hA1 : (32 ≤ (s[i].toNat : Int)) = True := eq_true (by omega)
  have hA2 : ((s[i].toNat : Int) < 127) = False := eq_false (by omega)
  have hB1 : (194 ≤ (s[i].toNat : Int)) = True := eq_true (by omega)
  have hB2 : ((s[i].toNat : Int) < 224) = True := eq_true (by omega)
  have hB3 : ((i : Int) + 1 < (s.length : Int)) = False := eq_false (by omega)
  have hC1 : (224 ≤ (s[i].toNat : Int)) = False := eq_false (by omega)
  have e : dec3 s[i].toNat b c (s.length - i) = (0, 0) := by unfold dec3; rw [if_neg (by omega), if_neg (by omega), if_neg (by omega)]
  rw [e]
  clear e
  refine AFn.vc [] Tryz.func72 rfl Tryz.mixed (by kernel_rfl) Tryz.ntmps72 Tryz.results72 (by simp) ?_
  push_cast [hA1, hA2, hB1, hB2, hB3, hC1]
  repeat' (first | apply And.intro | intro _ | refine Exists.intro (by omega) ?_)
  all_goals first | omega | rfl
theorem c72_p4 (s : List UInt8) (i b c : Nat) (hi : i < s.length) (hs : s.length ≤ 9000000) (ha : s[i].toNat < 256) (hb : b < 256) (hc : c < 256) (eb : ∀ (z : Nat) (hz : z = i + 1) (h : z < s.length), s[z].toNat = b) (ec : ∀ (z : Nat) (hz : z = i + 2) (h : z < s.length), s[z].toNat = c) (p : 194 ≤ s[i].toNat ∧ s[i].toNat < 224 ∧ i + 1 < s.length ∧ b < 128) : AFn Tryz.prog Γ 72 [.c (.d (.str s)), .c (.d (.int .i64 i))] [.d (.int .i64 (dec3 s[i].toNat b c (s.length - i)).1), .d (.int .i64 (dec3 s[i].toNat b c (s.length - i)).2)] := by
  have hA1 : (32 ≤ (s[i].toNat : Int)) = True := eq_true (by omega)
  have hA2 : ((s[i].toNat : Int) < 127) = False := eq_false (by omega)
  have hB1 : (194 ≤ (s[i].toNat : Int)) = True := eq_true (by omega)
  have hB2 : ((s[i].toNat : Int) < 224) = True := eq_true (by omega)
  have hB3 : ((i : Int) + 1 < (s.length : Int)) = True := eq_true (by omega)
  have hB4 : ∀ h, (128 ≤ ((s[((i : Int) + 1).toNat]'h).toNat : Int)) = False := fun h => by have := eb _ (by omega) h; exact eq_false (by omega)
  have hC1 : (224 ≤ (s[i].toNat : Int)) = False := eq_false (by omega)
  have e : dec3 s[i].toNat b c (s.length - i) = (0, 0) := by unfold dec3; rw [if_neg (by omega), if_neg (by omega), if_neg (by omega)]
  rw [e]
  clear e
  refine AFn.vc [] Tryz.func72 rfl Tryz.mixed (by kernel_rfl) Tryz.ntmps72 Tryz.results72 (by simp) ?_
  push_cast [hA1, hA2, hB1, hB2, hB3, hB4, hC1]
  repeat' (first | apply And.intro | intro _ | refine Exists.intro (by omega) ?_)
  all_goals first | omega | rfl
theorem c72_p5 (s : List UInt8) (i b c : Nat) (hi : i < s.length) (hs : s.length ≤ 9000000) (ha : s[i].toNat < 256) (hb : b < 256) (hc : c < 256) (eb : ∀ (z : Nat) (hz : z = i + 1) (h : z < s.length), s[z].toNat = b) (ec : ∀ (z : Nat) (hz : z = i + 2) (h : z < s.length), s[z].toNat = c) (p : 194 ≤ s[i].toNat ∧ s[i].toNat < 224 ∧ i + 1 < s.length ∧ 192 ≤ b) : AFn Tryz.prog Γ 72 [.c (.d (.str s)), .c (.d (.int .i64 i))] [.d (.int .i64 (dec3 s[i].toNat b c (s.length - i)).1), .d (.int .i64 (dec3 s[i].toNat b c (s.length - i)).2)] := by
  have hA1 : (32 ≤ (s[i].toNat : Int)) = True := eq_true (by omega)
  have hA2 : ((s[i].toNat : Int) < 127) = False := eq_false (by omega)
  have hB1 : (194 ≤ (s[i].toNat : Int)) = True := eq_true (by omega)
  have hB2 : ((s[i].toNat : Int) < 224) = True := eq_true (by omega)
  have hB3 : ((i : Int) + 1 < (s.length : Int)) = True := eq_true (by omega)
  have hB4 : ∀ h, (128 ≤ ((s[((i : Int) + 1).toNat]'h).toNat : Int)) = True := fun h => by have := eb _ (by omega) h; exact eq_true (by omega)
  have hB5 : ∀ h, (((s[((i : Int) + 1).toNat]'h).toNat : Int) < 192) = False := fun h => by have := eb _ (by omega) h; exact eq_false (by omega)
  have hC1 : (224 ≤ (s[i].toNat : Int)) = False := eq_false (by omega)
  have e : dec3 s[i].toNat b c (s.length - i) = (0, 0) := by unfold dec3; rw [if_neg (by omega), if_neg (by omega), if_neg (by omega)]
  rw [e]
  clear e
  refine AFn.vc [] Tryz.func72 rfl Tryz.mixed (by kernel_rfl) Tryz.ntmps72 Tryz.results72 (by simp) ?_
  push_cast [hA1, hA2, hB1, hB2, hB3, hB4, hB5, hC1]
  repeat' (first | apply And.intro | intro _ | refine Exists.intro (by omega) ?_)
  all_goals first | omega | rfl
theorem c72_p6 (s : List UInt8) (i b c : Nat) (hi : i < s.length) (hs : s.length ≤ 9000000) (ha : s[i].toNat < 256) (hb : b < 256) (hc : c < 256) (eb : ∀ (z : Nat) (hz : z = i + 1) (h : z < s.length), s[z].toNat = b) (ec : ∀ (z : Nat) (hz : z = i + 2) (h : z < s.length), s[z].toNat = c) (p : 194 ≤ s[i].toNat ∧ s[i].toNat < 224 ∧ i + 1 < s.length ∧ 128 ≤ b ∧ b < 192) : AFn Tryz.prog Γ 72 [.c (.d (.str s)), .c (.d (.int .i64 i))] [.d (.int .i64 (dec3 s[i].toNat b c (s.length - i)).1), .d (.int .i64 (dec3 s[i].toNat b c (s.length - i)).2)] := by
  have hA1 : (32 ≤ (s[i].toNat : Int)) = True := eq_true (by omega)
  have hA2 : ((s[i].toNat : Int) < 127) = False := eq_false (by omega)
  have hB1 : (194 ≤ (s[i].toNat : Int)) = True := eq_true (by omega)
  have hB2 : ((s[i].toNat : Int) < 224) = True := eq_true (by omega)
  have hB3 : ((i : Int) + 1 < (s.length : Int)) = True := eq_true (by omega)
  have hB4 : ∀ h, (128 ≤ ((s[((i : Int) + 1).toNat]'h).toNat : Int)) = True := fun h => by have := eb _ (by omega) h; exact eq_true (by omega)
  have hB5 : ∀ h, (((s[((i : Int) + 1).toNat]'h).toNat : Int) < 192) = True := fun h => by have := eb _ (by omega) h; exact eq_true (by omega)
  have e : dec3 s[i].toNat b c (s.length - i) = if 160 ≤ (s[i].toNat - 192) * 64 + (b - 128) then ((s[i].toNat - 192) * 64 + (b - 128), 2) else (0, 0) := by unfold dec3; rw [if_neg (by omega), if_pos (by omega)]
  rw [e]
  clear e
  refine AFn.vc [] Tryz.func72 rfl Tryz.mixed (by kernel_rfl) Tryz.ntmps72 Tryz.results72 (by simp) ?_
  push_cast [hA1, hA2, hB1, hB2, hB3, hB4, hB5]
  have fb : ∀ h : ((i : Int) + 1).toNat < s.length, (s[((i : Int) + 1).toNat]'h).toNat = b := fun h => eb _ (by omega) h
  have fc : ∀ h : ((i : Int) + 2).toNat < s.length, (s[((i : Int) + 2).toNat]'h).toNat = c := fun h => ec _ (by omega) h
  simp only [fb, fc]
  clear fb fc eb ec hA1 hA2 hB1 hB2 hB4 hB5
  repeat' (first | apply And.intro | intro _ | refine Exists.intro (by omega) ?_)
  all_goals first
    | omega
    | (rw [if_pos (by omega)]; simp only; omega)
    | (rw [if_neg (by omega)]; rfl)
theorem c72_p7 (s : List UInt8) (i b c : Nat) (hi : i < s.length) (hs : s.length ≤ 9000000) (ha : s[i].toNat < 256) (hb : b < 256) (hc : c < 256) (eb : ∀ (z : Nat) (hz : z = i + 1) (h : z < s.length), s[z].toNat = b) (ec : ∀ (z : Nat) (hz : z = i + 2) (h : z < s.length), s[z].toNat = c) (p : 240 ≤ s[i].toNat) : AFn Tryz.prog Γ 72 [.c (.d (.str s)), .c (.d (.int .i64 i))] [.d (.int .i64 (dec3 s[i].toNat b c (s.length - i)).1), .d (.int .i64 (dec3 s[i].toNat b c (s.length - i)).2)] := by
  have hA1 : (32 ≤ (s[i].toNat : Int)) = True := eq_true (by omega)
  have hA2 : ((s[i].toNat : Int) < 127) = False := eq_false (by omega)
  have hB1 : (194 ≤ (s[i].toNat : Int)) = True := eq_true (by omega)
  have hB2 : ((s[i].toNat : Int) < 224) = False := eq_false (by omega)
  have hC1 : (224 ≤ (s[i].toNat : Int)) = True := eq_true (by omega)
  have hC2 : ((s[i].toNat : Int) < 240) = False := eq_false (by omega)
  have e : dec3 s[i].toNat b c (s.length - i) = (0, 0) := by unfold dec3; rw [if_neg (by omega), if_neg (by omega), if_neg (by omega)]
  rw [e]
  clear e
  refine AFn.vc [] Tryz.func72 rfl Tryz.mixed (by kernel_rfl) Tryz.ntmps72 Tryz.results72 (by simp) ?_
  push_cast [hA1, hA2, hB1, hB2, hC1, hC2]
  repeat' (first | apply And.intro | intro _ | refine Exists.intro (by omega) ?_)
  all_goals first | omega | rfl
theorem c72_p8 (s : List UInt8) (i b c : Nat) (hi : i < s.length) (hs : s.length ≤ 9000000) (ha : s[i].toNat < 256) (hb : b < 256) (hc : c < 256) (eb : ∀ (z : Nat) (hz : z = i + 1) (h : z < s.length), s[z].toNat = b) (ec : ∀ (z : Nat) (hz : z = i + 2) (h : z < s.length), s[z].toNat = c) (p : 224 ≤ s[i].toNat ∧ s[i].toNat < 240 ∧ ¬ i + 2 < s.length) : AFn Tryz.prog Γ 72 [.c (.d (.str s)), .c (.d (.int .i64 i))] [.d (.int .i64 (dec3 s[i].toNat b c (s.length - i)).1), .d (.int .i64 (dec3 s[i].toNat b c (s.length - i)).2)] := by
  have hA1 : (32 ≤ (s[i].toNat : Int)) = True := eq_true (by omega)
  have hA2 : ((s[i].toNat : Int) < 127) = False := eq_false (by omega)
  have hB1 : (194 ≤ (s[i].toNat : Int)) = True := eq_true (by omega)
  have hB2 : ((s[i].toNat : Int) < 224) = False := eq_false (by omega)
  have hC1 : (224 ≤ (s[i].toNat : Int)) = True := eq_true (by omega)
  have hC2 : ((s[i].toNat : Int) < 240) = True := eq_true (by omega)
  have hC3 : ((i : Int) + 2 < (s.length : Int)) = False := eq_false (by omega)
  have e : dec3 s[i].toNat b c (s.length - i) = (0, 0) := by unfold dec3; rw [if_neg (by omega), if_neg (by omega), if_neg (by omega)]
  rw [e]
  clear e
  refine AFn.vc [] Tryz.func72 rfl Tryz.mixed (by kernel_rfl) Tryz.ntmps72 Tryz.results72 (by simp) ?_
  push_cast [hA1, hA2, hB1, hB2, hC1, hC2, hC3]
  repeat' (first | apply And.intro | intro _ | refine Exists.intro (by omega) ?_)
  all_goals first | omega | rfl
theorem c72_p9 (s : List UInt8) (i b c : Nat) (hi : i < s.length) (hs : s.length ≤ 9000000) (ha : s[i].toNat < 256) (hb : b < 256) (hc : c < 256) (eb : ∀ (z : Nat) (hz : z = i + 1) (h : z < s.length), s[z].toNat = b) (ec : ∀ (z : Nat) (hz : z = i + 2) (h : z < s.length), s[z].toNat = c) (p : 224 ≤ s[i].toNat ∧ s[i].toNat < 240 ∧ i + 2 < s.length ∧ b < 128) : AFn Tryz.prog Γ 72 [.c (.d (.str s)), .c (.d (.int .i64 i))] [.d (.int .i64 (dec3 s[i].toNat b c (s.length - i)).1), .d (.int .i64 (dec3 s[i].toNat b c (s.length - i)).2)] := by
  have hA1 : (32 ≤ (s[i].toNat : Int)) = True := eq_true (by omega)
  have hA2 : ((s[i].toNat : Int) < 127) = False := eq_false (by omega)
  have hB1 : (194 ≤ (s[i].toNat : Int)) = True := eq_true (by omega)
  have hB2 : ((s[i].toNat : Int) < 224) = False := eq_false (by omega)
  have hC1 : (224 ≤ (s[i].toNat : Int)) = True := eq_true (by omega)
  have hC2 : ((s[i].toNat : Int) < 240) = True := eq_true (by omega)
  have hC3 : ((i : Int) + 2 < (s.length : Int)) = True := eq_true (by omega)
  have hB4 : ∀ h, (128 ≤ ((s[((i : Int) + 1).toNat]'h).toNat : Int)) = False := fun h => by have := eb _ (by omega) h; exact eq_false (by omega)
  have e : dec3 s[i].toNat b c (s.length - i) = (0, 0) := by unfold dec3; rw [if_neg (by omega), if_neg (by omega), if_neg (by omega)]
  rw [e]
  clear e
  refine AFn.vc [] Tryz.func72 rfl Tryz.mixed (by kernel_rfl) Tryz.ntmps72 Tryz.results72 (by simp) ?_
  push_cast [hA1, hA2, hB1, hB2, hC1, hC2, hC3, hB4]
  repeat' (first | apply And.intro | intro _ | refine Exists.intro (by omega) ?_)
  all_goals first | omega | rfl
theorem c72_p10 (s : List UInt8) (i b c : Nat) (hi : i < s.length) (hs : s.length ≤ 9000000) (ha : s[i].toNat < 256) (hb : b < 256) (hc : c < 256) (eb : ∀ (z : Nat) (hz : z = i + 1) (h : z < s.length), s[z].toNat = b) (ec : ∀ (z : Nat) (hz : z = i + 2) (h : z < s.length), s[z].toNat = c) (p : 224 ≤ s[i].toNat ∧ s[i].toNat < 240 ∧ i + 2 < s.length ∧ 192 ≤ b) : AFn Tryz.prog Γ 72 [.c (.d (.str s)), .c (.d (.int .i64 i))] [.d (.int .i64 (dec3 s[i].toNat b c (s.length - i)).1), .d (.int .i64 (dec3 s[i].toNat b c (s.length - i)).2)] := by
  have hA1 : (32 ≤ (s[i].toNat : Int)) = True := eq_true (by omega)
  have hA2 : ((s[i].toNat : Int) < 127) = False := eq_false (by omega)
  have hB1 : (194 ≤ (s[i].toNat : Int)) = True := eq_true (by omega)
  have hB2 : ((s[i].toNat : Int) < 224) = False := eq_false (by omega)
  have hC1 : (224 ≤ (s[i].toNat : Int)) = True := eq_true (by omega)
  have hC2 : ((s[i].toNat : Int) < 240) = True := eq_true (by omega)
  have hC3 : ((i : Int) + 2 < (s.length : Int)) = True := eq_true (by omega)
  have hB4 : ∀ h, (128 ≤ ((s[((i : Int) + 1).toNat]'h).toNat : Int)) = True := fun h => by have := eb _ (by omega) h; exact eq_true (by omega)
  have hB5 : ∀ h, (((s[((i : Int) + 1).toNat]'h).toNat : Int) < 192) = False := fun h => by have := eb _ (by omega) h; exact eq_false (by omega)
  have e : dec3 s[i].toNat b c (s.length - i) = (0, 0) := by unfold dec3; rw [if_neg (by omega), if_neg (by omega), if_neg (by omega)]
  rw [e]
  clear e
  refine AFn.vc [] Tryz.func72 rfl Tryz.mixed (by kernel_rfl) Tryz.ntmps72 Tryz.results72 (by simp) ?_
  push_cast [hA1, hA2, hB1, hB2, hC1, hC2, hC3, hB4, hB5]
  repeat' (first | apply And.intro | intro _ | refine Exists.intro (by omega) ?_)
  all_goals first | omega | rfl
theorem c72_p11 (s : List UInt8) (i b c : Nat) (hi : i < s.length) (hs : s.length ≤ 9000000) (ha : s[i].toNat < 256) (hb : b < 256) (hc : c < 256) (eb : ∀ (z : Nat) (hz : z = i + 1) (h : z < s.length), s[z].toNat = b) (ec : ∀ (z : Nat) (hz : z = i + 2) (h : z < s.length), s[z].toNat = c) (p : 224 ≤ s[i].toNat ∧ s[i].toNat < 240 ∧ i + 2 < s.length ∧ 128 ≤ b ∧ b < 192 ∧ c < 128) : AFn Tryz.prog Γ 72 [.c (.d (.str s)), .c (.d (.int .i64 i))] [.d (.int .i64 (dec3 s[i].toNat b c (s.length - i)).1), .d (.int .i64 (dec3 s[i].toNat b c (s.length - i)).2)] := by
  have hA1 : (32 ≤ (s[i].toNat : Int)) = True := eq_true (by omega)
  have hA2 : ((s[i].toNat : Int) < 127) = False := eq_false (by omega)
  have hB1 : (194 ≤ (s[i].toNat : Int)) = True := eq_true (by omega)
  have hB2 : ((s[i].toNat : Int) < 224) = False := eq_false (by omega)
  have hC1 : (224 ≤ (s[i].toNat : Int)) = True := eq_true (by omega)
  have hC2 : ((s[i].toNat : Int) < 240) = True := eq_true (by omega)
  have hC3 : ((i : Int) + 2 < (s.length : Int)) = True := eq_true (by omega)
  have hB4 : ∀ h, (128 ≤ ((s[((i : Int) + 1).toNat]'h).toNat : Int)) = True := fun h => by have := eb _ (by omega) h; exact eq_true (by omega)
  have hB5 : ∀ h, (((s[((i : Int) + 1).toNat]'h).toNat : Int) < 192) = True := fun h => by have := eb _ (by omega) h; exact eq_true (by omega)
  have hC6 : ∀ h, (128 ≤ ((s[((i : Int) + 2).toNat]'h).toNat : Int)) = False := fun h => by have := ec _ (by omega) h; exact eq_false (by omega)
  have e : dec3 s[i].toNat b c (s.length - i) = (0, 0) := by unfold dec3; rw [if_neg (by omega), if_neg (by omega), if_neg (by omega)]
  rw [e]
  clear e
  refine AFn.vc [] Tryz.func72 rfl Tryz.mixed (by kernel_rfl) Tryz.ntmps72 Tryz.results72 (by simp) ?_
  push_cast [hA1, hA2, hB1, hB2, hC1, hC2, hC3, hB4, hB5, hC6]
  repeat' (first | apply And.intro | intro _ | refine Exists.intro (by omega) ?_)
  all_goals first | omega | rfl
theorem c72_p12 (s : List UInt8) (i b c : Nat) (hi : i < s.length) (hs : s.length ≤ 9000000) (ha : s[i].toNat < 256) (hb : b < 256) (hc : c < 256) (eb : ∀ (z : Nat) (hz : z = i + 1) (h : z < s.length), s[z].toNat = b) (ec : ∀ (z : Nat) (hz : z = i + 2) (h : z < s.length), s[z].toNat = c) (p : 224 ≤ s[i].toNat ∧ s[i].toNat < 240 ∧ i + 2 < s.length ∧ 128 ≤ b ∧ b < 192 ∧ 192 ≤ c) : AFn Tryz.prog Γ 72 [.c (.d (.str s)), .c (.d (.int .i64 i))] [.d (.int .i64 (dec3 s[i].toNat b c (s.length - i)).1), .d (.int .i64 (dec3 s[i].toNat b c (s.length - i)).2)] := by
  have hA1 : (32 ≤ (s[i].toNat : Int)) = True := eq_true (by omega)
  have hA2 : ((s[i].toNat : Int) < 127) = False := eq_false (by omega)
  have hB1 : (194 ≤ (s[i].toNat : Int)) = True := eq_true (by omega)
  have hB2 : ((s[i].toNat : Int) < 224) = False := eq_false (by omega)
  have hC1 : (224 ≤ (s[i].toNat : Int)) = True := eq_true (by omega)
  have hC2 : ((s[i].toNat : Int) < 240) = True := eq_true (by omega)
  have hC3 : ((i : Int) + 2 < (s.length : Int)) = True := eq_true (by omega)
  have hB4 : ∀ h, (128 ≤ ((s[((i : Int) + 1).toNat]'h).toNat : Int)) = True := fun h => by have := eb _ (by omega) h; exact eq_true (by omega)
  have hB5 : ∀ h, (((s[((i : Int) + 1).toNat]'h).toNat : Int) < 192) = True := fun h => by have := eb _ (by omega) h; exact eq_true (by omega)
  have hC6 : ∀ h, (128 ≤ ((s[((i : Int) + 2).toNat]'h).toNat : Int)) = True := fun h => by have := ec _ (by omega) h; exact eq_true (by omega)
  have hC7 : ∀ h, (((s[((i : Int) + 2).toNat]'h).toNat : Int) < 192) = False := fun h => by have := ec _ (by omega) h; exact eq_false (by omega)
  have e : dec3 s[i].toNat b c (s.length - i) = (0, 0) := by unfold dec3; rw [if_neg (by omega), if_neg (by omega), if_neg (by omega)]
  rw [e]
  clear e
  refine AFn.vc [] Tryz.func72 rfl Tryz.mixed (by kernel_rfl) Tryz.ntmps72 Tryz.results72 (by simp) ?_
  push_cast [hA1, hA2, hB1, hB2, hC1, hC2, hC3, hB4, hB5, hC6, hC7]
  repeat' (first | apply And.intro | intro _ | refine Exists.intro (by omega) ?_)
  all_goals first | omega | rfl
theorem c72_p13 (s : List UInt8) (i b c : Nat) (hi : i < s.length) (hs : s.length ≤ 9000000) (ha : s[i].toNat < 256) (hb : b < 256) (hc : c < 256) (eb : ∀ (z : Nat) (hz : z = i + 1) (h : z < s.length), s[z].toNat = b) (ec : ∀ (z : Nat) (hz : z = i + 2) (h : z < s.length), s[z].toNat = c) (p : 224 ≤ s[i].toNat ∧ s[i].toNat < 240 ∧ i + 2 < s.length ∧ 128 ≤ b ∧ b < 192 ∧ 128 ≤ c ∧ c < 192) : AFn Tryz.prog Γ 72 [.c (.d (.str s)), .c (.d (.int .i64 i))] [.d (.int .i64 (dec3 s[i].toNat b c (s.length - i)).1), .d (.int .i64 (dec3 s[i].toNat b c (s.length - i)).2)] := by
  have hA1 : (32 ≤ (s[i].toNat : Int)) = True := eq_true (by omega)
  have hA2 : ((s[i].toNat : Int) < 127) = False := eq_false (by omega)
  have hB1 : (194 ≤ (s[i].toNat : Int)) = True := eq_true (by omega)
  have hB2 : ((s[i].toNat : Int) < 224) = False := eq_false (by omega)
  have hC1 : (224 ≤ (s[i].toNat : Int)) = True := eq_true (by omega)
  have hC2 : ((s[i].toNat : Int) < 240) = True := eq_true (by omega)
  have hC3 : ((i : Int) + 2 < (s.length : Int)) = True := eq_true (by omega)
  have hB4 : ∀ h, (128 ≤ ((s[((i : Int) + 1).toNat]'h).toNat : Int)) = True := fun h => by have := eb _ (by omega) h; exact eq_true (by omega)
  have hB5 : ∀ h, (((s[((i : Int) + 1).toNat]'h).toNat : Int) < 192) = True := fun h => by have := eb _ (by omega) h; exact eq_true (by omega)
  have hC6 : ∀ h, (128 ≤ ((s[((i : Int) + 2).toNat]'h).toNat : Int)) = True := fun h => by have := ec _ (by omega) h; exact eq_true (by omega)
  have hC7 : ∀ h, (((s[((i : Int) + 2).toNat]'h).toNat : Int) < 192) = True := fun h => by have := ec _ (by omega) h; exact eq_true (by omega)
  have e : dec3 s[i].toNat b c (s.length - i) = if 2048 ≤ (s[i].toNat - 224) * 4096 + (b - 128) * 64 + (c - 128) ∧ ((s[i].toNat - 224) * 4096 + (b - 128) * 64 + (c - 128) < 55296 ∨ 57343 < (s[i].toNat - 224) * 4096 + (b - 128) * 64 + (c - 128)) then ((s[i].toNat - 224) * 4096 + (b - 128) * 64 + (c - 128), 3) else (0, 0) := by unfold dec3; rw [if_neg (by omega), if_neg (by omega), if_pos (by omega)]
  rw [e]
  clear e
  refine AFn.vc [] Tryz.func72 rfl Tryz.mixed (by kernel_rfl) Tryz.ntmps72 Tryz.results72 (by simp) ?_
  push_cast [hA1, hA2, hB1, hB2, hC1, hC2, hC3, hB4, hB5, hC6, hC7]
  have fb : ∀ h : ((i : Int) + 1).toNat < s.length, (s[((i : Int) + 1).toNat]'h).toNat = b := fun h => eb _ (by omega) h
  have fc : ∀ h : ((i : Int) + 2).toNat < s.length, (s[((i : Int) + 2).toNat]'h).toNat = c := fun h => ec _ (by omega) h
  simp only [fb, fc]
  clear fb fc eb ec hA1 hA2 hB1 hB2 hB4 hB5
  repeat' (first | apply And.intro | intro _ | refine Exists.intro (by omega) ?_)
  all_goals first
    | omega
    | (rw [if_pos (by omega)]; simp only; omega)
    | (rw [if_neg (by omega)]; rfl)
theorem c72 (s : List UInt8) (i : Nat) (hi : i < s.length) (hs : s.length ≤ 9000000) : AFn Tryz.prog Γ 72 [.c (.d (.str s)), .c (.d (.int .i64 i))] [.d (.int .i64 (decF (s.drop i)).1), .d (.int .i64 (decF (s.drop i)).2)] := by
  have ea : ((s.drop i).getD 0 0) = s[i] := by simp [List.getD_eq_getElem?_getD, hi]
  have eb : ∀ (z : Nat) (hz : z = i + 1) (h : z < s.length), s[z].toNat = ((s.drop i).getD 1 0).toNat := fun z hz h => by subst hz; simp [List.getD_eq_getElem?_getD, h]
  have ec : ∀ (z : Nat) (hz : z = i + 2) (h : z < s.length), s[z].toNat = ((s.drop i).getD 2 0).toNat := fun z hz h => by subst hz; simp [List.getD_eq_getElem?_getD, h]
  have en : (s.drop i).length = s.length - i := by simp
  unfold decF
  rw [ea, en]
  have hb : ((s.drop i).getD 1 0).toNat < 256 := UInt8.toNat_lt _
  have hc : ((s.drop i).getD 2 0).toNat < 256 := UInt8.toNat_lt _
  have ha : s[i].toNat < 256 := UInt8.toNat_lt _
  generalize ((s.drop i).getD 1 0).toNat = b at *
  generalize ((s.drop i).getD 2 0).toNat = c at *
  by_cases a1 : s[i].toNat < 32
  · exact c72_p1 s i b c hi hs ha hb hc eb ec a1
  by_cases a2 : s[i].toNat < 127
  · exact c72_p0 s i b c hi hs ha hb hc eb ec ⟨by omega, a2⟩
  by_cases a3 : s[i].toNat < 194
  · exact c72_p2 s i b c hi hs ha hb hc eb ec ⟨by omega, a3⟩
  by_cases a4 : s[i].toNat < 224
  · by_cases n1 : i + 1 < s.length
    · by_cases b1 : b < 128
      · exact c72_p4 s i b c hi hs ha hb hc eb ec ⟨by omega, a4, n1, b1⟩
      by_cases b2 : b < 192
      · exact c72_p6 s i b c hi hs ha hb hc eb ec ⟨by omega, a4, n1, by omega, b2⟩
      · exact c72_p5 s i b c hi hs ha hb hc eb ec ⟨by omega, a4, n1, by omega⟩
    · exact c72_p3 s i b c hi hs ha hb hc eb ec ⟨by omega, a4, n1⟩
  by_cases a5 : s[i].toNat < 240
  · by_cases n2 : i + 2 < s.length
    · by_cases b1 : b < 128
      · exact c72_p9 s i b c hi hs ha hb hc eb ec ⟨by omega, a5, n2, b1⟩
      by_cases b2 : b < 192
      · by_cases c1 : c < 128
        · exact c72_p11 s i b c hi hs ha hb hc eb ec ⟨by omega, a5, n2, by omega, b2, c1⟩
        by_cases c2 : c < 192
        · exact c72_p13 s i b c hi hs ha hb hc eb ec ⟨by omega, a5, n2, by omega, b2, by omega, c2⟩
        · exact c72_p12 s i b c hi hs ha hb hc eb ec ⟨by omega, a5, n2, by omega, b2, by omega⟩
      · exact c72_p10 s i b c hi hs ha hb hc eb ec ⟨by omega, a5, n2, by omega⟩
    · exact c72_p8 s i b c hi hs ha hb hc eb ec ⟨by omega, a5, n2⟩
  · exact c72_p7 s i b c hi hs ha hb hc eb ec (by omega)
theorem cleanG_len : ∀ (f : Nat) (l : List UInt8) (st : List UInt8 × Bool), (cleanG f l st).length ≤ st.1.length + 2 * l.length
  | 0, _, st => by simp [cleanG]
  | f + 1, l, st => by
    unfold cleanG
    split
    · omega
    · next hne =>
      have hl : 1 ≤ l.length := List.length_pos_iff.2 hne
      have h1 := cleanG_len f (l.drop (max (decF l).2 1)) (cleanStep st (decF l).1 (l.take (max (decF l).2 1)))
      have h2 : (cleanStep st (decF l).1 (l.take (max (decF l).2 1))).1.length ≤ st.1.length + 1 + min (max (decF l).2 1) l.length := by
        unfold cleanStep
        split
        · simp only; omega
        · simp only [List.length_append, List.length_take]; split <;> simp <;> omega
      rw [List.length_drop] at h1
      omega
theorem c194 (s : List UInt8) (i : Nat) (hi : i < s.length) (hs : s.length ≤ 9000000) : AFn Tryz.prog Γ 194 [.c (.d (.str s)), .c (.d (.int .i64 i))] [.d (.int .i64 ((max (decF (s.drop i)).2 1 : Nat) : Int))] := by
  refine AFn.vc [] Tryz.func194 rfl Tryz.mixed (by kernel_rfl) Tryz.ntmps194 Tryz.results194 (by simp) ?_
  push_cast
  refine CallL.q (c72 s i hi hs) ?_
  push_cast
  unfold imax
  split <;> omega
theorem cleanG_fuel : ∀ (n m : Nat) (l : List UInt8) (st : List UInt8 × Bool), l.length ≤ n → l.length ≤ m → cleanG n l st = cleanG m l st
  | 0, 0, _, _, _, _ => rfl
  | 0, m + 1, l, st, h, _ => by obtain rfl : l = [] := List.length_eq_zero_iff.1 (by omega); simp [cleanG]
  | n + 1, 0, l, st, _, h => by obtain rfl : l = [] := List.length_eq_zero_iff.1 (by omega); simp [cleanG]
  | n + 1, m + 1, l, st, h1, h2 => by
    unfold cleanG
    split
    · rfl
    · next hne =>
      have : 1 ≤ l.length := List.length_pos_iff.2 hne
      exact cleanG_fuel n m _ _ (by rw [List.length_drop]; omega) (by rw [List.length_drop]; omega)
theorem clean_at {s : List UInt8} {k : Nat} (hk : k < s.length) (st : List UInt8 × Bool) : cleanG (s.length - k) (s.drop k) st =
    cleanG (s.length - (k + max (decF (s.drop k)).2 1)) (s.drop (k + max (decF (s.drop k)).2 1)) (cleanStep st (decF (s.drop k)).1 ((s.drop k).take (max (decF (s.drop k)).2 1))) := by
  obtain ⟨m, hm⟩ : ∃ m, s.length - k = m + 1 := ⟨s.length - k - 1, by omega⟩
  have hne : s.drop k ≠ [] := by intro e; have := congrArg List.length e; rw [List.length_drop] at this; simp at this; omega
  rw [hm]
  show (if s.drop k = [] then st.1 else cleanG m ((s.drop k).drop (max (decF (s.drop k)).2 1)) _) = _
  rw [if_neg hne, List.drop_drop]
  exact cleanG_fuel _ _ _ _ (by rw [List.length_drop]; omega) (by rw [List.length_drop]; omega)
theorem dec_at {s : List UInt8} {k : Nat} (hk : k < s.length) : k + (decF (s.drop k)).2 ≤ s.length := by
  have hne : s.drop k ≠ [] := by intro e; have := congrArg List.length e; rw [List.length_drop] at this; simp at this; omega
  have := decF_le _ hne
  rw [List.length_drop] at this; omega
theorem valid_at {s : List UInt8} {k : Nat} (hk : k < s.length) : validF (s.drop k) = (decide (0 < (decF (s.drop k)).2) && validF (s.drop (k + (decF (s.drop k)).2))) := by
  rw [validF_step (by intro e; have := congrArg List.length e; rw [List.length_drop] at this; simp at this; omega), List.drop_drop]
theorem c25 (s : List UInt8) (hs : s.length ≤ 9000000) : AFn Tryz.prog Γ 25 [.c (.d (.str s))] [.d (.bool (validF s))] := by
  refine AFn.vc [] Tryz.func25 rfl Tryz.mixed (by kernel_rfl) Tryz.ntmps25 Tryz.results25 (by simp) ?_
  push_cast
  refine LoopV.of0 Tryz.mixed [0] (fun k : Nat => [(3, .c (.d (.int .i64 k)))]) (fun k => k ≤ s.length ∧ validF (s.drop k) = validF s) (fun k => s.length - k) 0 ⟨Nat.zero_le _, by simp⟩ ?_ (by push_cast)
  rintro k ⟨hk, hv⟩
  push_cast
  refine ⟨fun h => ?_, fun h => ?_⟩
  · have hk' : k < s.length := by omega
    refine CallL.q (c72 s k hk' hs) ?_
    push_cast
    have hv2 := valid_at hk'
    have hle := dec_at hk'
    rw [hv] at hv2
    refine ⟨fun e => ?_, fun e => ⟨⟨by omega, by omega⟩, k + (decF (s.drop k)).2, ⟨⟨hle, ?_⟩, by omega⟩, by omega⟩⟩
    · rw [hv2, decide_eq_false (by omega)]; rfl
    · rw [hv2, decide_eq_true (by omega), Bool.true_and]
  · rw [← hv, List.drop_eq_nil_of_le (by omega)]; rfl
theorem c134 (s : List UInt8) (hs : s.length ≤ 9000000) : AFn Tryz.prog Γ 134 [.c (.d (.str s))] [.d (.str (cleanF s))] := by
  refine AFn.vc [] Tryz.func134 rfl Tryz.mixed (by kernel_rfl) Tryz.ntmps134 Tryz.results134 (by simp) ?_
  push_cast
  refine LoopV.of0 Tryz.mixed [0] (fun q : Nat × (List UInt8 × Bool) => [(3, .c (.d (.str q.2.1))), (4, .c (.d (.bool q.2.2))), (5, .c (.d (.int .i64 q.1)))]) (fun q => q.1 ≤ s.length ∧ cleanG (s.length - q.1) (s.drop q.1) q.2 = cleanF s ∧ q.2.1.length ≤ 2 * q.1) (fun q => s.length - q.1) (0, [], false) ⟨Nat.zero_le _, by simp [cleanF], by simp⟩ ?_ (by push_cast)
  rintro ⟨k, out, gap⟩ ⟨hk, hv, hl⟩
  have hk : k ≤ s.length := hk
  have hl : out.length ≤ 2 * k := hl
  have hv : cleanG (s.length - k) (s.drop k) (out, gap) = cleanF s := hv
  push_cast
  refine ⟨fun h => ?_, fun h => ?_⟩
  · have hk' : k < s.length := by omega
    refine CallL.q (c72 s k hk' (by omega)) ?_
    push_cast
    refine CallL.q (c194 s k hk' (by omega)) ?_
    push_cast
    refine CallL.q (c195 (decF (s.drop k)).1) ?_
    push_cast
    have hst := clean_at hk' (out, gap)
    have hle := dec_at hk'
    rw [hv] at hst
    have hn1 : 1 ≤ max (decF (s.drop k)).2 1 := by omega
    have hn2 : k + max (decF (s.drop k)).2 1 ≤ s.length := by omega
    generalize hn : max (decF (s.drop k)).2 1 = n at *
    generalize hcc : (decF (s.drop k)).1 = c at *
    have hzn : ((k : Int) + (n : Int)).toNat - k = n := by omega
    have fin : ∀ (o : List UInt8) (g : Bool), cleanStep (out, gap) c ((s.drop k).take n) = (o, g) → o.length ≤ 2 * (k + n) → ∃ s' : Nat × (List UInt8 × Bool), ((s'.1 ≤ s.length ∧ cleanG (s.length - s'.1) (s.drop s'.1) s'.2 = cleanF s ∧ s'.2.1.length ≤ 2 * s'.1) ∧ s.length - s'.1 < s.length - k) ∧ s'.2.1 = o ∧ s'.2.2 = g ∧ (s'.1 : Int) = (k : Int) + n := fun o g e hlo =>
      ⟨(k + n, o, g), ⟨⟨hn2, by rw [e] at hst; exact hst.symm, hlo⟩, by show s.length - (k + n) < _; omega⟩, rfl, rfl, by show ((k + n : Nat) : Int) = _; omega⟩
    have ht : ((s.drop k).take n).length ≤ n := by rw [List.length_take]; omega
    rw [hzn]
    refine ⟨fun b => ⟨⟨by omega, by omega⟩, fin out true (by unfold cleanStep; rw [if_pos b]) (by omega)⟩, fun b => ?_⟩
    have hcs : cleanStep (out, gap) c ((s.drop k).take n) = ((if gap = true ∧ out ≠ [] then out ++ [32] else out) ++ (s.drop k).take n, false) := by unfold cleanStep; rw [if_neg (by simp [b])]
    have hlen : ∀ o : List UInt8, (o ++ (s.drop k).take n).length ≤ o.length + n := fun o => by rw [List.length_append]; omega
    have c1 : (-9223372036854775808 ≤ (k : Int) + n ∧ (k : Int) + n ≤ 9223372036854775807) := ⟨by omega, by omega⟩
    have c2 : k ≤ ((k : Int) + n).toNat ∧ ((k : Int) + n).toNat ≤ s.length := ⟨by omega, by omega⟩
    refine ⟨fun g => ⟨fun o => ⟨by omega, c1, by omega, c2, by omega, c1, fin _ false (by rw [hcs, if_pos ⟨g, o⟩]) ?_⟩, fun o => ⟨c1, by omega, c2, by omega, c1, fin _ false (by rw [hcs, if_neg (by simp [o])]) ?_⟩⟩, fun g => ⟨c1, by omega, c2, by omega, c1, fin _ false (by rw [hcs, if_neg (by simp [g])]) ?_⟩⟩
    · have := hlen (out ++ [32])
      have h9 : (out ++ [32]).length = out.length + 1 := by simp
      omega
    · have := hlen out; omega
    · have := hlen out; omega
  · rw [← hv, List.drop_eq_nil_of_le (by omega)]
    cases s.length - k <;> rfl
end Go.Proofs
