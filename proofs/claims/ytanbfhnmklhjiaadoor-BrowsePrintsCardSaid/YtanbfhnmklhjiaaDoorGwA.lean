/- Part of a proof about this program; no condition of its own. -/
import Derived.Test.YtanbfhnmklhjiaaDoorProg
import Derived.Test.YtanbfhnmklhjiaaDoorAxVd
import Derived.Test.YtanbfhnmklhjiaaDoorGtA
import Derived.Test.YtanbfhnmklhjiaaDoorGfA
set_option linter.all false
/- Facts on the types of the translation, for the rule that reckons. No condition. -/
namespace Go.Proofs
open Go Go.Ax
theorem Tryd.mixed : Tryd.prog.follows .mixedOrders = true := by kernel_rfl
@[push_cast] theorem Tryd.ldT3 : ldT Tryd.prog 3 = some none := by kernel_rfl
@[push_cast] theorem Tryd.ldT5 : ldT Tryd.prog 5 = some none := by kernel_rfl
@[push_cast] theorem Tryd.ldT9 : ldT Tryd.prog 9 = some none := by kernel_rfl
@[push_cast] theorem Tryd.ldT22 : ldT Tryd.prog 22 = some none := by kernel_rfl
@[push_cast] theorem Tryd.ldT29 : ldT Tryd.prog 29 = some (some 3) := by kernel_rfl
@[push_cast] theorem Tryd.ldT34 : ldT Tryd.prog 34 = some (some 2) := by kernel_rfl
@[push_cast] theorem Tryd.ldT35 : ldT Tryd.prog 35 = some none := by kernel_rfl
@[push_cast] theorem Tryd.ldT37 : ldT Tryd.prog 37 = some (some 4) := by kernel_rfl
@[push_cast] theorem Tryd.ldT38 : ldT Tryd.prog 38 = some none := by kernel_rfl
@[push_cast] theorem Tryd.ldT40 : ldT Tryd.prog 40 = some (some 5) := by kernel_rfl
@[push_cast] theorem Tryd.ldT43 : ldT Tryd.prog 43 = some none := by kernel_rfl
@[push_cast] theorem Tryd.ldT46 : ldT Tryd.prog 46 = some (some 5) := by kernel_rfl
@[push_cast] theorem Tryd.ldT49 : ldT Tryd.prog 49 = some none := by kernel_rfl
@[push_cast] theorem Tryd.ldT54 : ldT Tryd.prog 54 = some none := by kernel_rfl
@[push_cast] theorem Tryd.ldT60 : ldT Tryd.prog 60 = some none := by kernel_rfl
@[push_cast] theorem Tryd.ldT70 : ldT Tryd.prog 70 = some (some 7) := by kernel_rfl
@[push_cast] theorem Tryd.ldT91 : ldT Tryd.prog 91 = some none := by kernel_rfl
@[push_cast] theorem Tryd.ldT115 : ldT Tryd.prog 115 = some none := by kernel_rfl
@[push_cast] theorem Tryd.ldT144 : ldT Tryd.prog 144 = some (some 2) := by kernel_rfl
@[push_cast] theorem Tryd.szT3 : szT Tryd.prog 3 = some 1 := by kernel_rfl
@[push_cast] theorem Tryd.szT5 : szT Tryd.prog 5 = some 1 := by kernel_rfl
@[push_cast] theorem Tryd.szT9 : szT Tryd.prog 9 = some 1 := by kernel_rfl
@[push_cast] theorem Tryd.szT22 : szT Tryd.prog 22 = some 1 := by kernel_rfl
@[push_cast] theorem Tryd.szT29 : szT Tryd.prog 29 = some 3 := by kernel_rfl
@[push_cast] theorem Tryd.szT34 : szT Tryd.prog 34 = some 2 := by kernel_rfl
@[push_cast] theorem Tryd.szT35 : szT Tryd.prog 35 = some 1 := by kernel_rfl
@[push_cast] theorem Tryd.szT37 : szT Tryd.prog 37 = some 4 := by kernel_rfl
@[push_cast] theorem Tryd.szT38 : szT Tryd.prog 38 = some 1 := by kernel_rfl
@[push_cast] theorem Tryd.szT40 : szT Tryd.prog 40 = some 5 := by kernel_rfl
@[push_cast] theorem Tryd.szT43 : szT Tryd.prog 43 = some 1 := by kernel_rfl
@[push_cast] theorem Tryd.szT46 : szT Tryd.prog 46 = some 5 := by kernel_rfl
@[push_cast] theorem Tryd.szT49 : szT Tryd.prog 49 = some 1 := by kernel_rfl
@[push_cast] theorem Tryd.szT54 : szT Tryd.prog 54 = some 1 := by kernel_rfl
@[push_cast] theorem Tryd.szT60 : szT Tryd.prog 60 = some 1 := by kernel_rfl
@[push_cast] theorem Tryd.szT70 : szT Tryd.prog 70 = some 7 := by kernel_rfl
@[push_cast] theorem Tryd.szT91 : szT Tryd.prog 91 = some 1 := by kernel_rfl
@[push_cast] theorem Tryd.szT109 : szT Tryd.prog 109 = some 175 := by kernel_rfl
@[push_cast] theorem Tryd.szT115 : szT Tryd.prog 115 = some 1 := by kernel_rfl
@[push_cast] theorem Tryd.szT127 : szT Tryd.prog 127 = some 20 := by kernel_rfl
@[push_cast] theorem Tryd.szT138 : szT Tryd.prog 138 = some 32 := by kernel_rfl
@[push_cast] theorem Tryd.szT139 : szT Tryd.prog 139 = some 64 := by kernel_rfl
@[push_cast] theorem Tryd.szT144 : szT Tryd.prog 144 = some 2 := by kernel_rfl
@[push_cast] theorem Tryd.szT145 : szT Tryd.prog 145 = some 32 := by kernel_rfl
@[push_cast] theorem Tryd.zC3 : zeroC Tryd.prog 3 = some [.d (.int .i64 0)] := by kernel_rfl
@[push_cast] theorem Tryd.zC22 : zeroC Tryd.prog 22 = some [.d (.raw (.slice none 0 0))] := by kernel_rfl
@[push_cast] theorem Tryd.zC29 : zeroC Tryd.prog 29 = some [.d (.str []), .d (.str []), .d (.int .i64 0)] := by kernel_rfl
@[push_cast] theorem Tryd.zC34 : zeroC Tryd.prog 34 = some [.d (.int .u8 0), .d (.str [])] := by kernel_rfl
@[push_cast] theorem Tryd.zC37 : zeroC Tryd.prog 37 = some [.d (.str []), .d (.str []), .d (.raw (.slice none 0 0)), .d (.int .i64 0)] := by kernel_rfl
@[push_cast] theorem Tryd.zC40 : zeroC Tryd.prog 40 = some [.d (.int .i64 0), .d (.int .i64 0), .d (.int .i64 0), .d (.str []), .d (.raw (.slice none 0 0))] := by kernel_rfl
@[push_cast] theorem Tryd.zC46 : zeroC Tryd.prog 46 = some [.d (.int .i64 0), .d (.int .i64 0), .d (.str []), .d (.raw (.slice none 0 0)), .d (.raw (.slice none 0 0))] := by kernel_rfl
@[push_cast] theorem Tryd.zC54 : zeroC Tryd.prog 54 = some [.d (.raw (.map none))] := by kernel_rfl
@[push_cast] theorem Tryd.zC55 : zeroC Tryd.prog 55 = some [.d (.str []), .d (.str [])] := by kernel_rfl
@[push_cast] theorem Tryd.zC70 : zeroC Tryd.prog 70 = some [.d (.str []), .d (.bool false), .d (.bool false), .d (.str []), .d (.str []), .d (.str []), .d (.int .i64 0)] := by kernel_rfl
@[push_cast] theorem Tryd.zC93 : zeroC Tryd.prog 93 = some [.d (.raw (.pointer none)), .d (.raw (.slice none 0 0))] := by kernel_rfl
@[push_cast] theorem Tryd.zC102 : zeroC Tryd.prog 102 = some [.d (.int .u8 0), .d (.int .u8 0), .d (.int .u8 0), .d (.int .u8 0), .d (.int .u8 0), .d (.int .u8 0), .d (.int .u8 0), .d (.int .u8 0), .d (.int .u8 0), .d (.int .u8 0), .d (.int .u8 0), .d (.int .u8 0), .d (.int .u8 0), .d (.int .u8 0), .d (.int .u8 0), .d (.int .u8 0), .d (.int .u8 0), .d (.int .u8 0), .d (.int .u8 0), .d (.int .u8 0), .d (.int .u8 0), .d (.int .u8 0), .d (.int .u8 0), .d (.int .u8 0)] := by kernel_rfl
@[push_cast] theorem Tryd.zC109 : zeroC Tryd.prog 109 = some [.d (.str []), .d (.bool false), .d (.bool false), .d (.str []), .d (.str []), .d (.str []), .d (.int .i64 0), .d (.str []), .d (.bool false), .d (.bool false), .d (.str []), .d (.str []), .d (.str []), .d (.int .i64 0), .d (.str []), .d (.bool false), .d (.bool false), .d (.str []), .d (.str []), .d (.str []), .d (.int .i64 0), .d (.str []), .d (.bool false), .d (.bool false), .d (.str []), .d (.str []), .d (.str []), .d (.int .i64 0), .d (.str []), .d (.bool false), .d (.bool false), .d (.str []), .d (.str []), .d (.str []), .d (.int .i64 0), .d (.str []), .d (.bool false), .d (.bool false), .d (.str []), .d (.str []), .d (.str []), .d (.int .i64 0), .d (.str []), .d (.bool false), .d (.bool false), .d (.str []), .d (.str []), .d (.str []), .d (.int .i64 0), .d (.str []), .d (.bool false), .d (.bool false), .d (.str []), .d (.str []), .d (.str []), .d (.int .i64 0), .d (.str []), .d (.bool false), .d (.bool false), .d (.str []), .d (.str []), .d (.str []), .d (.int .i64 0), .d (.str []), .d (.bool false), .d (.bool false), .d (.str []), .d (.str []), .d (.str []), .d (.int .i64 0), .d (.str []), .d (.bool false), .d (.bool false), .d (.str []), .d (.str []), .d (.str []), .d (.int .i64 0), .d (.str []), .d (.bool false), .d (.bool false), .d (.str []), .d (.str []), .d (.str []), .d (.int .i64 0), .d (.str []), .d (.bool false), .d (.bool false), .d (.str []), .d (.str []), .d (.str []), .d (.int .i64 0), .d (.str []), .d (.bool false), .d (.bool false), .d (.str []), .d (.str []), .d (.str []), .d (.int .i64 0), .d (.str []), .d (.bool false), .d (.bool false), .d (.str []), .d (.str []), .d (.str []), .d (.int .i64 0), .d (.str []), .d (.bool false), .d (.bool false), .d (.str []), .d (.str []), .d (.str []), .d (.int .i64 0), .d (.str []), .d (.bool false), .d (.bool false), .d (.str []), .d (.str []), .d (.str []), .d (.int .i64 0), .d (.str []), .d (.bool false), .d (.bool false), .d (.str []), .d (.str []), .d (.str []), .d (.int .i64 0), .d (.str []), .d (.bool false), .d (.bool false), .d (.str []), .d (.str []), .d (.str []), .d (.int .i64 0), .d (.str []), .d (.bool false), .d (.bool false), .d (.str []), .d (.str []), .d (.str []), .d (.int .i64 0), .d (.str []), .d (.bool false), .d (.bool false), .d (.str []), .d (.str []), .d (.str []), .d (.int .i64 0), .d (.str []), .d (.bool false), .d (.bool false), .d (.str []), .d (.str []), .d (.str []), .d (.int .i64 0), .d (.str []), .d (.bool false), .d (.bool false), .d (.str []), .d (.str []), .d (.str []), .d (.int .i64 0), .d (.str []), .d (.bool false), .d (.bool false), .d (.str []), .d (.str []), .d (.str []), .d (.int .i64 0), .d (.str []), .d (.bool false), .d (.bool false), .d (.str []), .d (.str []), .d (.str []), .d (.int .i64 0)] := by kernel_rfl
@[push_cast] theorem Tryd.zC115 : zeroC Tryd.prog 115 = some [.d (.int .u64 0)] := by kernel_rfl
@[push_cast] theorem Tryd.zC127 : zeroC Tryd.prog 127 = some [.d (.int .u64 0), .d (.int .u64 0), .d (.int .u64 0), .d (.int .u64 0), .d (.int .u64 0), .d (.int .u64 0), .d (.int .u64 0), .d (.int .u64 0), .d (.int .u64 0), .d (.int .u64 0), .d (.int .u64 0), .d (.int .u64 0), .d (.int .u64 0), .d (.int .u64 0), .d (.int .u64 0), .d (.int .u64 0), .d (.int .u64 0), .d (.int .u64 0), .d (.int .u64 0), .d (.int .u64 0)] := by kernel_rfl
@[push_cast] theorem Tryd.zC128 : zeroC Tryd.prog 128 = some [.d (.int .u8 0), .d (.int .u8 0), .d (.int .u8 0), .d (.int .u8 0), .d (.int .u8 0), .d (.int .u8 0), .d (.int .u8 0), .d (.int .u8 0), .d (.int .u8 0), .d (.int .u8 0), .d (.int .u8 0), .d (.int .u8 0), .d (.int .u8 0), .d (.int .u8 0), .d (.int .u8 0), .d (.int .u8 0), .d (.int .u8 0), .d (.int .u8 0), .d (.int .u8 0), .d (.int .u8 0), .d (.int .u8 0), .d (.int .u8 0), .d (.int .u8 0), .d (.int .u8 0), .d (.int .u8 0), .d (.int .u8 0), .d (.int .u8 0), .d (.int .u8 0), .d (.int .u8 0), .d (.int .u8 0), .d (.int .u8 0), .d (.int .u8 0), .d (.int .u8 0), .d (.int .u8 0), .d (.int .u8 0), .d (.int .u8 0), .d (.int .u8 0), .d (.int .u8 0), .d (.int .u8 0), .d (.int .u8 0), .d (.int .u8 0), .d (.int .u8 0), .d (.int .u8 0), .d (.int .u8 0), .d (.int .u8 0), .d (.int .u8 0), .d (.int .u8 0), .d (.int .u8 0), .d (.int .u8 0), .d (.int .u8 0), .d (.int .u8 0), .d (.int .u8 0), .d (.int .u8 0), .d (.int .u8 0), .d (.int .u8 0), .d (.int .u8 0), .d (.int .u8 0), .d (.int .u8 0), .d (.int .u8 0), .d (.int .u8 0), .d (.int .u8 0), .d (.int .u8 0), .d (.int .u8 0), .d (.int .u8 0), .d (.int .u8 0)] := by kernel_rfl
@[push_cast] theorem Tryd.zC138 : zeroC Tryd.prog 138 = some [.d (.int .u8 0), .d (.int .u8 0), .d (.int .u8 0), .d (.int .u8 0), .d (.int .u8 0), .d (.int .u8 0), .d (.int .u8 0), .d (.int .u8 0), .d (.int .u8 0), .d (.int .u8 0), .d (.int .u8 0), .d (.int .u8 0), .d (.int .u8 0), .d (.int .u8 0), .d (.int .u8 0), .d (.int .u8 0), .d (.int .u8 0), .d (.int .u8 0), .d (.int .u8 0), .d (.int .u8 0), .d (.int .u8 0), .d (.int .u8 0), .d (.int .u8 0), .d (.int .u8 0), .d (.int .u8 0), .d (.int .u8 0), .d (.int .u8 0), .d (.int .u8 0), .d (.int .u8 0), .d (.int .u8 0), .d (.int .u8 0), .d (.int .u8 0)] := by kernel_rfl
@[push_cast] theorem Tryd.zC139 : zeroC Tryd.prog 139 = some [.d (.int .u8 0), .d (.int .u8 0), .d (.int .u8 0), .d (.int .u8 0), .d (.int .u8 0), .d (.int .u8 0), .d (.int .u8 0), .d (.int .u8 0), .d (.int .u8 0), .d (.int .u8 0), .d (.int .u8 0), .d (.int .u8 0), .d (.int .u8 0), .d (.int .u8 0), .d (.int .u8 0), .d (.int .u8 0), .d (.int .u8 0), .d (.int .u8 0), .d (.int .u8 0), .d (.int .u8 0), .d (.int .u8 0), .d (.int .u8 0), .d (.int .u8 0), .d (.int .u8 0), .d (.int .u8 0), .d (.int .u8 0), .d (.int .u8 0), .d (.int .u8 0), .d (.int .u8 0), .d (.int .u8 0), .d (.int .u8 0), .d (.int .u8 0), .d (.int .u8 0), .d (.int .u8 0), .d (.int .u8 0), .d (.int .u8 0), .d (.int .u8 0), .d (.int .u8 0), .d (.int .u8 0), .d (.int .u8 0), .d (.int .u8 0), .d (.int .u8 0), .d (.int .u8 0), .d (.int .u8 0), .d (.int .u8 0), .d (.int .u8 0), .d (.int .u8 0), .d (.int .u8 0), .d (.int .u8 0), .d (.int .u8 0), .d (.int .u8 0), .d (.int .u8 0), .d (.int .u8 0), .d (.int .u8 0), .d (.int .u8 0), .d (.int .u8 0), .d (.int .u8 0), .d (.int .u8 0), .d (.int .u8 0), .d (.int .u8 0), .d (.int .u8 0), .d (.int .u8 0), .d (.int .u8 0), .d (.int .u8 0)] := by kernel_rfl
@[push_cast] theorem Tryd.zC144 : zeroC Tryd.prog 144 = some [.d (.int .u8 0), .d (.int .u8 0)] := by kernel_rfl
@[push_cast] theorem Tryd.zC145 : zeroC Tryd.prog 145 = some [.d (.int .u8 0), .d (.int .u8 0), .d (.int .u8 0), .d (.int .u8 0), .d (.int .u8 0), .d (.int .u8 0), .d (.int .u8 0), .d (.int .u8 0), .d (.int .u8 0), .d (.int .u8 0), .d (.int .u8 0), .d (.int .u8 0), .d (.int .u8 0), .d (.int .u8 0), .d (.int .u8 0), .d (.int .u8 0), .d (.int .u8 0), .d (.int .u8 0), .d (.int .u8 0), .d (.int .u8 0), .d (.int .u8 0), .d (.int .u8 0), .d (.int .u8 0), .d (.int .u8 0), .d (.int .u8 0), .d (.int .u8 0), .d (.int .u8 0), .d (.int .u8 0), .d (.int .u8 0), .d (.int .u8 0), .d (.int .u8 0), .d (.int .u8 0)] := by kernel_rfl
@[push_cast] theorem Tryd.fdT29_0 : fdT Tryd.prog 29 0 = some 0 := by kernel_rfl
@[push_cast] theorem Tryd.fdT29_1 : fdT Tryd.prog 29 1 = some 1 := by kernel_rfl
@[push_cast] theorem Tryd.fdT29_2 : fdT Tryd.prog 29 2 = some 2 := by kernel_rfl
@[push_cast] theorem Tryd.fdT34_0 : fdT Tryd.prog 34 0 = some 0 := by kernel_rfl
@[push_cast] theorem Tryd.fdT34_1 : fdT Tryd.prog 34 1 = some 1 := by kernel_rfl
@[push_cast] theorem Tryd.fdT37_0 : fdT Tryd.prog 37 0 = some 0 := by kernel_rfl
@[push_cast] theorem Tryd.fdT37_2 : fdT Tryd.prog 37 2 = some 2 := by kernel_rfl
@[push_cast] theorem Tryd.fdT40_4 : fdT Tryd.prog 40 4 = some 4 := by kernel_rfl
@[push_cast] theorem Tryd.fdT46_1 : fdT Tryd.prog 46 1 = some 1 := by kernel_rfl
@[push_cast] theorem Tryd.fdT46_2 : fdT Tryd.prog 46 2 = some 2 := by kernel_rfl
@[push_cast] theorem Tryd.fdT46_3 : fdT Tryd.prog 46 3 = some 3 := by kernel_rfl
@[push_cast] theorem Tryd.fdT70_0 : fdT Tryd.prog 70 0 = some 0 := by kernel_rfl
@[push_cast] theorem Tryd.fdT70_6 : fdT Tryd.prog 70 6 = some 6 := by kernel_rfl
@[push_cast] theorem Tryd.fdT93_0 : fdT Tryd.prog 93 0 = some 0 := by kernel_rfl
@[push_cast] theorem Tryd.fdT93_1 : fdT Tryd.prog 93 1 = some 1 := by kernel_rfl
@[push_cast] theorem Tryd.fdT144_0 : fdT Tryd.prog 144 0 = some 0 := by kernel_rfl
@[push_cast] theorem Tryd.fdT144_1 : fdT Tryd.prog 144 1 = some 1 := by kernel_rfl
@[push_cast] theorem Tryd.isS9 : isS Tryd.prog 9 = True := eq_true Tryd.underlying9
@[push_cast] theorem Tryd.slT22 : slT Tryd.prog 22 = some (29, 3) := by kernel_rfl
@[push_cast] theorem Tryd.slT23 : slT Tryd.prog 23 = none := by kernel_rfl
@[push_cast] theorem Tryd.ixT23 : ixT Tryd.prog 23 = some 2 := by kernel_rfl
@[push_cast] theorem Tryd.arT23 : arT Tryd.prog 23 = some (2, 3, 1) := by kernel_rfl
@[push_cast] theorem Tryd.slT35 : slT Tryd.prog 35 = some (34, 2) := by kernel_rfl
@[push_cast] theorem Tryd.slT38 : slT Tryd.prog 38 = some (37, 4) := by kernel_rfl
@[push_cast] theorem Tryd.slT41 : slT Tryd.prog 41 = some (40, 5) := by kernel_rfl
@[push_cast] theorem Tryd.slT43 : slT Tryd.prog 43 = some (9, 1) := by kernel_rfl
@[push_cast] theorem Tryd.slT47 : slT Tryd.prog 47 = some (46, 5) := by kernel_rfl
@[push_cast] theorem Tryd.slT60 : slT Tryd.prog 60 = some (5, 1) := by kernel_rfl
@[push_cast] theorem Tryd.slT73 : slT Tryd.prog 73 = some (70, 7) := by kernel_rfl
@[push_cast] theorem Tryd.slT102 : slT Tryd.prog 102 = none := by kernel_rfl
@[push_cast] theorem Tryd.ixT102 : ixT Tryd.prog 102 = some 24 := by kernel_rfl
@[push_cast] theorem Tryd.arT102 : arT Tryd.prog 102 = some (24, 5, 1) := by kernel_rfl
@[push_cast] theorem Tryd.slT109 : slT Tryd.prog 109 = none := by kernel_rfl
@[push_cast] theorem Tryd.arT109 : arT Tryd.prog 109 = some (25, 70, 7) := by kernel_rfl
@[push_cast] theorem Tryd.slT127 : slT Tryd.prog 127 = none := by kernel_rfl
@[push_cast] theorem Tryd.ixT127 : ixT Tryd.prog 127 = some 20 := by kernel_rfl
@[push_cast] theorem Tryd.arT127 : arT Tryd.prog 127 = some (20, 49, 1) := by kernel_rfl
@[push_cast] theorem Tryd.slT128 : slT Tryd.prog 128 = none := by kernel_rfl
@[push_cast] theorem Tryd.ixT128 : ixT Tryd.prog 128 = some 65 := by kernel_rfl
@[push_cast] theorem Tryd.arT128 : arT Tryd.prog 128 = some (65, 5, 1) := by kernel_rfl
@[push_cast] theorem Tryd.slT138 : slT Tryd.prog 138 = none := by kernel_rfl
@[push_cast] theorem Tryd.ixT138 : ixT Tryd.prog 138 = some 32 := by kernel_rfl
@[push_cast] theorem Tryd.arT138 : arT Tryd.prog 138 = some (32, 5, 1) := by kernel_rfl
@[push_cast] theorem Tryd.slT139 : slT Tryd.prog 139 = none := by kernel_rfl
@[push_cast] theorem Tryd.ixT139 : ixT Tryd.prog 139 = some 64 := by kernel_rfl
@[push_cast] theorem Tryd.arT139 : arT Tryd.prog 139 = some (64, 5, 1) := by kernel_rfl
@[push_cast] theorem Tryd.slT142 : slT Tryd.prog 142 = none := by kernel_rfl
@[push_cast] theorem Tryd.ixT142 : ixT Tryd.prog 142 = some 256 := by kernel_rfl
@[push_cast] theorem Tryd.arT142 : arT Tryd.prog 142 = some (256, 5, 1) := by kernel_rfl
@[push_cast] theorem Tryd.slT145 : slT Tryd.prog 145 = none := by kernel_rfl
@[push_cast] theorem Tryd.arT145 : arT Tryd.prog 145 = some (16, 144, 2) := by kernel_rfl
@[push_cast] theorem Tryd.plT29 : plT Tryd.prog 29 = some [(0, 1), (1, 1), (2, 1)] := by kernel_rfl
@[push_cast] theorem Tryd.plT34 : plT Tryd.prog 34 = some [(0, 1), (1, 1)] := by kernel_rfl
@[push_cast] theorem Tryd.plT37 : plT Tryd.prog 37 = some [(0, 1), (1, 1), (2, 1), (3, 1)] := by kernel_rfl
@[push_cast] theorem Tryd.plT40 : plT Tryd.prog 40 = some [(0, 1), (1, 1), (2, 1), (3, 1), (4, 1)] := by kernel_rfl
@[push_cast] theorem Tryd.plT46 : plT Tryd.prog 46 = some [(0, 1), (1, 1), (2, 1), (3, 1), (4, 1)] := by kernel_rfl
@[push_cast] theorem Tryd.plT55 : plT Tryd.prog 55 = some [(0, 1), (1, 1)] := by kernel_rfl
@[push_cast] theorem Tryd.plT70 : plT Tryd.prog 70 = some [(0, 1), (1, 1), (2, 1), (3, 1), (4, 1), (5, 1), (6, 1)] := by kernel_rfl
@[push_cast] theorem Tryd.plT109 : plT Tryd.prog 109 = some [(0, 7), (7, 7), (14, 7), (21, 7), (28, 7), (35, 7), (42, 7), (49, 7), (56, 7), (63, 7), (70, 7), (77, 7), (84, 7), (91, 7), (98, 7), (105, 7), (112, 7), (119, 7), (126, 7), (133, 7), (140, 7), (147, 7), (154, 7), (161, 7), (168, 7)] := by kernel_rfl
@[push_cast] theorem Tryd.plT127 : plT Tryd.prog 127 = some [(0, 1), (1, 1), (2, 1), (3, 1), (4, 1), (5, 1), (6, 1), (7, 1), (8, 1), (9, 1), (10, 1), (11, 1), (12, 1), (13, 1), (14, 1), (15, 1), (16, 1), (17, 1), (18, 1), (19, 1)] := by kernel_rfl
@[push_cast] theorem Tryd.plT138 : plT Tryd.prog 138 = some [(0, 1), (1, 1), (2, 1), (3, 1), (4, 1), (5, 1), (6, 1), (7, 1), (8, 1), (9, 1), (10, 1), (11, 1), (12, 1), (13, 1), (14, 1), (15, 1), (16, 1), (17, 1), (18, 1), (19, 1), (20, 1), (21, 1), (22, 1), (23, 1), (24, 1), (25, 1), (26, 1), (27, 1), (28, 1), (29, 1), (30, 1), (31, 1)] := by kernel_rfl
@[push_cast] theorem Tryd.plT139 : plT Tryd.prog 139 = some [(0, 1), (1, 1), (2, 1), (3, 1), (4, 1), (5, 1), (6, 1), (7, 1), (8, 1), (9, 1), (10, 1), (11, 1), (12, 1), (13, 1), (14, 1), (15, 1), (16, 1), (17, 1), (18, 1), (19, 1), (20, 1), (21, 1), (22, 1), (23, 1), (24, 1), (25, 1), (26, 1), (27, 1), (28, 1), (29, 1), (30, 1), (31, 1), (32, 1), (33, 1), (34, 1), (35, 1), (36, 1), (37, 1), (38, 1), (39, 1), (40, 1), (41, 1), (42, 1), (43, 1), (44, 1), (45, 1), (46, 1), (47, 1), (48, 1), (49, 1), (50, 1), (51, 1), (52, 1), (53, 1), (54, 1), (55, 1), (56, 1), (57, 1), (58, 1), (59, 1), (60, 1), (61, 1), (62, 1), (63, 1)] := by kernel_rfl
@[push_cast] theorem Tryd.plT144 : plT Tryd.prog 144 = some [(0, 1), (1, 1)] := by kernel_rfl
@[push_cast] theorem Tryd.plT145 : plT Tryd.prog 145 = some [(0, 2), (2, 2), (4, 2), (6, 2), (8, 2), (10, 2), (12, 2), (14, 2), (16, 2), (18, 2), (20, 2), (22, 2), (24, 2), (26, 2), (28, 2), (30, 2)] := by kernel_rfl
@[push_cast] theorem Tryd.apT22 : apT Tryd.prog 22 = some (29, 3, 40) := by kernel_rfl
@[push_cast] theorem Tryd.apT35 : apT Tryd.prog 35 = some (34, 2, 24) := by kernel_rfl
@[push_cast] theorem Tryd.apT38 : apT Tryd.prog 38 = some (37, 4, 64) := by kernel_rfl
@[push_cast] theorem Tryd.apT41 : apT Tryd.prog 41 = some (40, 5, 64) := by kernel_rfl
@[push_cast] theorem Tryd.apT43 : apT Tryd.prog 43 = some (9, 1, 16) := by kernel_rfl
@[push_cast] theorem Tryd.apT47 : apT Tryd.prog 47 = some (46, 5, 80) := by kernel_rfl
@[push_cast] theorem Tryd.apT60 : apT Tryd.prog 60 = some (5, 1, 1) := by kernel_rfl
@[push_cast] theorem Tryd.apT73 : apT Tryd.prog 73 = some (70, 7, 80) := by kernel_rfl
@[push_cast] theorem Tryd.zC9 : zeroC Tryd.prog 9 = some [.d (.str [])] := by kernel_rfl
@[push_cast] theorem Tryd.mapSh52 : mapSh Tryd.prog 52 = some [.str] := by kernel_rfl
@[push_cast] theorem Tryd.mapSh54 : mapSh Tryd.prog 54 = some [.str, .str] := by kernel_rfl
@[push_cast] theorem Tryd.intT2 : intT Tryd.prog 2 = some .i64 := by kernel_rfl
@[push_cast] theorem Tryd.intT3 : intT Tryd.prog 3 = some .i64 := by kernel_rfl
@[push_cast] theorem Tryd.intT5 : intT Tryd.prog 5 = some .u8 := by kernel_rfl
@[push_cast] theorem Tryd.intT9 : intT Tryd.prog 9 = none := by kernel_rfl
@[push_cast] theorem Tryd.strB9 : strB Tryd.prog 9 = true := by kernel_rfl
@[push_cast] theorem Tryd.intT21 : intT Tryd.prog 21 = some .i32 := by kernel_rfl
@[push_cast] theorem Tryd.intT49 : intT Tryd.prog 49 = some .u64 := by kernel_rfl
@[push_cast] theorem Tryd.intT60 : intT Tryd.prog 60 = none := by kernel_rfl
@[push_cast] theorem Tryd.bysT60 : bysT Tryd.prog 60 = true := by kernel_rfl
@[push_cast] theorem Tryd.intT65 : intT Tryd.prog 65 = some .u64 := by kernel_rfl
@[push_cast] theorem Tryd.intT89 : intT Tryd.prog 89 = some .u32 := by kernel_rfl
@[push_cast] theorem Tryd.intT115 : intT Tryd.prog 115 = some .u64 := by kernel_rfl
@[push_cast] theorem Tryd.eqT29 : eqT Tryd.prog 29 = some [2, 2, 0] := by kernel_rfl
end Go.Proofs

/- Walks: characters, texts, lists (reference). -/
namespace Go.Proofs
open Go Go.Ax Go.Tx
set_option maxRecDepth 100000
set_option maxHeartbeats 0
variable {Γ : List (Nat × List D)}
theorem cleanG_len : ∀ (f : Nat) (l : List UInt8) (st : List UInt8 × Bool), (cleanG f l st).length ≤ st.1.length + 2 * l.length
  | 0, _, st => by simp [cleanG]
  | f + 1, l, st => by
    unfold cleanG
    split
    · omega
    · next hne =>
      have hl : 1 ≤ l.length := List.length_pos_iff.2 hne
      have h1 := cleanG_len f (l.drop (max (decF l).2 1)) (cleanStep st (decF l).1 (l.take (max (decF l).2 1)))
      have h2 : (cleanStep st (decF l).1 (l.take (max (decF l).2 1))).1.length ≤ st.1.length + 1 + min (max (decF l).2 1) l.length := by
        unfold cleanStep
        split
        · simp only; omega
        · simp only [List.length_append, List.length_take]; split <;> simp <;> omega
      rw [List.length_drop] at h1
      omega
theorem cleanG_fuel : ∀ (n m : Nat) (l : List UInt8) (st : List UInt8 × Bool), l.length ≤ n → l.length ≤ m → cleanG n l st = cleanG m l st
  | 0, 0, _, _, _, _ => rfl
  | 0, m + 1, l, st, h, _ => by obtain rfl : l = [] := List.length_eq_zero_iff.1 (by omega); simp [cleanG]
  | n + 1, 0, l, st, _, h => by obtain rfl : l = [] := List.length_eq_zero_iff.1 (by omega); simp [cleanG]
  | n + 1, m + 1, l, st, h1, h2 => by
    unfold cleanG
    split
    · rfl
    · next hne =>
      have : 1 ≤ l.length := List.length_pos_iff.2 hne
      exact cleanG_fuel n m _ _ (by rw [List.length_drop]; omega) (by rw [List.length_drop]; omega)
theorem clean_at {s : List UInt8} {k : Nat} (hk : k < s.length) (st : List UInt8 × Bool) : cleanG (s.length - k) (s.drop k) st =
    cleanG (s.length - (k + max (decF (s.drop k)).2 1)) (s.drop (k + max (decF (s.drop k)).2 1)) (cleanStep st (decF (s.drop k)).1 ((s.drop k).take (max (decF (s.drop k)).2 1))) := by
  obtain ⟨m, hm⟩ : ∃ m, s.length - k = m + 1 := ⟨s.length - k - 1, by omega⟩
  have hne : s.drop k ≠ [] := by intro e; have := congrArg List.length e; rw [List.length_drop] at this; simp at this; omega
  rw [hm]
  show (if s.drop k = [] then st.1 else cleanG m ((s.drop k).drop (max (decF (s.drop k)).2 1)) _) = _
  rw [if_neg hne, List.drop_drop]
  exact cleanG_fuel _ _ _ _ (by rw [List.length_drop]; omega) (by rw [List.length_drop]; omega)
theorem dec_at {s : List UInt8} {k : Nat} (hk : k < s.length) : k + (decF (s.drop k)).2 ≤ s.length := by
  have hne : s.drop k ≠ [] := by intro e; have := congrArg List.length e; rw [List.length_drop] at this; simp at this; omega
  have := decF_le _ hne
  rw [List.length_drop] at this; omega
theorem valid_at {s : List UInt8} {k : Nat} (hk : k < s.length) : validF (s.drop k) = (decide (0 < (decF (s.drop k)).2) && validF (s.drop (k + (decF (s.drop k)).2))) := by
  rw [validF_step (by intro e; have := congrArg List.length e; rw [List.length_drop] at this; simp at this; omega), List.drop_drop]
end Go.Proofs
