/- Part of a proof about this program; no condition of its own. -/
import Derived.Test.YticdcapnomageaaDoorProg
import Derived.Test.YticdcapnomageaaDoorAxVd
set_option linter.all false
/- Facts on the types of the translation, for the rule that reckons. No condition. -/
namespace Go.Proofs
open Go Go.Ax
theorem Tryd.mixed : Tryd.prog.follows .mixedOrders = true := by kernel_rfl
@[push_cast] theorem Tryd.ldT3 : ldT Tryd.prog 3 = some none := by kernel_rfl
@[push_cast] theorem Tryd.ldT5 : ldT Tryd.prog 5 = some none := by kernel_rfl
@[push_cast] theorem Tryd.ldT9 : ldT Tryd.prog 9 = some none := by kernel_rfl
@[push_cast] theorem Tryd.ldT24 : ldT Tryd.prog 24 = some none := by kernel_rfl
@[push_cast] theorem Tryd.ldT26 : ldT Tryd.prog 26 = some (some 9) := by kernel_rfl
@[push_cast] theorem Tryd.ldT28 : ldT Tryd.prog 28 = some (some 8) := by kernel_rfl
@[push_cast] theorem Tryd.ldT51 : ldT Tryd.prog 51 = some none := by kernel_rfl
@[push_cast] theorem Tryd.ldT53 : ldT Tryd.prog 53 = some (some 3) := by kernel_rfl
@[push_cast] theorem Tryd.ldT65 : ldT Tryd.prog 65 = some none := by kernel_rfl
@[push_cast] theorem Tryd.ldT67 : ldT Tryd.prog 67 = some (some 2) := by kernel_rfl
@[push_cast] theorem Tryd.ldT79 : ldT Tryd.prog 79 = some none := by kernel_rfl
@[push_cast] theorem Tryd.ldT81 : ldT Tryd.prog 81 = some none := by kernel_rfl
@[push_cast] theorem Tryd.ldT83 : ldT Tryd.prog 83 = some (some 5) := by kernel_rfl
@[push_cast] theorem Tryd.ldT130 : ldT Tryd.prog 130 = some (some 2) := by kernel_rfl
@[push_cast] theorem Tryd.ldT144 : ldT Tryd.prog 144 = some (some 2) := by kernel_rfl
@[push_cast] theorem Tryd.szT3 : szT Tryd.prog 3 = some 1 := by kernel_rfl
@[push_cast] theorem Tryd.szT5 : szT Tryd.prog 5 = some 1 := by kernel_rfl
@[push_cast] theorem Tryd.szT9 : szT Tryd.prog 9 = some 1 := by kernel_rfl
@[push_cast] theorem Tryd.szT24 : szT Tryd.prog 24 = some 1 := by kernel_rfl
@[push_cast] theorem Tryd.szT26 : szT Tryd.prog 26 = some 9 := by kernel_rfl
@[push_cast] theorem Tryd.szT28 : szT Tryd.prog 28 = some 8 := by kernel_rfl
@[push_cast] theorem Tryd.szT51 : szT Tryd.prog 51 = some 1 := by kernel_rfl
@[push_cast] theorem Tryd.szT53 : szT Tryd.prog 53 = some 3 := by kernel_rfl
@[push_cast] theorem Tryd.szT65 : szT Tryd.prog 65 = some 1 := by kernel_rfl
@[push_cast] theorem Tryd.szT67 : szT Tryd.prog 67 = some 2 := by kernel_rfl
@[push_cast] theorem Tryd.szT79 : szT Tryd.prog 79 = some 1 := by kernel_rfl
@[push_cast] theorem Tryd.szT81 : szT Tryd.prog 81 = some 1 := by kernel_rfl
@[push_cast] theorem Tryd.szT83 : szT Tryd.prog 83 = some 5 := by kernel_rfl
@[push_cast] theorem Tryd.szT130 : szT Tryd.prog 130 = some 2 := by kernel_rfl
@[push_cast] theorem Tryd.szT144 : szT Tryd.prog 144 = some 2 := by kernel_rfl
@[push_cast] theorem Tryd.zC26 : zeroC Tryd.prog 26 = some [.d (.int .i64 0), .d (.int .i64 0), .d (.int .i64 0), .d (.int .i64 0), .d (.int .i64 0), .d (.int .i64 0), .d (.int .i64 0), .d (.raw (.slice none 0 0)), .d (.raw (.slice none 0 0))] := by kernel_rfl
@[push_cast] theorem Tryd.zC28 : zeroC Tryd.prog 28 = some [.d (.int .i64 0), .d (.int .i64 0), .d (.int .i64 0), .d (.int .i64 0), .d (.int .i64 0), .d (.int .i64 0), .d (.int .i64 0), .d (.str [])] := by kernel_rfl
@[push_cast] theorem Tryd.zC53 : zeroC Tryd.prog 53 = some [.d (.int .i64 0), .d (.int .i64 0), .d (.raw (.slice none 0 0))] := by kernel_rfl
@[push_cast] theorem Tryd.zC67 : zeroC Tryd.prog 67 = some [.d (.raw (.slice none 0 0)), .d (.raw (.slice none 0 0))] := by kernel_rfl
@[push_cast] theorem Tryd.zC83 : zeroC Tryd.prog 83 = some [.d (.int .i64 0), .d (.raw (.slice none 0 0)), .d (.int .i64 0), .d (.int .i64 0), .d (.raw (.slice none 0 0))] := by kernel_rfl
@[push_cast] theorem Tryd.zC130 : zeroC Tryd.prog 130 = some [.d (.int .u8 0), .d (.int .u8 0)] := by kernel_rfl
@[push_cast] theorem Tryd.zC135 : zeroC Tryd.prog 135 = some [.d (.raw (.pointer none)), .d (.raw (.slice none 0 0))] := by kernel_rfl
@[push_cast] theorem Tryd.zC144 : zeroC Tryd.prog 144 = some [.d (.int .i64 0), .d (.int .i64 0)] := by kernel_rfl
@[push_cast] theorem Tryd.fdT26_0 : fdT Tryd.prog 26 0 = some 0 := by kernel_rfl
@[push_cast] theorem Tryd.fdT26_1 : fdT Tryd.prog 26 1 = some 1 := by kernel_rfl
@[push_cast] theorem Tryd.fdT26_2 : fdT Tryd.prog 26 2 = some 2 := by kernel_rfl
@[push_cast] theorem Tryd.fdT26_3 : fdT Tryd.prog 26 3 = some 3 := by kernel_rfl
@[push_cast] theorem Tryd.fdT26_4 : fdT Tryd.prog 26 4 = some 4 := by kernel_rfl
@[push_cast] theorem Tryd.fdT26_5 : fdT Tryd.prog 26 5 = some 5 := by kernel_rfl
@[push_cast] theorem Tryd.fdT26_6 : fdT Tryd.prog 26 6 = some 6 := by kernel_rfl
@[push_cast] theorem Tryd.fdT26_7 : fdT Tryd.prog 26 7 = some 7 := by kernel_rfl
@[push_cast] theorem Tryd.fdT26_8 : fdT Tryd.prog 26 8 = some 8 := by kernel_rfl
@[push_cast] theorem Tryd.fdT28_0 : fdT Tryd.prog 28 0 = some 0 := by kernel_rfl
@[push_cast] theorem Tryd.fdT28_1 : fdT Tryd.prog 28 1 = some 1 := by kernel_rfl
@[push_cast] theorem Tryd.fdT28_2 : fdT Tryd.prog 28 2 = some 2 := by kernel_rfl
@[push_cast] theorem Tryd.fdT28_3 : fdT Tryd.prog 28 3 = some 3 := by kernel_rfl
@[push_cast] theorem Tryd.fdT28_4 : fdT Tryd.prog 28 4 = some 4 := by kernel_rfl
@[push_cast] theorem Tryd.fdT28_5 : fdT Tryd.prog 28 5 = some 5 := by kernel_rfl
@[push_cast] theorem Tryd.fdT28_6 : fdT Tryd.prog 28 6 = some 6 := by kernel_rfl
@[push_cast] theorem Tryd.fdT28_7 : fdT Tryd.prog 28 7 = some 7 := by kernel_rfl
@[push_cast] theorem Tryd.fdT36_0 : fdT Tryd.prog 36 0 = some 0 := by kernel_rfl
@[push_cast] theorem Tryd.fdT36_1 : fdT Tryd.prog 36 1 = some 1 := by kernel_rfl
@[push_cast] theorem Tryd.fdT36_2 : fdT Tryd.prog 36 2 = some 9 := by kernel_rfl
@[push_cast] theorem Tryd.fdT40_0 : fdT Tryd.prog 40 0 = some 0 := by kernel_rfl
@[push_cast] theorem Tryd.fdT40_1 : fdT Tryd.prog 40 1 = some 1 := by kernel_rfl
@[push_cast] theorem Tryd.fdT40_2 : fdT Tryd.prog 40 2 = some 2 := by kernel_rfl
@[push_cast] theorem Tryd.fdT40_3 : fdT Tryd.prog 40 3 = some 3 := by kernel_rfl
@[push_cast] theorem Tryd.fdT40_4 : fdT Tryd.prog 40 4 = some 4 := by kernel_rfl
@[push_cast] theorem Tryd.fdT45_0 : fdT Tryd.prog 45 0 = some 0 := by kernel_rfl
@[push_cast] theorem Tryd.fdT45_1 : fdT Tryd.prog 45 1 = some 1 := by kernel_rfl
@[push_cast] theorem Tryd.fdT45_2 : fdT Tryd.prog 45 2 = some 2 := by kernel_rfl
@[push_cast] theorem Tryd.fdT45_3 : fdT Tryd.prog 45 3 = some 3 := by kernel_rfl
@[push_cast] theorem Tryd.fdT53_0 : fdT Tryd.prog 53 0 = some 0 := by kernel_rfl
@[push_cast] theorem Tryd.fdT53_1 : fdT Tryd.prog 53 1 = some 1 := by kernel_rfl
@[push_cast] theorem Tryd.fdT53_2 : fdT Tryd.prog 53 2 = some 2 := by kernel_rfl
@[push_cast] theorem Tryd.fdT67_0 : fdT Tryd.prog 67 0 = some 0 := by kernel_rfl
@[push_cast] theorem Tryd.fdT67_1 : fdT Tryd.prog 67 1 = some 1 := by kernel_rfl
@[push_cast] theorem Tryd.fdT83_0 : fdT Tryd.prog 83 0 = some 0 := by kernel_rfl
@[push_cast] theorem Tryd.fdT83_1 : fdT Tryd.prog 83 1 = some 1 := by kernel_rfl
@[push_cast] theorem Tryd.fdT83_2 : fdT Tryd.prog 83 2 = some 2 := by kernel_rfl
@[push_cast] theorem Tryd.fdT83_3 : fdT Tryd.prog 83 3 = some 3 := by kernel_rfl
@[push_cast] theorem Tryd.fdT83_4 : fdT Tryd.prog 83 4 = some 4 := by kernel_rfl
@[push_cast] theorem Tryd.fdT130_0 : fdT Tryd.prog 130 0 = some 0 := by kernel_rfl
@[push_cast] theorem Tryd.fdT130_1 : fdT Tryd.prog 130 1 = some 1 := by kernel_rfl
@[push_cast] theorem Tryd.fdT144_0 : fdT Tryd.prog 144 0 = some 0 := by kernel_rfl
@[push_cast] theorem Tryd.fdT144_1 : fdT Tryd.prog 144 1 = some 1 := by kernel_rfl
@[push_cast] theorem Tryd.isS9 : isS Tryd.prog 9 = True := eq_true Tryd.underlying9
@[push_cast] theorem Tryd.slT24 : slT Tryd.prog 24 = some (28, 8) := by kernel_rfl
@[push_cast] theorem Tryd.slT51 : slT Tryd.prog 51 = some (26, 9) := by kernel_rfl
@[push_cast] theorem Tryd.slT65 : slT Tryd.prog 65 = some (53, 3) := by kernel_rfl
@[push_cast] theorem Tryd.slT78 : slT Tryd.prog 78 = some (79, 1) := by kernel_rfl
@[push_cast] theorem Tryd.slT81 : slT Tryd.prog 81 = some (3, 1) := by kernel_rfl
@[push_cast] theorem Tryd.slT103 : slT Tryd.prog 103 = none := by kernel_rfl
@[push_cast] theorem Tryd.arT103 : arT Tryd.prog 103 = some (12, 83, 5) := by kernel_rfl
@[push_cast] theorem Tryd.slT123 : slT Tryd.prog 123 = some (9, 1) := by kernel_rfl
@[push_cast] theorem Tryd.slT128 : slT Tryd.prog 128 = none := by kernel_rfl
@[push_cast] theorem Tryd.arT128 : arT Tryd.prog 128 = some (256, 5, 1) := by kernel_rfl
@[push_cast] theorem Tryd.slT131 : slT Tryd.prog 131 = none := by kernel_rfl
@[push_cast] theorem Tryd.arT131 : arT Tryd.prog 131 = some (16, 130, 2) := by kernel_rfl
@[push_cast] theorem Tryd.slT142 : slT Tryd.prog 142 = some (144, 2) := by kernel_rfl
@[push_cast] theorem Tryd.plT26 : plT Tryd.prog 26 = some [(0, 1), (1, 1), (2, 1), (3, 1), (4, 1), (5, 1), (6, 1), (7, 1), (8, 1)] := by kernel_rfl
@[push_cast] theorem Tryd.plT28 : plT Tryd.prog 28 = some [(0, 1), (1, 1), (2, 1), (3, 1), (4, 1), (5, 1), (6, 1), (7, 1)] := by kernel_rfl
@[push_cast] theorem Tryd.plT53 : plT Tryd.prog 53 = some [(0, 1), (1, 1), (2, 1)] := by kernel_rfl
@[push_cast] theorem Tryd.plT67 : plT Tryd.prog 67 = some [(0, 1), (1, 1)] := by kernel_rfl
@[push_cast] theorem Tryd.plT83 : plT Tryd.prog 83 = some [(0, 1), (1, 1), (2, 1), (3, 1), (4, 1)] := by kernel_rfl
@[push_cast] theorem Tryd.plT144 : plT Tryd.prog 144 = some [(0, 1), (1, 1)] := by kernel_rfl
@[push_cast] theorem Tryd.apT24 : apT Tryd.prog 24 = some (28, 8, 72) := by kernel_rfl
@[push_cast] theorem Tryd.apT51 : apT Tryd.prog 51 = some (26, 9, 104) := by kernel_rfl
@[push_cast] theorem Tryd.apT65 : apT Tryd.prog 65 = some (53, 3, 40) := by kernel_rfl
@[push_cast] theorem Tryd.apT123 : apT Tryd.prog 123 = some (9, 1, 16) := by kernel_rfl
@[push_cast] theorem Tryd.apT142 : apT Tryd.prog 142 = some (144, 2, 16) := by kernel_rfl
@[push_cast] theorem Tryd.zC9 : zeroC Tryd.prog 9 = some [.d (.str [])] := by kernel_rfl
@[push_cast] theorem Tryd.intT3 : intT Tryd.prog 3 = some .i64 := by kernel_rfl
@[push_cast] theorem Tryd.intT5 : intT Tryd.prog 5 = some .u8 := by kernel_rfl
@[push_cast] theorem Tryd.intT79 : intT Tryd.prog 79 = some .u16 := by kernel_rfl
@[push_cast] theorem Tryd.intT115 : intT Tryd.prog 115 = some .u64 := by kernel_rfl
@[push_cast] theorem Tryd.isB4 : isB Tryd.prog 4 = True := eq_true Tryd.underlying4
@[push_cast] theorem Tryd.eqT28 : eqT Tryd.prog 28 = some [0, 0, 0, 0, 0, 0, 0, 2] := by kernel_rfl
end Go.Proofs
