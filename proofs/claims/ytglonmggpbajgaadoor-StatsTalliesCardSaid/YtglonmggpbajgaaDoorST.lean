/- Part of a proof about this program; no condition of its own. -/
import Derived.Test.YtglonmggpbajgaaDoorProg
import Derived.Test.YtglonmggpbajgaaDoorAxVd
set_option linter.all false
/- Facts on the types of the translation, for the rule that reckons. No condition. -/
namespace Go.Proofs
open Go Go.Ax
theorem Tryd.mixed : Tryd.prog.follows .mixedOrders = true := by kernel_rfl
@[push_cast] theorem Tryd.ldT3 : ldT Tryd.prog 3 = some none := by kernel_rfl
@[push_cast] theorem Tryd.ldT5 : ldT Tryd.prog 5 = some none := by kernel_rfl
@[push_cast] theorem Tryd.ldT9 : ldT Tryd.prog 9 = some none := by kernel_rfl
@[push_cast] theorem Tryd.ldT23 : ldT Tryd.prog 23 = some (some 7) := by kernel_rfl
@[push_cast] theorem Tryd.ldT33 : ldT Tryd.prog 33 = some none := by kernel_rfl
@[push_cast] theorem Tryd.ldT35 : ldT Tryd.prog 35 = some (some 3) := by kernel_rfl
@[push_cast] theorem Tryd.ldT42 : ldT Tryd.prog 42 = some none := by kernel_rfl
@[push_cast] theorem Tryd.ldT45 : ldT Tryd.prog 45 = some (some 2) := by kernel_rfl
@[push_cast] theorem Tryd.ldT70 : ldT Tryd.prog 70 = some none := by kernel_rfl
@[push_cast] theorem Tryd.ldT71 : ldT Tryd.prog 71 = some none := by kernel_rfl
@[push_cast] theorem Tryd.ldT99 : ldT Tryd.prog 99 = some none := by kernel_rfl
@[push_cast] theorem Tryd.ldT107 : ldT Tryd.prog 107 = some none := by kernel_rfl
@[push_cast] theorem Tryd.szT3 : szT Tryd.prog 3 = some 1 := by kernel_rfl
@[push_cast] theorem Tryd.szT5 : szT Tryd.prog 5 = some 1 := by kernel_rfl
@[push_cast] theorem Tryd.szT9 : szT Tryd.prog 9 = some 1 := by kernel_rfl
@[push_cast] theorem Tryd.szT23 : szT Tryd.prog 23 = some 7 := by kernel_rfl
@[push_cast] theorem Tryd.szT33 : szT Tryd.prog 33 = some 1 := by kernel_rfl
@[push_cast] theorem Tryd.szT35 : szT Tryd.prog 35 = some 3 := by kernel_rfl
@[push_cast] theorem Tryd.szT42 : szT Tryd.prog 42 = some 1 := by kernel_rfl
@[push_cast] theorem Tryd.szT45 : szT Tryd.prog 45 = some 2 := by kernel_rfl
@[push_cast] theorem Tryd.szT70 : szT Tryd.prog 70 = some 1 := by kernel_rfl
@[push_cast] theorem Tryd.szT71 : szT Tryd.prog 71 = some 1 := by kernel_rfl
@[push_cast] theorem Tryd.szT99 : szT Tryd.prog 99 = some 1 := by kernel_rfl
@[push_cast] theorem Tryd.szT107 : szT Tryd.prog 107 = some 1 := by kernel_rfl
@[push_cast] theorem Tryd.szT114 : szT Tryd.prog 114 = some 20 := by kernel_rfl
@[push_cast] theorem Tryd.szT119 : szT Tryd.prog 119 = some 32 := by kernel_rfl
@[push_cast] theorem Tryd.szT120 : szT Tryd.prog 120 = some 64 := by kernel_rfl
@[push_cast] theorem Tryd.zC3 : zeroC Tryd.prog 3 = some [.d (.int .i64 0)] := by kernel_rfl
@[push_cast] theorem Tryd.zC23 : zeroC Tryd.prog 23 = some [.d (.int .i64 0), .d (.int .i64 0), .d (.int .i64 0), .d (.int .i64 0), .d (.int .i64 0), .d (.int .i64 0), .d (.int .i64 0)] := by kernel_rfl
@[push_cast] theorem Tryd.zC35 : zeroC Tryd.prog 35 = some [.d (.int .i64 0), .d (.int .i64 0), .d (.raw (.slice none 0 0))] := by kernel_rfl
@[push_cast] theorem Tryd.zC42 : zeroC Tryd.prog 42 = some [.d (.raw (.slice none 0 0))] := by kernel_rfl
@[push_cast] theorem Tryd.zC45 : zeroC Tryd.prog 45 = some [.d (.int .i64 0), .d (.int .i64 0)] := by kernel_rfl
@[push_cast] theorem Tryd.zC73 : zeroC Tryd.prog 73 = some [.d (.raw (.pointer none)), .d (.raw (.slice none 0 0))] := by kernel_rfl
@[push_cast] theorem Tryd.zC81 : zeroC Tryd.prog 81 = some [.d (.int .i64 0), .d (.int .i64 0), .d (.int .i64 0), .d (.int .i64 0), .d (.int .i64 0), .d (.int .i64 0), .d (.int .i64 0), .d (.int .i64 0), .d (.int .i64 0), .d (.int .i64 0), .d (.int .i64 0), .d (.int .i64 0)] := by kernel_rfl
@[push_cast] theorem Tryd.zC100 : zeroC Tryd.prog 100 = some [.d (.int .u8 0), .d (.int .u8 0), .d (.int .u8 0), .d (.int .u8 0), .d (.int .u8 0), .d (.int .u8 0), .d (.int .u8 0), .d (.int .u8 0), .d (.int .u8 0), .d (.int .u8 0), .d (.int .u8 0), .d (.int .u8 0), .d (.int .u8 0), .d (.int .u8 0), .d (.int .u8 0), .d (.int .u8 0), .d (.int .u8 0), .d (.int .u8 0), .d (.int .u8 0), .d (.int .u8 0), .d (.int .u8 0), .d (.int .u8 0), .d (.int .u8 0), .d (.int .u8 0)] := by kernel_rfl
@[push_cast] theorem Tryd.zC107 : zeroC Tryd.prog 107 = some [.d (.int .u64 0)] := by kernel_rfl
@[push_cast] theorem Tryd.zC114 : zeroC Tryd.prog 114 = some [.d (.int .u64 0), .d (.int .u64 0), .d (.int .u64 0), .d (.int .u64 0), .d (.int .u64 0), .d (.int .u64 0), .d (.int .u64 0), .d (.int .u64 0), .d (.int .u64 0), .d (.int .u64 0), .d (.int .u64 0), .d (.int .u64 0), .d (.int .u64 0), .d (.int .u64 0), .d (.int .u64 0), .d (.int .u64 0), .d (.int .u64 0), .d (.int .u64 0), .d (.int .u64 0), .d (.int .u64 0)] := by kernel_rfl
@[push_cast] theorem Tryd.zC115 : zeroC Tryd.prog 115 = some [.d (.int .u8 0), .d (.int .u8 0), .d (.int .u8 0), .d (.int .u8 0), .d (.int .u8 0), .d (.int .u8 0), .d (.int .u8 0), .d (.int .u8 0), .d (.int .u8 0), .d (.int .u8 0), .d (.int .u8 0), .d (.int .u8 0), .d (.int .u8 0), .d (.int .u8 0), .d (.int .u8 0), .d (.int .u8 0), .d (.int .u8 0), .d (.int .u8 0), .d (.int .u8 0), .d (.int .u8 0), .d (.int .u8 0), .d (.int .u8 0), .d (.int .u8 0), .d (.int .u8 0), .d (.int .u8 0), .d (.int .u8 0), .d (.int .u8 0), .d (.int .u8 0), .d (.int .u8 0), .d (.int .u8 0), .d (.int .u8 0), .d (.int .u8 0), .d (.int .u8 0), .d (.int .u8 0), .d (.int .u8 0), .d (.int .u8 0), .d (.int .u8 0), .d (.int .u8 0), .d (.int .u8 0), .d (.int .u8 0), .d (.int .u8 0), .d (.int .u8 0), .d (.int .u8 0), .d (.int .u8 0), .d (.int .u8 0), .d (.int .u8 0), .d (.int .u8 0), .d (.int .u8 0), .d (.int .u8 0), .d (.int .u8 0), .d (.int .u8 0), .d (.int .u8 0), .d (.int .u8 0), .d (.int .u8 0), .d (.int .u8 0), .d (.int .u8 0), .d (.int .u8 0), .d (.int .u8 0), .d (.int .u8 0), .d (.int .u8 0), .d (.int .u8 0), .d (.int .u8 0), .d (.int .u8 0), .d (.int .u8 0), .d (.int .u8 0)] := by kernel_rfl
@[push_cast] theorem Tryd.zC119 : zeroC Tryd.prog 119 = some [.d (.int .u8 0), .d (.int .u8 0), .d (.int .u8 0), .d (.int .u8 0), .d (.int .u8 0), .d (.int .u8 0), .d (.int .u8 0), .d (.int .u8 0), .d (.int .u8 0), .d (.int .u8 0), .d (.int .u8 0), .d (.int .u8 0), .d (.int .u8 0), .d (.int .u8 0), .d (.int .u8 0), .d (.int .u8 0), .d (.int .u8 0), .d (.int .u8 0), .d (.int .u8 0), .d (.int .u8 0), .d (.int .u8 0), .d (.int .u8 0), .d (.int .u8 0), .d (.int .u8 0), .d (.int .u8 0), .d (.int .u8 0), .d (.int .u8 0), .d (.int .u8 0), .d (.int .u8 0), .d (.int .u8 0), .d (.int .u8 0), .d (.int .u8 0)] := by kernel_rfl
@[push_cast] theorem Tryd.zC120 : zeroC Tryd.prog 120 = some [.d (.int .u8 0), .d (.int .u8 0), .d (.int .u8 0), .d (.int .u8 0), .d (.int .u8 0), .d (.int .u8 0), .d (.int .u8 0), .d (.int .u8 0), .d (.int .u8 0), .d (.int .u8 0), .d (.int .u8 0), .d (.int .u8 0), .d (.int .u8 0), .d (.int .u8 0), .d (.int .u8 0), .d (.int .u8 0), .d (.int .u8 0), .d (.int .u8 0), .d (.int .u8 0), .d (.int .u8 0), .d (.int .u8 0), .d (.int .u8 0), .d (.int .u8 0), .d (.int .u8 0), .d (.int .u8 0), .d (.int .u8 0), .d (.int .u8 0), .d (.int .u8 0), .d (.int .u8 0), .d (.int .u8 0), .d (.int .u8 0), .d (.int .u8 0), .d (.int .u8 0), .d (.int .u8 0), .d (.int .u8 0), .d (.int .u8 0), .d (.int .u8 0), .d (.int .u8 0), .d (.int .u8 0), .d (.int .u8 0), .d (.int .u8 0), .d (.int .u8 0), .d (.int .u8 0), .d (.int .u8 0), .d (.int .u8 0), .d (.int .u8 0), .d (.int .u8 0), .d (.int .u8 0), .d (.int .u8 0), .d (.int .u8 0), .d (.int .u8 0), .d (.int .u8 0), .d (.int .u8 0), .d (.int .u8 0), .d (.int .u8 0), .d (.int .u8 0), .d (.int .u8 0), .d (.int .u8 0), .d (.int .u8 0), .d (.int .u8 0), .d (.int .u8 0), .d (.int .u8 0), .d (.int .u8 0), .d (.int .u8 0)] := by kernel_rfl
@[push_cast] theorem Tryd.fdT23_0 : fdT Tryd.prog 23 0 = some 0 := by kernel_rfl
@[push_cast] theorem Tryd.fdT23_1 : fdT Tryd.prog 23 1 = some 1 := by kernel_rfl
@[push_cast] theorem Tryd.fdT23_2 : fdT Tryd.prog 23 2 = some 2 := by kernel_rfl
@[push_cast] theorem Tryd.fdT23_3 : fdT Tryd.prog 23 3 = some 3 := by kernel_rfl
@[push_cast] theorem Tryd.fdT23_4 : fdT Tryd.prog 23 4 = some 4 := by kernel_rfl
@[push_cast] theorem Tryd.fdT23_5 : fdT Tryd.prog 23 5 = some 5 := by kernel_rfl
@[push_cast] theorem Tryd.fdT23_6 : fdT Tryd.prog 23 6 = some 6 := by kernel_rfl
@[push_cast] theorem Tryd.fdT35_0 : fdT Tryd.prog 35 0 = some 0 := by kernel_rfl
@[push_cast] theorem Tryd.fdT35_1 : fdT Tryd.prog 35 1 = some 1 := by kernel_rfl
@[push_cast] theorem Tryd.fdT35_2 : fdT Tryd.prog 35 2 = some 2 := by kernel_rfl
@[push_cast] theorem Tryd.fdT73_0 : fdT Tryd.prog 73 0 = some 0 := by kernel_rfl
@[push_cast] theorem Tryd.fdT73_1 : fdT Tryd.prog 73 1 = some 1 := by kernel_rfl
@[push_cast] theorem Tryd.isS9 : isS Tryd.prog 9 = True := eq_true Tryd.underlying9
@[push_cast] theorem Tryd.slT28 : slT Tryd.prog 28 = some (23, 7) := by kernel_rfl
@[push_cast] theorem Tryd.slT30 : slT Tryd.prog 30 = some (45, 2) := by kernel_rfl
@[push_cast] theorem Tryd.slT33 : slT Tryd.prog 33 = some (3, 1) := by kernel_rfl
@[push_cast] theorem Tryd.slT42 : slT Tryd.prog 42 = some (9, 1) := by kernel_rfl
@[push_cast] theorem Tryd.slT45 : slT Tryd.prog 45 = none := by kernel_rfl
@[push_cast] theorem Tryd.ixT45 : ixT Tryd.prog 45 = some 2 := by kernel_rfl
@[push_cast] theorem Tryd.arT45 : arT Tryd.prog 45 = some (2, 3, 1) := by kernel_rfl
@[push_cast] theorem Tryd.slT71 : slT Tryd.prog 71 = some (5, 1) := by kernel_rfl
@[push_cast] theorem Tryd.slT100 : slT Tryd.prog 100 = none := by kernel_rfl
@[push_cast] theorem Tryd.ixT100 : ixT Tryd.prog 100 = some 24 := by kernel_rfl
@[push_cast] theorem Tryd.arT100 : arT Tryd.prog 100 = some (24, 5, 1) := by kernel_rfl
@[push_cast] theorem Tryd.slT114 : slT Tryd.prog 114 = none := by kernel_rfl
@[push_cast] theorem Tryd.ixT114 : ixT Tryd.prog 114 = some 20 := by kernel_rfl
@[push_cast] theorem Tryd.arT114 : arT Tryd.prog 114 = some (20, 99, 1) := by kernel_rfl
@[push_cast] theorem Tryd.slT115 : slT Tryd.prog 115 = none := by kernel_rfl
@[push_cast] theorem Tryd.ixT115 : ixT Tryd.prog 115 = some 65 := by kernel_rfl
@[push_cast] theorem Tryd.arT115 : arT Tryd.prog 115 = some (65, 5, 1) := by kernel_rfl
@[push_cast] theorem Tryd.slT119 : slT Tryd.prog 119 = none := by kernel_rfl
@[push_cast] theorem Tryd.ixT119 : ixT Tryd.prog 119 = some 32 := by kernel_rfl
@[push_cast] theorem Tryd.arT119 : arT Tryd.prog 119 = some (32, 5, 1) := by kernel_rfl
@[push_cast] theorem Tryd.slT120 : slT Tryd.prog 120 = none := by kernel_rfl
@[push_cast] theorem Tryd.ixT120 : ixT Tryd.prog 120 = some 64 := by kernel_rfl
@[push_cast] theorem Tryd.arT120 : arT Tryd.prog 120 = some (64, 5, 1) := by kernel_rfl
@[push_cast] theorem Tryd.slT81 : slT Tryd.prog 81 = none := by kernel_rfl
@[push_cast] theorem Tryd.ixT81 : ixT Tryd.prog 81 = some 12 := by kernel_rfl
@[push_cast] theorem Tryd.arT81 : arT Tryd.prog 81 = some (12, 3, 1) := by kernel_rfl
@[push_cast] theorem Tryd.plT23 : plT Tryd.prog 23 = some [(0, 1), (1, 1), (2, 1), (3, 1), (4, 1), (5, 1), (6, 1)] := by kernel_rfl
@[push_cast] theorem Tryd.plT35 : plT Tryd.prog 35 = some [(0, 1), (1, 1), (2, 1)] := by kernel_rfl
@[push_cast] theorem Tryd.plT45 : plT Tryd.prog 45 = some [(0, 1), (1, 1)] := by kernel_rfl
@[push_cast] theorem Tryd.plT81 : plT Tryd.prog 81 = some [(0, 1), (1, 1), (2, 1), (3, 1), (4, 1), (5, 1), (6, 1), (7, 1), (8, 1), (9, 1), (10, 1), (11, 1)] := by kernel_rfl
@[push_cast] theorem Tryd.plT114 : plT Tryd.prog 114 = some [(0, 1), (1, 1), (2, 1), (3, 1), (4, 1), (5, 1), (6, 1), (7, 1), (8, 1), (9, 1), (10, 1), (11, 1), (12, 1), (13, 1), (14, 1), (15, 1), (16, 1), (17, 1), (18, 1), (19, 1)] := by kernel_rfl
@[push_cast] theorem Tryd.plT119 : plT Tryd.prog 119 = some [(0, 1), (1, 1), (2, 1), (3, 1), (4, 1), (5, 1), (6, 1), (7, 1), (8, 1), (9, 1), (10, 1), (11, 1), (12, 1), (13, 1), (14, 1), (15, 1), (16, 1), (17, 1), (18, 1), (19, 1), (20, 1), (21, 1), (22, 1), (23, 1), (24, 1), (25, 1), (26, 1), (27, 1), (28, 1), (29, 1), (30, 1), (31, 1)] := by kernel_rfl
@[push_cast] theorem Tryd.plT120 : plT Tryd.prog 120 = some [(0, 1), (1, 1), (2, 1), (3, 1), (4, 1), (5, 1), (6, 1), (7, 1), (8, 1), (9, 1), (10, 1), (11, 1), (12, 1), (13, 1), (14, 1), (15, 1), (16, 1), (17, 1), (18, 1), (19, 1), (20, 1), (21, 1), (22, 1), (23, 1), (24, 1), (25, 1), (26, 1), (27, 1), (28, 1), (29, 1), (30, 1), (31, 1), (32, 1), (33, 1), (34, 1), (35, 1), (36, 1), (37, 1), (38, 1), (39, 1), (40, 1), (41, 1), (42, 1), (43, 1), (44, 1), (45, 1), (46, 1), (47, 1), (48, 1), (49, 1), (50, 1), (51, 1), (52, 1), (53, 1), (54, 1), (55, 1), (56, 1), (57, 1), (58, 1), (59, 1), (60, 1), (61, 1), (62, 1), (63, 1)] := by kernel_rfl
@[push_cast] theorem Tryd.apT28 : apT Tryd.prog 28 = some (23, 7, 56) := by kernel_rfl
@[push_cast] theorem Tryd.apT30 : apT Tryd.prog 30 = some (45, 2, 16) := by kernel_rfl
@[push_cast] theorem Tryd.apT33 : apT Tryd.prog 33 = some (3, 1, 8) := by kernel_rfl
@[push_cast] theorem Tryd.apT42 : apT Tryd.prog 42 = some (9, 1, 16) := by kernel_rfl
@[push_cast] theorem Tryd.apT71 : apT Tryd.prog 71 = some (5, 1, 1) := by kernel_rfl
@[push_cast] theorem Tryd.mapSh56 : mapSh Tryd.prog 56 = some [.int .i64, .int .i64] := by kernel_rfl
@[push_cast] theorem Tryd.intT2 : intT Tryd.prog 2 = some .i64 := by kernel_rfl
@[push_cast] theorem Tryd.intT3 : intT Tryd.prog 3 = some .i64 := by kernel_rfl
@[push_cast] theorem Tryd.intT5 : intT Tryd.prog 5 = some .u8 := by kernel_rfl
@[push_cast] theorem Tryd.intT9 : intT Tryd.prog 9 = none := by kernel_rfl
@[push_cast] theorem Tryd.strB9 : strB Tryd.prog 9 = true := by kernel_rfl
@[push_cast] theorem Tryd.intT71 : intT Tryd.prog 71 = none := by kernel_rfl
@[push_cast] theorem Tryd.bysT71 : bysT Tryd.prog 71 = true := by kernel_rfl
@[push_cast] theorem Tryd.intT84 : intT Tryd.prog 84 = some .u64 := by kernel_rfl
@[push_cast] theorem Tryd.intT97 : intT Tryd.prog 97 = some .u32 := by kernel_rfl
@[push_cast] theorem Tryd.intT99 : intT Tryd.prog 99 = some .u64 := by kernel_rfl
@[push_cast] theorem Tryd.intT107 : intT Tryd.prog 107 = some .u64 := by kernel_rfl
@[push_cast] theorem Tryd.eqT45 : eqT Tryd.prog 45 = some [0, 0] := by kernel_rfl
end Go.Proofs
