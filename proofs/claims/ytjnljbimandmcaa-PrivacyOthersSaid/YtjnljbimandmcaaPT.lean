/- Facts on the types of the translation, for the rule that reckons. No condition. -/
import Derived.Test.YtjnljbimandmcaaProg
import Derived.Test.YtjnljbimandmcaaAxVf
set_option linter.all false
namespace Go.Proofs
open Go Go.Ax
theorem Try.mixed : Try.prog.follows .mixedOrders = true := by kernel_rfl
@[push_cast] theorem Try.ldT3 : ldT Try.prog 3 = some none := by kernel_rfl
@[push_cast] theorem Try.ldT4 : ldT Try.prog 4 = some none := by kernel_rfl
@[push_cast] theorem Try.ldT22 : ldT Try.prog 22 = some none := by kernel_rfl
@[push_cast] theorem Try.ldT24 : ldT Try.prog 24 = some (some 3) := by kernel_rfl
@[push_cast] theorem Try.ldT41 : ldT Try.prog 41 = some (some 7) := by kernel_rfl
@[push_cast] theorem Try.szT3 : szT Try.prog 3 = some 1 := by kernel_rfl
@[push_cast] theorem Try.szT4 : szT Try.prog 4 = some 1 := by kernel_rfl
@[push_cast] theorem Try.szT24 : szT Try.prog 24 = some 3 := by kernel_rfl
@[push_cast] theorem Try.szT41 : szT Try.prog 41 = some 7 := by kernel_rfl
@[push_cast] theorem Try.zC24 : zeroC Try.prog 24 = some [.d (.int .i64 0), .d (.int .i64 0), .d (.raw (.slice none 0 0))] := by kernel_rfl
@[push_cast] theorem Try.zC41 : zeroC Try.prog 41 = some [.d (.int .i64 0), .d (.int .i64 0), .d (.int .i64 0), .d (.int .i64 0), .d (.int .i64 0), .d (.int .i64 0), .d (.int .i64 0)] := by kernel_rfl
@[push_cast] theorem Try.zC49 : zeroC Try.prog 49 = some [.d (.bool false), .d (.bool false), .d (.bool false), .d (.bool false), .d (.bool false), .d (.bool false), .d (.bool false), .d (.bool false)] := by kernel_rfl
@[push_cast] theorem Try.fdT24_0 : fdT Try.prog 24 0 = some 0 := by kernel_rfl
@[push_cast] theorem Try.fdT24_1 : fdT Try.prog 24 1 = some 1 := by kernel_rfl
@[push_cast] theorem Try.fdT24_2 : fdT Try.prog 24 2 = some 2 := by kernel_rfl
@[push_cast] theorem Try.fdT41_0 : fdT Try.prog 41 0 = some 0 := by kernel_rfl
@[push_cast] theorem Try.fdT41_1 : fdT Try.prog 41 1 = some 1 := by kernel_rfl
@[push_cast] theorem Try.fdT41_2 : fdT Try.prog 41 2 = some 2 := by kernel_rfl
@[push_cast] theorem Try.fdT41_3 : fdT Try.prog 41 3 = some 3 := by kernel_rfl
@[push_cast] theorem Try.fdT41_4 : fdT Try.prog 41 4 = some 4 := by kernel_rfl
@[push_cast] theorem Try.fdT41_5 : fdT Try.prog 41 5 = some 5 := by kernel_rfl
@[push_cast] theorem Try.fdT41_6 : fdT Try.prog 41 6 = some 6 := by kernel_rfl
@[push_cast] theorem Try.slT22 : slT Try.prog 22 = some (3, 1) := by kernel_rfl
@[push_cast] theorem Try.slT30 : slT Try.prog 30 = some (41, 7) := by kernel_rfl
@[push_cast] theorem Try.slT49 : slT Try.prog 49 = none := by kernel_rfl
@[push_cast] theorem Try.arT49 : arT Try.prog 49 = some (8, 4, 1) := by kernel_rfl
@[push_cast] theorem Try.slT54 : slT Try.prog 54 = some (4, 1) := by kernel_rfl
@[push_cast] theorem Try.plT24 : plT Try.prog 24 = some [(0, 1), (1, 1), (2, 1)] := by kernel_rfl
@[push_cast] theorem Try.plT41 : plT Try.prog 41 = some [(0, 1), (1, 1), (2, 1), (3, 1), (4, 1), (5, 1), (6, 1)] := by kernel_rfl
@[push_cast] theorem Try.apT22 : apT Try.prog 22 = some (3, 1, 8) := by kernel_rfl
@[push_cast] theorem Try.apT30 : apT Try.prog 30 = some (41, 7, 56) := by kernel_rfl
@[push_cast] theorem Try.apT54 : apT Try.prog 54 = some (4, 1, 1) := by kernel_rfl
@[push_cast] theorem Try.zC3 : zeroC Try.prog 3 = some [.d (.int .i64 0)] := by kernel_rfl
@[push_cast] theorem Try.intT3 : intT Try.prog 3 = some .i64 := by kernel_rfl
@[push_cast] theorem Try.intT39 : intT Try.prog 39 = some .u16 := by kernel_rfl
@[push_cast] theorem Try.isB4 : isB Try.prog 4 = True := eq_true Try.underlying4
@[push_cast] theorem Try.eqT41 : eqT Try.prog 41 = some [0, 0, 0, 0, 0, 0, 0] := by kernel_rfl
end Go.Proofs
