/- Facts on the types of the translation, for the rule that reckons. No condition. -/
import Derived.Test.YtimehiamdikinaaProg
import Derived.Test.YtimehiamdikinaaAxVf
set_option linter.all false
namespace Go.Proofs
open Go Go.Ax
theorem Try.mixed : Try.prog.follows .mixedOrders = true := by kernel_rfl
@[push_cast] theorem Try.ldT3 : ldT Try.prog 3 = some none := by kernel_rfl
@[push_cast] theorem Try.ldT5 : ldT Try.prog 5 = some none := by kernel_rfl
@[push_cast] theorem Try.ldT9 : ldT Try.prog 9 = some none := by kernel_rfl
@[push_cast] theorem Try.ldT28 : ldT Try.prog 28 = some none := by kernel_rfl
@[push_cast] theorem Try.ldT32 : ldT Try.prog 32 = some (some 7) := by kernel_rfl
@[push_cast] theorem Try.szT3 : szT Try.prog 3 = some 1 := by kernel_rfl
@[push_cast] theorem Try.szT5 : szT Try.prog 5 = some 1 := by kernel_rfl
@[push_cast] theorem Try.szT9 : szT Try.prog 9 = some 1 := by kernel_rfl
@[push_cast] theorem Try.szT28 : szT Try.prog 28 = some 1 := by kernel_rfl
@[push_cast] theorem Try.szT32 : szT Try.prog 32 = some 7 := by kernel_rfl
@[push_cast] theorem Try.zC32 : zeroC Try.prog 32 = some [.d (.int .i64 0), .d (.int .i64 0), .d (.int .i64 0), .d (.int .i64 0), .d (.str []), .d (.str []), .d (.raw (.slice none 0 0))] := by kernel_rfl
@[push_cast] theorem Try.fdT32_0 : fdT Try.prog 32 0 = some 0 := by kernel_rfl
@[push_cast] theorem Try.fdT32_1 : fdT Try.prog 32 1 = some 1 := by kernel_rfl
@[push_cast] theorem Try.fdT32_2 : fdT Try.prog 32 2 = some 2 := by kernel_rfl
@[push_cast] theorem Try.fdT32_3 : fdT Try.prog 32 3 = some 3 := by kernel_rfl
@[push_cast] theorem Try.fdT32_4 : fdT Try.prog 32 4 = some 4 := by kernel_rfl
@[push_cast] theorem Try.fdT32_5 : fdT Try.prog 32 5 = some 5 := by kernel_rfl
@[push_cast] theorem Try.fdT32_6 : fdT Try.prog 32 6 = some 6 := by kernel_rfl
@[push_cast] theorem Try.isS9 : isS Try.prog 9 = True := eq_true Try.underlying9
@[push_cast] theorem Try.slT22 : slT Try.prog 22 = some (32, 7) := by kernel_rfl
@[push_cast] theorem Try.slT28 : slT Try.prog 28 = some (3, 1) := by kernel_rfl
@[push_cast] theorem Try.slT58 : slT Try.prog 58 = some (5, 1) := by kernel_rfl
@[push_cast] theorem Try.plT32 : plT Try.prog 32 = some [(0, 1), (1, 1), (2, 1), (3, 1), (4, 1), (5, 1), (6, 1)] := by kernel_rfl
@[push_cast] theorem Try.apT22 : apT Try.prog 22 = some (32, 7, 88) := by kernel_rfl
@[push_cast] theorem Try.apT28 : apT Try.prog 28 = some (3, 1, 8) := by kernel_rfl
@[push_cast] theorem Try.zC3 : zeroC Try.prog 3 = some [.d (.int .i64 0)] := by kernel_rfl
@[push_cast] theorem Try.intT3 : intT Try.prog 3 = some .i64 := by kernel_rfl
@[push_cast] theorem Try.intT5 : intT Try.prog 5 = some .u8 := by kernel_rfl
@[push_cast] theorem Try.intT9 : intT Try.prog 9 = none := by kernel_rfl
@[push_cast] theorem Try.strB9 : strB Try.prog 9 = true := by kernel_rfl
@[push_cast] theorem Try.intT58 : intT Try.prog 58 = none := by kernel_rfl
@[push_cast] theorem Try.bysT58 : bysT Try.prog 58 = true := by kernel_rfl
@[push_cast] theorem Try.isB4 : isB Try.prog 4 = True := eq_true Try.underlying4
end Go.Proofs
