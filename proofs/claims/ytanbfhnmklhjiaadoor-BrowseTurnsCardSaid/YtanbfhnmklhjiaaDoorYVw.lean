/- Part of a proof about this program; no condition of its own. -/
import Derived.Test.YtanbfhnmklhjiaaDoorGvB
set_option linter.all false
/- Facts on the whole program that every statement asks, each by itself. No condition. -/
namespace Go.Proofs.YtanbfhnmklhjiaaDoor
open Go Go.ChangeShapes Go.WideShapes Go.RowKit Go.Ax Go.Fc
theorem and_ok {a b : Bool} (h : a = true) (g : b = true) : (a && b) = true := by rw [h, g]; rfl
theorem laidOut : laidOutB Tryd.prog = true := by kernel_rfl
theorem k_mr : (mapsRowed Tryd.prog) = true := by kernel_rfl
theorem k_st : (Tryd.prog.stops == []) = true := by kernel_rfl
theorem k_sk : (Tryd.prog.stopKnobs == []) = true := by kernel_rfl
theorem k_pk : (Rows.browsePagesRow.plainKeys == Tryd.prog.plainKeys) = true := by kernel_rfl
theorem k_sh : (Tryd.prog.stopsHeard) = true := by kernel_rfl
theorem k_me : (Tryd.prog.mayEnter) = true := by kernel_rfl
theorem k_lf : (Rows.browsePagesRow.lifted == Tryd.prog.liftsFinal) = true := by kernel_rfl
theorem k_mk : (Tryd.prog.make == some Rows.browsePagesRow.make) = true := by kernel_rfl
end Go.Proofs.YtanbfhnmklhjiaaDoor
