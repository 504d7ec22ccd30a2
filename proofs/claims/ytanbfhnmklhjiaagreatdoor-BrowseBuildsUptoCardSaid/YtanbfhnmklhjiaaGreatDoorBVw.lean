/- Part of a proof about this program; no condition of its own. -/
import Derived.Test.YtanbfhnmklhjiaaGreatDoorGvB
set_option linter.all false
/- Facts on the whole program that every statement asks, each by itself. No condition. -/
namespace Go.Proofs.YtanbfhnmklhjiaaGreatDoor
open Go Go.ChangeShapes Go.WideShapes Go.RowKit Go.Ax Go.Fc
theorem and_ok {a b : Bool} (h : a = true) (g : b = true) : (a && b) = true := by rw [h, g]; rfl
theorem laidOut : laidOutB Tryz.prog = true := by kernel_rfl
theorem k_mr : (mapsRowed Tryz.prog) = true := by kernel_rfl
theorem k_st : (Tryz.prog.stops == []) = true := by kernel_rfl
theorem k_sk : (Tryz.prog.stopKnobs == []) = true := by kernel_rfl
theorem k_pk : (Rows.browseBuildsUptoRow.plainKeys == Tryz.prog.plainKeys) = true := by kernel_rfl
theorem k_sh : (Tryz.prog.stopsHeard) = true := by kernel_rfl
theorem k_me : (Tryz.prog.mayEnter) = true := by kernel_rfl
theorem k_lf : (Rows.browseBuildsUptoRow.lifted == Tryz.prog.liftsFinal) = true := by kernel_rfl
theorem k_mk : (Tryz.prog.make == some Rows.browseBuildsUptoRow.make) = true := by kernel_rfl
end Go.Proofs.YtanbfhnmklhjiaaGreatDoor
