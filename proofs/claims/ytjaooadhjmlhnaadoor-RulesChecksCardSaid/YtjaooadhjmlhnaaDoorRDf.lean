/- The chapter's examples, reckoned. No condition. -/
import Derived.Test.YtjaooadhjmlhnaaDoorRDe
import Derived.KernelRfl
set_option linter.all false
namespace Go.Rl
open Go Go.Ax
abbrev t245 : Str := [50, 52, 53]
theorem al1 : (findR stdL [50, 52, 53]).isSome = true := by kernel_rfl
theorem al2 : (findR stdL [57, 57, 57]).isSome = false := by kernel_rfl
theorem al3 : (getR stdL [50, 52, 53]).must = true := by kernel_rfl
theorem al4 : (getR stdL [50, 52, 53]).rep = false := by kernel_rfl
theorem al5 : (getR stdL [50, 52, 53]).codes = [97, 98, 99, 110, 112] := by kernel_rfl
theorem al6 : chkP stdL (oneR [50, 52, 53] [97]).fields = [] := by kernel_rfl
theorem al7 : chkP stdL [] = [⟨1, -1, [50, 52, 53], 0⟩] := by kernel_rfl
theorem al8 : chkP stdL (oneR [50, 52, 53] [98, 99, 99, 113]).fields = [⟨5, 0, [50, 52, 53], 99⟩, ⟨4, 0, [50, 52, 53], 113⟩, ⟨6, 0, [50, 52, 53], 97⟩] := by kernel_rfl
theorem okStd : OkL stdL := by
  have h : smallB stdL [] = true := by kernel_rfl
  exact okL_of h
theorem okEmpty : OkS [] := ⟨by decide, by simp⟩
theorem okOne (t codes : Str) (h1 : t.length ≤ 100) (h2 : codes.length ≤ 60) : OkS (oneR t codes).fields := ⟨by simp [oneR], by
  intro x hx; simp only [oneR, List.mem_singleton] at hx; subst hx; exact ⟨by simpa using h2, h1⟩⟩
def emptyR : Rec := ⟨0, 0, 0, [], []⟩
end Go.Rl
