/- Part of a proof about this program; no condition of its own. -/
import Derived.Test.YtglonmggpbajgaaDoorSWo
import Derived.Test.YtglonmggpbajgaaDoorGyD
import Derived.Test.YtglonmggpbajgaaDoorGyF
set_option linter.all false
/- Walks of the chapter on statistics: the examples. -/
namespace Go.Proofs
open Go Go.Ax Go.Sd
set_option maxRecDepth 100000
set_option maxHeartbeats 0
def exL : List Ev := [⟨46340, 3, 1, 1, 1, 0, 0⟩, ⟨46340, 4, 1, 1, 1, 0, 0⟩, ⟨46341, 3, 1, 1, 1, 0, 0⟩]
theorem exL_ok : ∀ x ∈ exL, x.ok := by
  intro x hx
  simp only [exL, List.mem_cons, List.not_mem_nil, or_false] at hx
  rcases hx with rfl | rfl | rfl <;> exact ⟨by decide, by decide, by decide, by decide, by decide, by decide, by decide, by decide⟩
theorem ex1 : perF 46340 1 = 2026 := by kernel_rfl
theorem ex2 : perF 46340 2 = 24322 := by kernel_rfl
theorem ex3 : tallyM exL 0 50000 3 = [(3, 2), (4, 1)] := by rw [tally_eq]; kernel_rfl
theorem ex4 : crossM exL 0 50000 7 3 = ([0, 1], [3, 4], ⟨2, 2, [1, 1, 1, 0]⟩) := by rw [cross_eq]; kernel_rfl
theorem ex5 : printF ⟨2, 2, [1, 1, 1, 0]⟩ = [[49, 32, 49], [49, 32, 48]] := by
  have h : printF ⟨2, 2, [1, 1, 1, 0]⟩ = [Lib.join [Lib.itoa 1, Lib.itoa 1] [32], Lib.join [Lib.itoa 1, Lib.itoa 0] [32]] := rfl
  rw [h]
  have e0 : Lib.itoa 0 = [48] := dec_small (n := 0) (by decide)
  have e1 : Lib.itoa 1 = [49] := dec_small (n := 1) (by decide)
  rw [e0, e1]; rfl
theorem ex6 : printF ⟨1, 2, [-1, 5]⟩ = [[45, 32, 53]] := by
  have h : printF ⟨1, 2, [-1, 5]⟩ = [Lib.join [[45], Lib.itoa 5] [32]] := rfl
  rw [h]
  have e1 : Lib.itoa 5 = [53] := dec_small (n := 5) (by decide)
  rw [e1]; rfl
def Γ0 : List (Nat × List Ax.D) := [(0, powD)]
theorem c10 : AFn Tryd.prog Γ0 10 [] [.d (.bool true)] := by
  refine AFn.vc [] Tryd.func10 rfl Tryd.mixed (by kernel_rfl) Tryd.ntmps10 Tryd.results10 (by simp) ?_
  push_cast
  refine CallL.q (c11 46340 1) ?_
  rw [ex1]
  push_cast
  refine CallL.q (c11 46340 2) ?_
  rw [ex2]
  push_cast
  refine CallL.q (c29 46340 3) ?_
  push_cast
  refine CallL.q (c29 46340 4) ?_
  push_cast
  refine CallL.q (c29 46341 3) ?_
  push_cast
  have t16 := c16 (Γ := Γ0) exL 0 50000 3 (by decide) exL_ok
  rw [ex3] at t16
  refine CallL.q t16 ?_
  push_cast
  have t15 := c15 (Γ := Γ0) [(3, 2), (4, 1)] [(3, 2), (4, 1)] (by decide)
  rw [decide_eq_true rfl] at t15
  refine CallL.q t15 ?_
  push_cast
  have t18 := c18 (Γ := Γ0) exL 0 50000 7 3 (by decide) exL_ok
  rw [ex4] at t18
  refine CallL.q t18 ?_
  push_cast
  have t20 := c20 (Γ := Γ0) [0, 1] [0, 1] (by decide)
  rw [decide_eq_true rfl] at t20
  refine CallL.q t20 ?_
  push_cast
  have t20 := c20 (Γ := Γ0) [3, 4] [3, 4] (by decide)
  rw [decide_eq_true rfl] at t20
  refine CallL.q t20 ?_
  push_cast
  have t20 := c20 (Γ := Γ0) [1, 1, 1, 0] [1, 1, 1, 0] (by decide)
  rw [decide_eq_true rfl] at t20
  refine CallL.q t20 ?_
  push_cast
  have t23 := c23 (Γ := Γ0) (by simp [Γ0]) ⟨2, 2, [1, 1, 1, 0]⟩ (by decide) (by decide)
  rw [ex5] at t23
  refine CallL.q t23 ?_
  push_cast
  have t22 := c22 (Γ := Γ0) [[49, 32, 49], [49, 32, 48]] [[49, 32, 49], [49, 32, 48]] (by decide)
  rw [decide_eq_true rfl] at t22
  refine CallL.q t22 ?_
  push_cast
  have t23 := c23 (Γ := Γ0) (by simp [Γ0]) ⟨1, 2, [-1, 5]⟩ (by decide) (by decide)
  rw [ex6] at t23
  refine CallL.q t23 ?_
  push_cast
  have t22 := c22 (Γ := Γ0) [[45, 32, 53]] [[45, 32, 53]] (by decide)
  rw [decide_eq_true rfl] at t22
  refine CallL.q t22 ?_
  push_cast
end Go.Proofs
