/- Walks of the chapter on privacy, eighth part. -/
import Derived.Test.YtjnljbimandmcaaPWg
set_option linter.all false
namespace Go.Proofs
open Go Go.Ax Go.Pv
set_option maxRecDepth 100000
variable {Γ : List (Nat × List D)}
theorem hA : hideF ⟨2, 2, [1, 5, 6, 7]⟩ 3 = ⟨2, 2, [-1, -1, -1, -1]⟩ := by kernel_rfl
theorem hB : hideF ⟨2, 2, [5, 6, 7, 8]⟩ 3 = ⟨2, 2, [5, 6, 7, 8]⟩ := by kernel_rfl
theorem hC : hideF ⟨3, 3, [1, 2, 9, 2, 1, 9, 9, 9, 9]⟩ 3 = ⟨3, 3, [-1, -1, 9, -1, -1, 9, 9, 9, 9]⟩ := by kernel_rfl
def eqT (a b : Tab) : Bool := decide (a.rows = b.rows) && decide (a.cols = b.cols) && (a.cells == b.cells)
theorem c22' (a b : Tab) (ha : a.cells.length ≤ 1000000) (hb : b.cells.length ≤ 1000000) (h : eqT a b = true) : AFn Try.prog Γ 22 [.agg a.cs, .agg b.cs] [.d (.bool true)] := h ▸ c22 a b ha hb
theorem c23' (t u : Tab) (k : Int) (hl : t.cells.length ≤ 100) (h : hideF t k = u) : AFn Try.prog Γ 23 [.agg (t.ds.map C.d), .c (.d (.int .i64 k))] [.agg u.ds] := h ▸ c23 t k hl
theorem okA : Okn 2 2 [1, 5, 6, 7] := ⟨by decide, by decide, by decide, by decide, by decide⟩
theorem c12A : AFn Try.prog Γ 12 [.agg (Tab.cs ⟨2, 2, [1, 5, 6, 7]⟩)] [.d (.lst 1 [[.int .i64 6], [.int .i64 13]]), .d (.lst 1 [[.int .i64 7], [.int .i64 12]])] := c12 2 2 [1, 5, 6, 7] okA (by kernel_rfl)
theorem c14A : AFn Try.prog Γ 14 [.agg (Tab.cs ⟨2, 2, [1, 5, 6, 7]⟩)] [.d (.bool true)] := c14 2 2 [1, 5, 6, 7] okA
theorem c10A : AFn Try.prog Γ 10 [.agg (Tab.cs ⟨2, 2, [1, 5, 6, 7]⟩)] [.d (.bool true)] := c10 ⟨2, 2, [1, 5, 6, 7]⟩
def evs : List Ev := [⟨5, 0, 0, 0, 0, 7, 0⟩, ⟨9, 0, 0, 0, 0, 7, 0⟩]
theorem c20A : AFn Try.prog Γ 20 [.c (.bor 7 (evs.map Ev.ds)), .c (.d (.int .i64 7))] [.d (.int .i64 2)] := c20 evs 7 (by decide)
theorem c20B : AFn Try.prog Γ 20 [.c (.bor 7 ((evs.map (forgetE 9)).map Ev.ds)), .c (.d (.int .i64 7))] [.d (.int .i64 1)] := c20 (evs.map (forgetE 9)) 7 (by decide)
theorem c9 : AFn Try.prog Γ 9 [] [.d (.bool true)] := by
  refine AFn.vc [] Try.func9 rfl Try.mixed (by kernel_rfl) Try.ntmps9 Try.results9 (by simp) ?_
  push_cast
  refine CallX.q (c23' ⟨2, 2, [1, 5, 6, 7]⟩ _ 3 (by decide) hA) ?_
  push_cast
  refine CallX.q (c22' ⟨2, 2, [-1, -1, -1, -1]⟩ ⟨2, 2, [-1, -1, -1, -1]⟩ (by decide) (by decide) (by decide)) ?_
  push_cast
  refine CallX.q (c23' ⟨2, 2, [5, 6, 7, 8]⟩ _ 3 (by decide) hB) ?_
  push_cast
  refine CallX.q (c22' ⟨2, 2, [5, 6, 7, 8]⟩ ⟨2, 2, [5, 6, 7, 8]⟩ (by decide) (by decide) (by decide)) ?_
  push_cast
  refine CallX.q (c23' ⟨3, 3, [1, 2, 9, 2, 1, 9, 9, 9, 9]⟩ _ 3 (by decide) hC) ?_
  push_cast
  refine CallX.q (c22' ⟨3, 3, [-1, -1, 9, -1, -1, 9, 9, 9, 9]⟩ ⟨3, 3, [-1, -1, 9, -1, -1, 9, 9, 9, 9]⟩ (by decide) (by decide) (by decide)) ?_
  push_cast
  refine CallL.q c12A ?_
  push_cast
  refine CallL.q c20A ?_
  push_cast
  refine CallL.own (c18 evs 9 (by decide)) ?_
  push_cast
  refine CallL.q c20B ?_
  push_cast
  refine CallL.q c10A ?_
  push_cast
  refine CallL.q c14A ?_
  push_cast
end Go.Proofs
