/- Part of a proof about this program; no condition of its own. -/
import Derived.Test.YtglonmggpbajgaaDoorSWp
import Derived.Test.YtglonmggpbajgaaDoorGyC
import Derived.Test.YtglonmggpbajgaaDoorGyE
set_option linter.all false
/- Walks of the chapter on statistics: five statements. -/
namespace Go.Proofs
open Go Go.Ax Go.Sd
set_option maxRecDepth 100000
set_option maxHeartbeats 0
theorem c3 (x : Ev) (unit : Int) : AFn Tryd.prog Γ0 3 [.agg (x.ds.map C.d), .c (.d (.int .i64 unit))] [.d (.bool true)] := by
  refine AFn.vc [] Tryd.func3 rfl Tryd.mixed (by kernel_rfl) Tryd.ntmps3 Tryd.results3 (by simp) ?_
  push_cast
  refine CallL.q c10 ?_
  push_cast
  refine CallX.q (c11 x.day unit) ?_
  push_cast
  refine CallX.q (c12 x.day unit) ?_
  push_cast
  refine CallX.q (c13 x unit) ?_
  push_cast
  refine CallX.q (c14 x unit) ?_
  push_cast
theorem c4 (l : List Ev) (f t b : Int) (hok : ∀ x ∈ l, x.ok) : AFn Tryd.prog Γ0 4 [.c (.d (.lst 7 (l.map Ev.ds))), .c (.d (.int .i64 f)), .c (.d (.int .i64 t)), .c (.d (.int .i64 b))] [.d (.bool true)] := by
  refine AFn.vc [] Tryd.func4 rfl Tryd.mixed (by kernel_rfl) Tryd.ntmps4 Tryd.results4 (by simp) ?_
  push_cast
  refine CallL.q c10 ?_
  push_cast
  intro h
  refine CallL.q (c16 l f t b (by omega) hok) ?_
  push_cast
  refine CallL.q (c17 l f t b (by omega)) ?_
  push_cast
  have hlen : (tallyM l f t b).length ≤ 1000000 := by
    rw [tally_eq]
    unfold tallyF
    rw [List.length_map]
    have := valsF_le l f t b
    omega
  refine CallL.q (c15 (tallyM l f t b) (tallyF l f t b) hlen) ?_
  push_cast
  exact tally_eq l f t b
theorem c5 (l : List Ev) (f t b w : Int) (hok : ∀ x ∈ l, x.ok) : AFn Tryd.prog Γ0 5 [.c (.d (.lst 7 (l.map Ev.ds))), .c (.d (.int .i64 f)), .c (.d (.int .i64 t)), .c (.d (.int .i64 b)), .c (.d (.int .i64 w))] [.d (.bool true)] := by
  refine AFn.vc [] Tryd.func5 rfl Tryd.mixed (by kernel_rfl) Tryd.ntmps5 Tryd.results5 (by simp) ?_
  push_cast
  refine CallL.q c10 ?_
  push_cast
  intro h
  have h18 := c18 (Γ := Γ0) l f t b w (by omega) hok
  rw [cross_eq] at h18
  have h19 := c19 (Γ := Γ0) l f t b w (by omega)
  have hb1 : (crossF l f t b w).1.length ≤ 1000 ∧ (crossF l f t b w).2.1.length ≤ 1000 ∧ (crossF l f t b w).2.2.cells.length ≤ 1000000 := by
    have v1 := valsF_le l f t b
    have v2 := valsF_le l f t w
    unfold crossF
    split
    · simp
    · have hc := cellsK_len (l := l) (f := f) (t := t) (b := b) (w := w) (rows := valsF l f t b) (cols := valsF l f t w) (i := (valsF l f t b).length) (j := 0) (Nat.le_refl _) (Nat.zero_le _)
      rw [cellsK_end (by omega)] at hc
      have hm : ((valsF l f t b).length + 1) * (valsF l f t w).length ≤ 61 * 60 := Nat.mul_le_mul (by omega) (by omega)
      simp only
      omega
  generalize crossF l f t b w = X at *
  obtain ⟨p, q, u⟩ := X
  simp only at h18 h19 hb1
  refine CallL.q h18 ?_
  push_cast
  refine CallL.q h19 ?_
  push_cast
  have t20 := c20 (Γ := Γ0) p p (by omega)
  rw [decide_eq_true rfl] at t20
  refine CallL.q t20 ?_
  push_cast
  have t20 := c20 (Γ := Γ0) q q (by omega)
  rw [decide_eq_true rfl] at t20
  refine CallL.q t20 ?_
  push_cast
  have t21 := c21 (Γ := Γ0) u u (by omega)
  rw [decide_eq_true rfl] at t21
  refine CallL.q t21 ?_
  push_cast
theorem c6 (t : Tb) (hin : ∀ n ∈ t.cells, -9223372036854775808 ≤ n ∧ n ≤ 9223372036854775807) : AFn Tryd.prog Γ0 6 [.agg (t.ds.map C.d)] [.d (.bool true)] := by
  refine AFn.vc [] Tryd.func6 rfl Tryd.mixed (by kernel_rfl) Tryd.ntmps6 Tryd.results6 (by simp) ?_
  push_cast
  refine CallL.q c10 ?_
  push_cast
  intro h
  refine CallX.q (c23 (Γ := Γ0) (by simp [Γ0]) t (by omega) hin) ?_
  push_cast
  refine CallX.q (c24 t (by omega) hin) ?_
  push_cast
  have hpl : (printF t).length ≤ 1000000 := by
    unfold printF tbOk
    split
    · next h => simp only [decide_eq_true_eq] at h; rw [List.length_map, List.length_range]; omega
    · simp
  have t22 := c22 (Γ := Γ0) (printF t) (printF t) hpl
  rw [decide_eq_true rfl] at t22
  refine CallX.q t22 ?_
  push_cast
theorem c9 (l : List Ev) (hok : ∀ x ∈ l, x.ok) : AFn Tryd.prog Γ0 9 [.c (.d (.lst 7 (l.map Ev.ds)))] [.d (.bool true)] := by
  refine AFn.vc [] Tryd.func9 rfl Tryd.mixed (by kernel_rfl) Tryd.ntmps9 Tryd.results9 (by simp) ?_
  push_cast
  refine CallL.q c10 ?_
  push_cast
  intro h
  refine CallL.q (c27 l (by omega)) ?_
  push_cast
  refine CallL.q (c28 l (by omega)) ?_
  push_cast
end Go.Proofs
