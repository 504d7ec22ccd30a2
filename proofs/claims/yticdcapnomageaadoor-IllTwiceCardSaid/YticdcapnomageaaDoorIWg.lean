/- Part of a proof about this program; no condition of its own. -/
import Derived.Test.YticdcapnomageaaDoorIWf
set_option linter.all false
/- Walks of the chapters on loans between libraries, seventh part: small functions. -/
namespace Go.Proofs
open Go Go.Ax Go.Tx Go.Il
set_option maxRecDepth 100000
variable {Γ : List (Nat × List D)}
theorem c28 (s : Side) : AFn Tryd.prog Γ 28 [.agg (s.ds.map C.d)] [.d (.bool (overF s))] := by
  refine AFn.vc [] Tryd.func28 rfl Tryd.mixed (by kernel_rfl) Tryd.ntmps28 Tryd.results28 (by simp) ?_
  push_cast
  unfold overF
  repeat' (first | apply And.intro | intro _)
  all_goals simp_all
theorem c29 (s : Side) : AFn Tryd.prog Γ 29 [.agg (s.ds.map C.d)] [.d (.bool (overF s))] := by
  refine AFn.vc [] Tryd.func29 rfl Tryd.mixed (by kernel_rfl) Tryd.ntmps29 Tryd.results29 (by simp) ?_
  push_cast
  unfold overF
  repeat' (first | apply And.intro | intro _)
  all_goals simp_all
theorem c71 (r : Int) : AFn Tryd.prog Γ 71 [.c (.d (.int .i64 r))] [.d (.int .i64 (if r = 2 then 1 else 2))] := by
  refine AFn.vc [] Tryd.func71 rfl Tryd.mixed (by kernel_rfl) Tryd.ntmps71 Tryd.results71 (by simp) ?_
  push_cast
  exact ⟨fun h => by rw [if_pos h], fun h => by rw [if_neg h]⟩
theorem c101 (a b : Int) : AFn Tryd.prog Γ 101 [.c (.d (.int .i64 a)), .c (.d (.int .i64 b))] [.d (.int .i64 (imin a b))] := by
  refine AFn.vc [] Tryd.func101 rfl Tryd.mixed (by kernel_rfl) Tryd.ntmps101 Tryd.results101 (by simp) ?_
  push_cast
  unfold imin
  exact ⟨fun h => by rw [if_pos h], fun h => by rw [if_neg (by omega)]⟩
theorem c70_1 (kind : Int) : AFn Tryd.prog Γ 70 [.c (.d (.int .i64 1)), .c (.d (.int .i64 kind))] [.d (.bool (decide ((ofF kind).role = 1)))] := by
  rcases of_cases kind with ⟨e, h⟩ | rfl | rfl | rfl | rfl | rfl | rfl | rfl | rfl | rfl | rfl | rfl
  · rw [e]
    have e1 := eq_false (show ¬ kind = 1 by omega)
    have e2 := eq_false (show ¬ kind = 5 by omega)
    have e3 := eq_false (show ¬ kind = 6 by omega)
    have e4 := eq_false (show ¬ kind = 9 by omega)
    have e5 := eq_false (show ¬ kind = 11 by omega)
    refine AFn.vc [] Tryd.func70 rfl Tryd.mixed (by kernel_rfl) Tryd.ntmps70 Tryd.results70 (by simp) ?_
    push_cast [e1, e2, e3, e4, e5]
    rfl
  all_goals
    refine AFn.vc [] Tryd.func70 rfl Tryd.mixed (by kernel_rfl) Tryd.ntmps70 Tryd.results70 (by simp) ?_
    push_cast
    rfl
theorem c70_2 (kind : Int) : AFn Tryd.prog Γ 70 [.c (.d (.int .i64 2)), .c (.d (.int .i64 kind))] [.d (.bool (decide ((ofF kind).role = 2)))] := by
  rcases of_cases kind with ⟨e, h⟩ | rfl | rfl | rfl | rfl | rfl | rfl | rfl | rfl | rfl | rfl | rfl
  · rw [e]
    have e1 := eq_false (show ¬ kind = 1 by omega)
    have e2 := eq_false (show ¬ kind = 5 by omega)
    have e3 := eq_false (show ¬ kind = 6 by omega)
    have e4 := eq_false (show ¬ kind = 9 by omega)
    have e5 := eq_false (show ¬ kind = 11 by omega)
    refine AFn.vc [] Tryd.func70 rfl Tryd.mixed (by kernel_rfl) Tryd.ntmps70 Tryd.results70 (by simp) ?_
    push_cast [e1, e2, e3, e4, e5]
    have hr : kd0.role = 0 := rfl
    rw [hr]
    refine ⟨fun h1 => ?_, fun h1 => by simp⟩
    simp; omega
  all_goals
    refine AFn.vc [] Tryd.func70 rfl Tryd.mixed (by kernel_rfl) Tryd.ntmps70 Tryd.results70 (by simp) ?_
    push_cast
    rfl
theorem c75 (s : Side) (kind day : Int) : AFn Tryd.prog Γ 75 [.agg (s.ds.map C.d), .c (.d (.int .i64 kind)), .c (.d (.int .i64 day))] [.agg (becomeF s kind day).ds] := by
  rcases of_cases kind with ⟨e, h⟩ | rfl | rfl | rfl | rfl | rfl | rfl | rfl | rfl | rfl | rfl | rfl
  · have hb : becomeF s kind day = s := by unfold becomeF; rw [e]; rfl
    rw [hb]
    have e1 := eq_false (show ¬ kind = 1 by omega)
    have e2 := eq_false (show ¬ kind = 2 by omega)
    have e3 := eq_false (show ¬ kind = 3 by omega)
    have e4 := eq_false (show ¬ kind = 4 by omega)
    have e5 := eq_false (show ¬ kind = 5 by omega)
    have e6 := eq_false (show ¬ kind = 6 by omega)
    have e7 := eq_false (show ¬ kind = 7 by omega)
    have e8 := eq_false (show ¬ kind = 8 by omega)
    have e9 := eq_false (show ¬ kind = 9 by omega)
    have e10 := eq_false (show ¬ kind = 10 by omega)
    have e11 := eq_false (show ¬ kind = 11 by omega)
    refine AFn.vc [] Tryd.func75 rfl Tryd.mixed (by kernel_rfl) Tryd.ntmps75 Tryd.results75 (by simp) ?_
    push_cast [e1, e2, e3, e4, e5, e6, e7, e8, e9, e10, e11]
  case' inr.inr.inr.inr.inr.inr.inr.inr.inl =>
    refine AFn.vc [] Tryd.func75 rfl Tryd.mixed (by kernel_rfl) Tryd.ntmps75 Tryd.results75 (by simp) ?_
    push_cast
    refine CallL.q (c101 s.due day) ?_
    push_cast
    exact ⟨rfl, rfl, rfl, rfl, rfl, rfl, rfl, rfl, rfl⟩
  all_goals
    refine AFn.vc [] Tryd.func75 rfl Tryd.mixed (by kernel_rfl) Tryd.ntmps75 Tryd.results75 (by simp) ?_
    push_cast
    exact ⟨rfl, rfl, rfl, rfl, rfl, rfl, rfl, rfl, rfl⟩
end Go.Proofs
