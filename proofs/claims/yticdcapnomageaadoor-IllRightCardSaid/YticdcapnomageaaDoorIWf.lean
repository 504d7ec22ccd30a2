/- Part of a proof about this program; no condition of its own. -/
import Derived.Test.YticdcapnomageaaDoorIWe
set_option linter.all false
/- Walks of the chapters on loans between libraries, sixth part: what may be sent. -/
namespace Go.Il
open Go Go.Ax
def refAllow (role state kind : Int) : Bool :=
  if role = 1 then (decide (state = 3) && decide (kind = 5)) || (decide (state = 4) && (decide (kind = 6) || decide (kind = 9))) || ((decide (state = 1) || decide (state = 2)) && decide (kind = 11))
  else if role = 2 then (decide (state = 1) && (decide (kind = 2) || decide (kind = 3))) || (decide (state = 2) && decide (kind = 4)) || (decide (state = 5) && decide (kind = 7)) || (decide (state = 4) && decide (kind = 8)) || (decide (state = 6) && decide (kind = 10))
  else false
theorem of_cases (kind : Int) : (ofF kind = kd0 ∧ (kind < 1 ∨ 12 ≤ kind)) ∨ kind = 1 ∨ kind = 2 ∨ kind = 3 ∨ kind = 4 ∨ kind = 5 ∨ kind = 6 ∨ kind = 7 ∨ kind = 8 ∨ kind = 9 ∨ kind = 10 ∨ kind = 11 := by
  by_cases h : kind < 1 ∨ 12 ≤ kind
  · exact .inl ⟨by unfold ofF; rw [if_pos h], h⟩
  · right; omega
theorem allow_eq (role state kind : Int) : refAllow role state kind = allowF role state kind := by
  rcases of_cases kind with ⟨e, h⟩ | rfl | rfl | rfl | rfl | rfl | rfl | rfl | rfl | rfl | rfl | rfl
  · unfold allowF refAllow
    rw [e]
    simp only [kd0, hasF, List.any_nil, Bool.and_false]
    rw [Bool.eq_false_iff]
    intro q
    split at q
    · simp at q; omega
    · split at q
      · simp at q; omega
      · cases q
  all_goals
    unfold allowF refAllow
    rw [Bool.eq_iff_iff]
    simp [ofF, kinds, hasF]
    repeat' split
    all_goals (try simp); all_goals omega
end Go.Il
namespace Go.Proofs
open Go Go.Ax Go.Tx Go.Il
set_option maxRecDepth 100000
variable {Γ : List (Nat × List D)}
theorem sent_len (kind : Int) : (ofF kind).sent.length ≤ 1000000 ∧ (ofF kind).taken.length ≤ 1000000 := by
  rcases of_cases kind with ⟨e, h⟩ | rfl | rfl | rfl | rfl | rfl | rfl | rfl | rfl | rfl | rfl | rfl
  · rw [e]; decide
  all_goals decide
theorem c20 (role state kind : Int) : AFn Tryd.prog Γ0 20 [.c (.d (.int .i64 role)), .c (.d (.int .i64 state)), .c (.d (.int .i64 kind))] [.d (.bool (allowF role state kind))] := by
  refine AFn.vc [] Tryd.func20 rfl Tryd.mixed (by kernel_rfl) Tryd.ntmps20 Tryd.results20 (by simp) ?_
  push_cast
  refine CallL.q (c62 kind) ?_
  push_cast
  unfold allowF
  refine ⟨fun h => ?_, fun h => by rw [decide_eq_false h]; rfl⟩
  refine CallL.q (c63 (ofF kind).sent state (sent_len kind).1) ?_
  push_cast
  rw [decide_eq_true h]; rfl
theorem c21_b (state kind : Int) : AFn Tryd.prog Γ 21 [.c (.d (.int .i64 1)), .c (.d (.int .i64 state)), .c (.d (.int .i64 kind))] [.d (.bool (refAllow 1 state kind))] := by
  have hc : state = 3 ∨ state = 4 ∨ state = 1 ∨ state = 2 ∨ (state ≠ 3 ∧ state ≠ 4 ∧ state ≠ 1 ∧ state ≠ 2) := by omega
  rcases hc with rfl | rfl | rfl | rfl | ⟨h1, h2, h3, h4⟩
  all_goals refine AFn.vc [] Tryd.func21 rfl Tryd.mixed (by kernel_rfl) Tryd.ntmps21 Tryd.results21 (by simp) ?_
  rotate_right
  · have e0 : True := trivial
    have e1 := eq_false h1
    have e2 := eq_false h2
    have e3 := eq_false h3
    have e4 := eq_false h4
    push_cast [e1, e2, e3, e4]
    simp [refAllow, *]
  all_goals
    push_cast
    unfold refAllow
    repeat' (first | apply And.intro | intro _)
    all_goals simp_all
theorem c21_l (state kind : Int) : AFn Tryd.prog Γ 21 [.c (.d (.int .i64 2)), .c (.d (.int .i64 state)), .c (.d (.int .i64 kind))] [.d (.bool (refAllow 2 state kind))] := by
  have hc : state = 1 ∨ state = 2 ∨ state = 5 ∨ state = 4 ∨ state = 6 ∨ (state ≠ 1 ∧ state ≠ 2 ∧ state ≠ 5 ∧ state ≠ 4 ∧ state ≠ 6) := by omega
  rcases hc with rfl | rfl | rfl | rfl | rfl | ⟨h1, h2, h3, h4, h5⟩
  all_goals refine AFn.vc [] Tryd.func21 rfl Tryd.mixed (by kernel_rfl) Tryd.ntmps21 Tryd.results21 (by simp) ?_
  rotate_right
  · have e0 : True := trivial
    have e1 := eq_false h1
    have e2 := eq_false h2
    have e3 := eq_false h3
    have e4 := eq_false h4
    have e5 := eq_false h5
    push_cast [e1, e2, e3, e4, e5]
    simp [refAllow, *]
  all_goals
    push_cast
    unfold refAllow
    repeat' (first | apply And.intro | intro _)
    all_goals simp_all
theorem c21 (role state kind : Int) : AFn Tryd.prog Γ 21 [.c (.d (.int .i64 role)), .c (.d (.int .i64 state)), .c (.d (.int .i64 kind))] [.d (.bool (allowF role state kind))] := by
  rw [← allow_eq]
  by_cases h1 : role = 1
  · subst h1; exact c21_b state kind
  by_cases h2 : role = 2
  · subst h2; exact c21_l state kind
  refine AFn.vc [] Tryd.func21 rfl Tryd.mixed (by kernel_rfl) Tryd.ntmps21 Tryd.results21 (by simp) ?_
  have e1 := eq_false h1
  have e2 := eq_false h2
  push_cast [e1, e2]
  unfold refAllow
  rw [if_neg h1, if_neg h2]
end Go.Proofs
