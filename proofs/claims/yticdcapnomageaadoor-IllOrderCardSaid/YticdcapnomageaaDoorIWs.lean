/- Part of a proof about this program; no condition of its own. -/
import Derived.Test.YticdcapnomageaaDoorIWr
set_option linter.all false
/- Walks of the chapters on loans between libraries, nineteenth part: the references. No condition. -/
namespace Go.Proofs
open Go Go.Ax Go.Tx Go.Il
set_option maxRecDepth 100000
variable {Γ : List (Nat × List D)}
theorem c76 (s : Side) (m : Msg) (hh : -1000 ≤ s.heard) (hh2 : s.heard ≤ 1000) (h1 : 1 ≤ m.kind) (h2 : m.kind ≤ 11) : AFn Tryd.prog Γ 76 [.agg (s.ds.map C.d), .agg (m.ds.map C.d)] [.agg (takeF s m).ds] := by
  refine AFn.vc [] Tryd.func76 rfl Tryd.mixed (by kernel_rfl) Tryd.ntmps76 Tryd.results76 (by simp) ?_
  push_cast
  refine ⟨⟨by omega, by omega⟩, ?_⟩
  refine CallL.q (c102 s.state m.kind h1 h2) ?_
  push_cast
  have take1 : (m.kind = 8 ∨ hasF (ofF m.kind).taken s.state = true) → m.kind = 1 → takeF s m = { becomeF { s with heard := s.heard + 1 } m.kind m.day with rcd := m.rcd } := fun h h' => by
    simp only [takeF]; rw [if_pos h, if_pos h']
  have take2 : (m.kind = 8 ∨ hasF (ofF m.kind).taken s.state = true) → m.kind ≠ 1 → takeF s m = becomeF { s with heard := s.heard + 1 } m.kind m.day := fun h h' => by
    simp only [takeF]; rw [if_pos h, if_neg h']
  have take3 : ¬ (m.kind = 8 ∨ hasF (ofF m.kind).taken s.state = true) → takeF s m = { s with heard := s.heard + 1 } := fun h => by
    simp only [takeF]; rw [if_neg h]
  refine ⟨fun g => ?_, fun g => ?_⟩
  · refine CallL.q (c75 { s with heard := s.heard + 1 } m.kind m.day) ?_
    push_cast
    refine ⟨fun h => ?_, fun h => ?_⟩
    · rw [take1 g h]
      exact ⟨rfl, rfl, rfl, rfl, rfl, rfl, rfl, rfl, rfl⟩
    · rw [take2 g h]
      exact ⟨rfl, rfl, rfl, rfl, rfl, rfl, rfl, rfl, rfl⟩
  · rw [take3 (by rw [not_or, Bool.not_eq_true]; exact g)]
    exact ⟨rfl, rfl, rfl, rfl, rfl, rfl, rfl, rfl, rfl⟩
theorem c31 (id rq pt rc dy : Int) : AFn Tryd.prog Γ 31 [.c (.d (.int .i64 id)), .c (.d (.int .i64 rq)), .c (.d (.int .i64 pt)), .c (.d (.int .i64 rc)), .c (.d (.int .i64 dy))] [.agg (askR id rq pt rc dy).ds, .agg (askN id rq pt rc dy).ds, .d (.int .i64 (askE id rq pt rc dy))] := by
  refine AFn.vc [1000006] Tryd.func31 rfl Tryd.mixed (by kernel_rfl) Tryd.ntmps31 Tryd.results31 (by simp) ?_
  push_cast
  by_cases hr : 1 ≤ id ∧ id ≤ 4 ∧ 1 ≤ pt ∧ pt ≤ 4 ∧ 1 ≤ rq ∧ rq ≤ 9999 ∧ 1 ≤ rc ∧ rc ≤ 9999 ∧ 0 ≤ dy ∧ dy ≤ 109572
  · have er : (inB id 1 4 && inB pt 1 4 && inB rq 1 9999 && inB rc 1 9999 && inB dy 0 109572) = true := by
      simp only [Bool.and_eq_true, inB_iff]; omega
    by_cases hp : id = pt
    · have e0 : askE id rq pt rc dy = 1 := by unfold askE; rw [er]; simp [hp]
      have e1 : askR id rq pt rc dy = side0 := by unfold askR; rw [e0]; rfl
      have e2 : askN id rq pt rc dy = msg0 := by unfold askN; rw [e0]; rfl
      rw [e0, e1, e2]
      repeat' (first | exact ⟨⟨rfl, rfl, rfl, rfl, rfl, rfl, rfl, rfl, rfl⟩, ⟨rfl, rfl, rfl, rfl, rfl, rfl, rfl, rfl⟩, rfl⟩ | intro h | refine And.intro ?_ ?_ | (exfalso; omega))
    · have e0 : askE id rq pt rc dy = 0 := by unfold askE; rw [er]; simp [show ¬ pt = id from fun h => hp h.symm]
      have e1 : askR id rq pt rc dy = askS id rq pt rc dy := by unfold askR; rw [e0]; rfl
      have e2 : askN id rq pt rc dy = askM id rq pt rc dy := by unfold askN; rw [e0]; rfl
      rw [e0, e1, e2]
      obtain ⟨q1, q2, q3, q4, q5, q6, q7, q8, q9, q10⟩ := hr
      iterate 9 (refine ⟨fun _ => ?_, fun h => absurd h (by omega)⟩)
      refine ⟨fun h => absurd h (by omega), fun _ => ⟨fun h => absurd h hp, fun _ => ?_⟩⟩
      refine RegV.tab (E := [1000006]) Tryd.mixed tab31 [some (65, .c (.d (.int .i64 rq))), some (66, .c (.d (.int .i64 pt))), some (67, .c (.d (.int .i64 rc))), some (68, .agg ((askM id rq pt rc dy).ds.map C.d)), some (69, .c (.d (.lst 8 [(askM id rq pt rc dy).ds]))), some (70, .agg (askC id rq pt rc dy)), some (71, .agg ((askM id rq pt rc dy).ds.map C.d)), none, none, some (12, .c (.d (.int .i64 0)))]
        [none, none, none, none, none, none, none, some [.box 26 (askC id rq pt rc dy), .box 28 (msg0.ds.map C.d), .box 28 ((askM id rq pt rc dy).ds.map C.d)], some [.box 26 (askC id rq pt rc dy), .box 28 ((askM id rq pt rc dy).ds.map C.d), .box 28 ((askM id rq pt rc dy).ds.map C.d)], none] (by kernel_rfl) (by kernel_rfl) rfl ?_ ?_
      · push_cast [tab31, askC, askM, msg0]
      · push_cast [askC, askM, askS]
  · have er : (inB id 1 4 && inB pt 1 4 && inB rq 1 9999 && inB rc 1 9999 && inB dy 0 109572) = false := by
      rw [Bool.eq_false_iff]; simp only [Bool.and_eq_true, inB_iff, ne_eq]; omega
    have e0 : askE id rq pt rc dy = 2 := by unfold askE; rw [er]; rfl
    have e1 : askR id rq pt rc dy = side0 := by unfold askR; rw [e0]; rfl
    have e2 : askN id rq pt rc dy = msg0 := by unfold askN; rw [e0]; rfl
    rw [e0, e1, e2]
    repeat' (first | exact ⟨⟨rfl, rfl, rfl, rfl, rfl, rfl, rfl, rfl, rfl⟩, ⟨rfl, rfl, rfl, rfl, rfl, rfl, rfl, rfl⟩, rfl⟩ | intro h | refine And.intro ?_ ?_ | (exfalso; omega))
end Go.Proofs
