/- Part of a proof about this program; no condition of its own. -/
import Derived.Test.YticdcapnomageaaDoorIWm
set_option linter.all false
/- Walks of the chapters on loans between libraries, fourteenth part: Ask, Open, Say. No condition. -/
namespace Go.Proofs
open Go Go.Ax Go.Tx Go.Il
set_option maxRecDepth 100000
variable {Γ : List (Nat × List D)}
def tab30 : List (List Bool × List Nat) := [([false, false, false, false, false], [0, 1]), ([true, false, false, false, false], [1, 2]), ([false, true, false, false, false], [0]), ([true, true, false, false, false], [2]), ([true, false, true, false, false], [1]), ([true, true, true, false, false], [3]), ([true, true, true, true, false], [4]), ([true, true, true, true, true], [])]
def tab32a : List (List Bool × List Nat) := [([false, false, false, false, false, false, false, false], [0, 3]), ([true, false, false, false, false, false, false, false], [1, 3]), ([false, false, false, true, false, false, false, false], [0, 4]), ([true, true, false, false, false, false, false, false], [2, 3]), ([true, false, false, true, false, false, false, false], [1, 4]), ([false, false, false, true, true, false, false, false], [0]), ([true, true, true, false, false, false, false, false], [3]), ([true, true, false, true, false, false, false, false], [2, 4]), ([true, false, false, true, true, false, false, false], [1]), ([true, true, true, true, false, false, false, false], [4]), ([true, true, false, true, true, false, false, false], [2]), ([true, true, true, true, true, false, false, false], [5]), ([true, true, true, true, true, true, false, false], [6]), ([true, true, true, true, true, true, true, false], [7]), ([true, true, true, true, true, true, true, true], [])]
def tab32b : List (List Bool × List Nat) := [([false, false, false, false, false], [0, 1]), ([true, false, false, false, false], [1, 2]), ([false, true, false, false, false], [0]), ([true, true, false, false, false], [2]), ([true, false, true, false, false], [1]), ([true, true, true, false, false], [3]), ([true, true, true, true, false], [4]), ([true, true, true, true, true], [])]
def openR (id : Int) (m : Msg) : Side := bif decide (openE id m = 0) then openS m else side0
theorem c36 (id : Int) (m : Msg) (hm : m.note.length ≤ 100000) : AFn Tryd.prog Γ0 36 [.c (.d (.int .i64 id)), .agg (m.ds.map C.d)] [.agg (openR id m).ds, .d (.int .i64 (openE id m))] := by
  refine AFn.vc [] Tryd.func36 rfl Tryd.mixed (by kernel_rfl) Tryd.ntmps36 Tryd.results36 (by simp) ?_
  push_cast
  refine CallL.q (c72 m hm) ?_
  push_cast
  have hF : (msgF m ≠ 0 ∨ m.dst ≠ id ∨ (ofF m.kind).role ≠ 1) → openE id m = 1 ∧ openR id m = side0 := fun c => by
    have : openE id m = 1 := by unfold openE; rw [decide_eq_true c]; rfl
    exact ⟨this, by unfold openR; rw [this]; rfl⟩
  have hT : ¬ (msgF m ≠ 0 ∨ m.dst ≠ id ∨ (ofF m.kind).role ≠ 1) → openE id m = 0 ∧ openR id m = openS m := fun c => by
    have : openE id m = 0 := by unfold openE; rw [decide_eq_false c]; rfl
    exact ⟨this, by unfold openR; rw [this]; rfl⟩
  refine ⟨fun a1 => ⟨fun a2 => ?_, fun a2 => ?_⟩, fun a1 => ?_⟩
  · refine CallL.q (c62 m.kind) ?_
    push_cast
    refine ⟨fun a3 => ?_, fun a3 => ?_⟩
    · rw [(hF (.inr (.inr a3))).1, (hF (.inr (.inr a3))).2]
      exact ⟨⟨rfl, rfl, rfl, rfl, rfl, rfl, rfl, rfl, rfl⟩, rfl⟩
    · have c : ¬ (msgF m ≠ 0 ∨ m.dst ≠ id ∨ (ofF m.kind).role ≠ 1) := by simp [a1, a2, a3]
      rw [(hT c).1, (hT c).2]
      exact ⟨⟨rfl, rfl, rfl, rfl, rfl, rfl, rfl, rfl, rfl⟩, rfl⟩
  · rw [(hF (.inr (.inl a2))).1, (hF (.inr (.inl a2))).2]
    exact ⟨⟨rfl, rfl, rfl, rfl, rfl, rfl, rfl, rfl, rfl⟩, rfl⟩
  · rw [(hF (.inl a1)).1, (hF (.inl a1)).2]
    exact ⟨⟨rfl, rfl, rfl, rfl, rfl, rfl, rfl, rfl, rfl⟩, rfl⟩
def askR (id request partner record day : Int) : Side := bif decide (askE id request partner record day = 0) then askS id request partner record day else side0
def askN (id request partner record day : Int) : Msg := bif decide (askE id request partner record day = 0) then askM id request partner record day else msg0
def askC (id request partner record day : Int) : List C := [.d (.int .i64 request), .d (.int .i64 partner), .d (.int .i64 1), .d (.int .i64 1), .d (.int .i64 record), .d (.int .i64 0), .d (.int .i64 0), .d (.lst 8 [(askM id request partner record day).ds]), .d (.raw (.slice none 0 0))]
theorem c30 (id rq pt rc dy : Int) : AFn Tryd.prog Γ 30 [.c (.d (.int .i64 id)), .c (.d (.int .i64 rq)), .c (.d (.int .i64 pt)), .c (.d (.int .i64 rc)), .c (.d (.int .i64 dy))] [.agg (askR id rq pt rc dy).ds, .agg (askN id rq pt rc dy).ds, .d (.int .i64 (askE id rq pt rc dy))] := by
  refine AFn.vc [1000007] Tryd.func30 rfl Tryd.mixed (by kernel_rfl) Tryd.ntmps30 Tryd.results30 (by simp) ?_
  push_cast
  have hF : ¬ (inB id 1 4 = true ∧ inB pt 1 4 = true ∧ inB rq 1 9999 = true ∧ inB rc 1 9999 = true ∧ inB dy 0 109572 = true) → askE id rq pt rc dy = 2 ∧ askR id rq pt rc dy = side0 ∧ askN id rq pt rc dy = msg0 := fun c => by
    have : askE id rq pt rc dy = 2 := by
      unfold askE
      cases h1 : (inB id 1 4 && inB pt 1 4 && inB rq 1 9999 && inB rc 1 9999 && inB dy 0 109572)
      · rfl
      · simp only [Bool.and_eq_true] at h1
        exact absurd ⟨h1.1.1.1.1, h1.1.1.1.2, h1.1.1.2, h1.1.2, h1.2⟩ c
    exact ⟨this, by unfold askR; rw [this]; rfl, by unfold askN; rw [this]; rfl⟩
  refine CallL.q (c67 id 1 4) ?_
  push_cast
  refine ⟨fun h1 => ?_, fun h1 => ?_⟩
  · refine CallL.q (c67 pt 1 4) ?_
    push_cast
    refine ⟨fun h2 => ?_, fun h2 => ?_⟩
    · refine CallL.q (c67 rq 1 9999) ?_
      push_cast
      refine ⟨fun h3 => ?_, fun h3 => ?_⟩
      · refine CallL.q (c67 rc 1 9999) ?_
        push_cast
        refine ⟨fun h4 => ?_, fun h4 => ?_⟩
        · refine CallL.q (c67 dy 0 109572) ?_
          push_cast
          refine ⟨fun h5 => ?_, fun h5 => ?_⟩
          · obtain ⟨e1, e2, e3⟩ := hF (by rw [h5]; simp)
            rw [e1, e2, e3]
            exact ⟨⟨rfl, rfl, rfl, rfl, rfl, rfl, rfl, rfl, rfl⟩, ⟨rfl, rfl, rfl, rfl, rfl, rfl, rfl, rfl⟩, rfl⟩
          · have e0 : askE id rq pt rc dy = if pt = id then 1 else 0 := by
              unfold askE; rw [h1, h2, h3, h4, h5]
              by_cases h6 : pt = id <;> simp [h6]
            refine ⟨fun h6 => ?_, fun h6 => ?_⟩
            · rw [if_pos h6] at e0
              have e1 : askR id rq pt rc dy = side0 := by unfold askR; rw [e0]; rfl
              have e2 : askN id rq pt rc dy = msg0 := by unfold askN; rw [e0]; rfl
              rw [e0, e1, e2]
              exact ⟨⟨rfl, rfl, rfl, rfl, rfl, rfl, rfl, rfl, rfl⟩, ⟨rfl, rfl, rfl, rfl, rfl, rfl, rfl, rfl⟩, rfl⟩
            · rw [if_neg h6] at e0
              have e1 : askR id rq pt rc dy = askS id rq pt rc dy := by unfold askR; rw [e0]; rfl
              have e2 : askN id rq pt rc dy = askM id rq pt rc dy := by unfold askN; rw [e0]; rfl
              rw [e0, e1, e2]
              refine RegV.tab (E := [1000007]) Tryd.mixed tab30 [some (59, .agg (askC id rq pt rc dy)), some (60, .agg ((askM id rq pt rc dy).ds.map C.d)), none, none, some (12, .c (.d (.int .i64 0)))]
                [none, none, some [.box 26 (askC id rq pt rc dy), .box 28 (msg0.ds.map C.d), .box 28 ((askM id rq pt rc dy).ds.map C.d), .box 26 (askC id rq pt rc dy)], some [.box 26 (askC id rq pt rc dy), .box 28 ((askM id rq pt rc dy).ds.map C.d), .box 28 ((askM id rq pt rc dy).ds.map C.d), .box 26 (askC id rq pt rc dy)], none] (by kernel_rfl) (by kernel_rfl) rfl ?_ ?_
              · push_cast [tab30, askC, askM, msg0]
              · push_cast [askC, askM, askS]
        · obtain ⟨e1, e2, e3⟩ := hF (by rw [h4]; simp)
          rw [e1, e2, e3]
          exact ⟨⟨rfl, rfl, rfl, rfl, rfl, rfl, rfl, rfl, rfl⟩, ⟨rfl, rfl, rfl, rfl, rfl, rfl, rfl, rfl⟩, rfl⟩
      · obtain ⟨e1, e2, e3⟩ := hF (by rw [h3]; simp)
        rw [e1, e2, e3]
        exact ⟨⟨rfl, rfl, rfl, rfl, rfl, rfl, rfl, rfl, rfl⟩, ⟨rfl, rfl, rfl, rfl, rfl, rfl, rfl, rfl⟩, rfl⟩
    · obtain ⟨e1, e2, e3⟩ := hF (by rw [h2]; simp)
      rw [e1, e2, e3]
      exact ⟨⟨rfl, rfl, rfl, rfl, rfl, rfl, rfl, rfl, rfl⟩, ⟨rfl, rfl, rfl, rfl, rfl, rfl, rfl, rfl⟩, rfl⟩
  · obtain ⟨e1, e2, e3⟩ := hF (by rw [h1]; simp)
    rw [e1, e2, e3]
    exact ⟨⟨rfl, rfl, rfl, rfl, rfl, rfl, rfl, rfl, rfl⟩, ⟨rfl, rfl, rfl, rfl, rfl, rfl, rfl, rfl⟩, rfl⟩
end Go.Proofs
