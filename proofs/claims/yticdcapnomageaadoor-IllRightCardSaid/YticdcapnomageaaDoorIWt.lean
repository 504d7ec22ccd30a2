/- Part of a proof about this program; no condition of its own. -/
import Derived.Test.YticdcapnomageaaDoorIWs
set_option linter.all false
/- Walks of the chapters on loans between libraries, twentieth part: the reference's Say. No condition. -/
namespace Go.Proofs
open Go Go.Ax Go.Tx Go.Il
set_option maxRecDepth 100000
variable {Γ : List (Nat × List D)}
theorem c33 (id : Int) (s : Side) (kind day : Int) (note : List UInt8) (hs : s.sent.length ≤ 1000) (hn : note.length ≤ 100000) : AFn Tryd.prog Γ 33 [.c (.d (.int .i64 id)), .agg (s.ds.map C.d), .c (.d (.int .i64 kind)), .c (.d (.int .i64 day)), .c (.d (.str note))] [.agg (sayR id s kind day note).ds, .agg (sayN id s kind day note).ds, .d (.int .i64 (sayE id s kind day note))] := by
  refine AFn.vc [1000010, 1000011] Tryd.func33 rfl Tryd.mixed (by kernel_rfl) Tryd.ntmps33 Tryd.results33 (by simp) ?_
  push_cast
  have hF : sayE id s kind day note ≠ 0 → sayR id s kind day note = side0 ∧ sayN id s kind day note = msg0 := fun c => ⟨by unfold sayR; rw [decide_eq_false c]; rfl, by unfold sayN; rw [decide_eq_false c]; rfl⟩
  refine CallL.q (c21 s.role s.state kind) ?_
  push_cast
  refine ⟨fun h1 => ?_, fun h1 => ?_⟩
  · have e0 : sayE id s kind day note = 12 := by simp [sayE, h1]
    obtain ⟨e1, e2⟩ := hF (by omega)
    rw [e0, e1, e2]
    exact ⟨⟨rfl, rfl, rfl, rfl, rfl, rfl, rfl, rfl, rfl⟩, ⟨rfl, rfl, rfl, rfl, rfl, rfl, rfl, rfl⟩, rfl⟩
  refine ⟨fun h2 => ?_, fun h2 => ?_⟩
  · have e0 : sayE id s kind day note = 13 := by simp [sayE, h1, show 99 ≤ s.sent.length by omega]
    obtain ⟨e1, e2⟩ := hF (by omega)
    rw [e0, e1, e2]
    exact ⟨⟨rfl, rfl, rfl, rfl, rfl, rfl, rfl, rfl, rfl⟩, ⟨rfl, rfl, rfl, rfl, rfl, rfl, rfl, rfl⟩, rfl⟩
  · refine ⟨⟨by omega, by omega⟩, ?_⟩
    have e0 : sayE id s kind day note = msgF (sayM id s kind day note) := by simp [sayE, h1, show ¬ 99 ≤ s.sent.length by omega]
    refine CallL.q (c61 (sayM id s kind day note) hn) ?_
    push_cast
    refine ⟨fun h3 => ?_, fun h3 => ?_⟩
    · obtain ⟨e1, e2⟩ := hF (by rw [e0]; exact h3)
      rw [e0, e1, e2]
      exact ⟨⟨rfl, rfl, rfl, rfl, rfl, rfl, rfl, rfl, rfl⟩, ⟨rfl, rfl, rfl, rfl, rfl, rfl, rfl, rfl⟩, rfl⟩
    · have e00 : sayE id s kind day note = 0 := by rw [e0, h3]
      have e1 : sayR id s kind day note = sayS id s kind day note := by unfold sayR; rw [decide_eq_true e00]; rfl
      have e2 : sayN id s kind day note = sayM id s kind day note := by unfold sayN; rw [decide_eq_true e00]; rfl
      rw [e00, e1, e2]
      refine CallL.q (c75 s kind day) ?_
      obtain ⟨a, ha⟩ : ∃ a, becomeF s kind day = a := ⟨_, rfl⟩
      have hsent : s.sent = a.sent := by rw [← ha]; rfl
      have hS : sayS id s kind day note = { a with sent := a.sent ++ [sayM id s kind day note] } := by unfold sayS; rw [ha, hsent]
      rw [ha, hS]
      push_cast
      refine RegV.tab (E := [1000010, 1000011]) Tryd.mixed tab33a [some (56, .c (.own 4 0)), some (57, .c (.loc 0 7)), some (58, .c (.d (.lst 8 (a.sent.map Msg.ds)))), some (59, .c (.own 4 1)), some (60, .agg ((sayM id s kind day note).ds.map C.d)), some (61, .c (.d (.lst 8 [(sayM id s kind day note).ds]))), some (62, .c (.own 4 2)), some (63, .c (.loc 0 7)), none]
        [some [.box 26 (a.ds.map C.d), .box 26 (Side.ds0 side0), .box 28 (msg0.ds.map C.d), .box 28 ((sayM id s kind day note).ds.map C.d), .row 28 8 [] 0], none, none, some [.box 26 (a.ds.map C.d), .box 26 (Side.ds0 side0), .box 28 (msg0.ds.map C.d), .box 28 ((sayM id s kind day note).ds.map C.d), .row 28 8 (a.sent.map Msg.ds) 1], none, none, some [.box 26 (a.ds.map C.d), .box 26 (Side.ds0 side0), .box 28 (msg0.ds.map C.d), .box 28 ((sayM id s kind day note).ds.map C.d), .row 28 8 (a.sent.map Msg.ds ++ [(sayM id s kind day note).ds]) 2], none, some [.box 26 ((a.ds.map C.d).set 7 (.own 4 2)), .box 26 (Side.ds0 side0), .box 28 (msg0.ds.map C.d), .box 28 ((sayM id s kind day note).ds.map C.d), .row 28 8 (a.sent.map Msg.ds ++ [(sayM id s kind day note).ds]) 2]] (by kernel_rfl) (by kernel_rfl) rfl ?_ ?_
      · push_cast [tab33a, msg0, sayM]
        have hal : a.sent.length ≤ 1000 := by rw [← hsent]; exact hs
        exact ⟨⟨by omega, by omega⟩, ⟨by omega, by omega⟩, ⟨by omega, by omega⟩, by omega, by omega⟩
      · push_cast [msg0, sayM]
        refine RegV.tab (E := [1000010, 1000011]) Tryd.mixed tab33b [some (64, .agg ((a.ds.map C.d).set 7 (.own 4 2))), some (65, .agg ((sayM id s kind day note).ds.map C.d)), none, none, some (12, .c (.d (.int .i64 0)))]
          [none, none, some [.box 26 ((a.ds.map C.d).set 7 (.own 4 2)), .box 26 ((a.ds.map C.d).set 7 (.own 4 2)), .box 28 (msg0.ds.map C.d), .box 28 ((sayM id s kind day note).ds.map C.d), .row 28 8 (a.sent.map Msg.ds ++ [(sayM id s kind day note).ds]) 2], some [.box 26 ((a.ds.map C.d).set 7 (.own 4 2)), .box 26 ((a.ds.map C.d).set 7 (.own 4 2)), .box 28 ((sayM id s kind day note).ds.map C.d), .box 28 ((sayM id s kind day note).ds.map C.d), .row 28 8 (a.sent.map Msg.ds ++ [(sayM id s kind day note).ds]) 2], none] (by kernel_rfl) (by kernel_rfl) rfl ?_ ?_
        · push_cast [tab33b, msg0, sayM]
        · push_cast [msg0, sayM]
          rw [List.map_append]; rfl
end Go.Proofs
