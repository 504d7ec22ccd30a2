/- Part of a proof about this program; no condition of its own. -/
import Derived.Test.YticdcapnomageaaDoorIWn
set_option linter.all false
/- Walks of the chapters on loans between libraries, fifteenth part: Say. No condition. -/
namespace Go.Proofs
open Go Go.Ax Go.Tx Go.Il
set_option maxRecDepth 100000
variable {Γ : List (Nat × List D)}
theorem app_in73' {n0 N : Nat} (env : Env) (s : Side) (q : Kd) (day : Int) (H : List LB) {o : Oper} {k : St → Prop} {t : Tok k} {x : Operand} {xs : List Operand} {ts : Array TypeId}
    (hH : ∃ b1 b2 b3, H = [b1, b2, b3] ∧ lowHs 4 [b1, b2, b3])
    (hk : k (St.put ⟨env, .box 26 ((appF q s day).ds.map C.d) :: H⟩ o.dst (.tup [])))
    (hop : o.op = .call { callee := .value x, args := xs.toArray, argTypes := ts } := by rfl) (hx : ev Γ0 env x = .c (.clo 73 []) := by rfl) (has : xs.map (ev Γ0 env) = [.agg (q.ds.map C.d), .c (.loc 0 0), .c (.d (.int .i64 day))] := by rfl) (hN : xs.length ≤ 33 := by decide) (hd : dstOk N o.dst := by first | trivial | (show (_ : Nat) < _; exact Nat.le_of_ble_eq_true rfl)) (h0 : n0 ≤ 4 := by exact Nat.le_of_ble_eq_true rfl) :
    CallL Tryd.prog ⟨n0, N, Γ0⟩ o ⟨env, .box 26 (s.ds.map C.d) :: H⟩ (.c (.clo 73 [])) [.agg (q.ds.map C.d), .c (.loc 0 0), .c (.d (.int .i64 day))] k t := by
  obtain ⟨b1, b2, b3, rfl, hl⟩ := hH
  refine CallL.inl0 (n := 33) [] Tryd.func73 rfl Tryd.mixed (by kernel_rfl) Tryd.ntmps73 Tryd.results73 ?_ hop hx has hN hd h0
  by_cases h1 : q.state = 0 <;> by_cases h2 : q.due = 1 <;> by_cases h3 : q.due = 2
  all_goals
    first | have e1 : (q.state = 0) = True := eq_true h1 | have e1 : (q.state = 0) = False := eq_false h1
    first | have e2 : (q.due = 1) = True := eq_true h2 | have e2 : (q.due = 1) = False := eq_false h2
    first | have e3 : (q.due = 2) = True := eq_true h3 | have e3 : (q.due = 2) = False := eq_false h3
    first
      | (exfalso; omega)
      | (push_cast [e1, e2, e3]
         simp only [appF, ne_eq, e1, e2, e3, not_true_eq_false, not_false_eq_true, if_true, if_false] at hk
         exact ⟨hl, hk⟩)
def sayR (id : Int) (s : Side) (kind day : Int) (note : List UInt8) : Side := bif decide (sayE id s kind day note = 0) then sayS id s kind day note else side0
def sayN (id : Int) (s : Side) (kind day : Int) (note : List UInt8) : Msg := bif decide (sayE id s kind day note = 0) then sayM id s kind day note else msg0
theorem c32 (id : Int) (s : Side) (kind day : Int) (note : List UInt8) (hs : s.sent.length ≤ 1000) (hn : note.length ≤ 100000) : AFn Tryd.prog Γ0 32 [.c (.d (.int .i64 id)), .agg (s.ds.map C.d), .c (.d (.int .i64 kind)), .c (.d (.int .i64 day)), .c (.d (.str note))] [.agg (sayR id s kind day note).ds, .agg (sayN id s kind day note).ds, .d (.int .i64 (sayE id s kind day note))] := by
  refine AFn.vc [60, 1000010, 1000011] Tryd.func32 rfl Tryd.mixed (by kernel_rfl) Tryd.ntmps32 Tryd.results32 (by simp) ?_
  push_cast
  have hF : sayE id s kind day note ≠ 0 → sayR id s kind day note = side0 ∧ sayN id s kind day note = msg0 := fun c => ⟨by unfold sayR; rw [decide_eq_false c]; rfl, by unfold sayN; rw [decide_eq_false c]; rfl⟩
  refine CallL.q (c20 s.role s.state kind) ?_
  push_cast
  refine ⟨fun h1 => ?_, fun h1 => ?_⟩
  · have e0 : sayE id s kind day note = 12 := by simp [sayE, h1]
    obtain ⟨e1, e2⟩ := hF (by omega)
    rw [e0, e1, e2]
    exact ⟨⟨rfl, rfl, rfl, rfl, rfl, rfl, rfl, rfl, rfl⟩, ⟨rfl, rfl, rfl, rfl, rfl, rfl, rfl, rfl⟩, rfl⟩
  refine ⟨fun h2 => ?_, fun h2 => ?_⟩
  · have e0 : sayE id s kind day note = 13 := by simp [sayE, h1, show 99 ≤ s.sent.length by omega]
    obtain ⟨e1, e2⟩ := hF (by omega)
    rw [e0, e1, e2]
    exact ⟨⟨rfl, rfl, rfl, rfl, rfl, rfl, rfl, rfl, rfl⟩, ⟨rfl, rfl, rfl, rfl, rfl, rfl, rfl, rfl⟩, rfl⟩
  · refine ⟨⟨by omega, by omega⟩, ?_⟩
    have e0 : sayE id s kind day note = msgF (sayM id s kind day note) := by simp [sayE, h1, show ¬ 99 ≤ s.sent.length by omega]
    refine CallL.q (c72 (sayM id s kind day note) hn) ?_
    push_cast
    refine ⟨fun h3 => ?_, fun h3 => ?_⟩
    · obtain ⟨e1, e2⟩ := hF (by rw [e0]; exact h3)
      rw [e0, e1, e2]
      exact ⟨⟨rfl, rfl, rfl, rfl, rfl, rfl, rfl, rfl, rfl⟩, ⟨rfl, rfl, rfl, rfl, rfl, rfl, rfl, rfl⟩, rfl⟩
    · have e00 : sayE id s kind day note = 0 := by rw [e0, h3]
      have e1 : sayR id s kind day note = sayS id s kind day note := by unfold sayR; rw [decide_eq_true e00]; rfl
      have e2 : sayN id s kind day note = sayM id s kind day note := by unfold sayN; rw [decide_eq_true e00]; rfl
      rw [e00, e1, e2]
      refine CallL.q (c62 kind) ?_
      push_cast
      refine app_in73' _ s (ofF kind) day _ ⟨_, _, _, rfl, by push_cast⟩ ?_
      obtain ⟨a, ha⟩ : ∃ a, appF (ofF kind) s day = a := ⟨_, rfl⟩
      have hsent : s.sent = a.sent := by rw [← ha]; rfl
      have hS : sayS id s kind day note = { a with sent := a.sent ++ [sayM id s kind day note] } := by unfold sayS; rw [become_app, ha, hsent]
      rw [ha, hS]
      obtain ⟨n, hn'⟩ : ∃ n, sayM id s kind day note = n := ⟨_, rfl⟩
      have hnd : ([.d (.int .i64 id), .d (.int .i64 s.ptn), .d (.int .i64 s.req), .d (.int .i64 ((s.sent.length : Int) + 1)), .d (.int .i64 kind), .d (.int .i64 s.rcd), .d (.int .i64 day), .d (.str note)] : List C) = n.ds.map C.d := by rw [← hn']; rfl
      push_cast
      refine RegV.tab (E := [60, 1000010, 1000011]) Tryd.mixed tab32a [some (58, .c (.loc 0 7)), some (59, .c (.d (.lst 8 (a.sent.map Msg.ds)))), some (60, .c (.own 4 0)), some (61, .agg ((sayM id s kind day note).ds.map C.d)), some (62, .c (.d (.lst 8 [(sayM id s kind day note).ds]))), some (63, .c (.own 4 1)), some (64, .c (.loc 0 7)), none]
        [none, none, some [.box 26 (a.ds.map C.d), .box 26 (Side.ds0 side0), .box 28 (msg0.ds.map C.d), .box 28 ((sayM id s kind day note).ds.map C.d), .row 28 8 (a.sent.map Msg.ds) 0], none, none, some [.box 26 (a.ds.map C.d), .box 26 (Side.ds0 side0), .box 28 (msg0.ds.map C.d), .box 28 ((sayM id s kind day note).ds.map C.d), .row 28 8 (a.sent.map Msg.ds ++ [(sayM id s kind day note).ds]) 1], none, some [.box 26 ((a.ds.map C.d).set 7 (.own 4 1)), .box 26 (Side.ds0 side0), .box 28 (msg0.ds.map C.d), .box 28 ((sayM id s kind day note).ds.map C.d), .row 28 8 (a.sent.map Msg.ds ++ [(sayM id s kind day note).ds]) 1]] (by kernel_rfl) (by kernel_rfl) rfl ?_ ?_
      · push_cast [tab32a, msg0, sayM]
        have hal : a.sent.length ≤ 1000 := by rw [← hsent]; exact hs
        repeat' (first | refine And.intro ?_ ?_ | (refine CallL.own (c74 a.sent (by omega)) ?_; push_cast))
        all_goals omega
      · push_cast [msg0, sayM]
        refine RegV.tab (E := [60, 1000010, 1000011]) Tryd.mixed tab32b [some (65, .agg ((a.ds.map C.d).set 7 (.own 4 1))), some (66, .agg ((sayM id s kind day note).ds.map C.d)), none, none, some (12, .c (.d (.int .i64 0)))]
          [none, none, some [.box 26 ((a.ds.map C.d).set 7 (.own 4 1)), .box 26 ((a.ds.map C.d).set 7 (.own 4 1)), .box 28 (msg0.ds.map C.d), .box 28 ((sayM id s kind day note).ds.map C.d), .row 28 8 (a.sent.map Msg.ds ++ [(sayM id s kind day note).ds]) 1], some [.box 26 ((a.ds.map C.d).set 7 (.own 4 1)), .box 26 ((a.ds.map C.d).set 7 (.own 4 1)), .box 28 ((sayM id s kind day note).ds.map C.d), .box 28 ((sayM id s kind day note).ds.map C.d), .row 28 8 (a.sent.map Msg.ds ++ [(sayM id s kind day note).ds]) 1], none] (by kernel_rfl) (by kernel_rfl) rfl ?_ ?_
        · push_cast [tab32b, msg0, sayM]
        · push_cast [msg0, sayM]
          rw [List.map_append]; rfl
end Go.Proofs
