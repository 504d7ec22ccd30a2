/- Part of a proof about this program; no condition of its own. -/
import Derived.Test.YticdcapnomageaaDoorIWk
import Derived.Test.YticdcapnomageaaDoorGxD
set_option linter.all false
/- Walks of the chapters on loans between libraries, twelfth part: what a side can hear, and what it does. No condition. -/
namespace Go.Proofs
open Go Go.Ax Go.Tx Go.Il
set_option maxRecDepth 100000
variable {Γ : List (Nat × List D)}
theorem c64 (id : Int) (s : Side) (m : Msg) (hr : -1000 ≤ s.role) (hr2 : s.role ≤ 1000) (hm : m.note.length ≤ 100000) : AFn Tryd.prog Γ0 64 [.c (.d (.int .i64 id)), .agg (s.ds.map C.d), .agg (m.ds.map C.d)] [.d (.bool (fitsF id s m))] := by
  refine AFn.vc [] Tryd.func64 rfl Tryd.mixed (by kernel_rfl) Tryd.ntmps64 Tryd.results64 (by simp) ?_
  push_cast
  refine CallX.q (c72 m hm) ?_
  push_cast
  have hF : ¬ (msgF m = 0 ∧ m.dst = id ∧ m.frm = s.ptn ∧ m.req = s.req ∧ (ofF m.kind).role = 3 - s.role) → false = fitsF id s m := fun c => by unfold fitsF; rw [decide_eq_false c]; rfl
  refine ⟨fun a1 => ?_, fun a1 => ?_⟩
  · refine ⟨fun a2 => ⟨fun a3 => ⟨fun a4 => ?_, ?_⟩, ?_⟩, ?_⟩
    · refine CallX.q (c62 m.kind) ?_
      push_cast
      refine CallX.q (c95 s.role hr hr2) ?_
      push_cast
      refine ⟨fun a5 => hF fun q => a5 q.2.2.2.2, fun a5 => ⟨fun a6 => ?_, fun a6 => ?_⟩⟩
      · unfold fitsF; rw [decide_eq_true (p := msgF m = 0 ∧ m.dst = id ∧ m.frm = s.ptn ∧ m.req = s.req ∧ (ofF m.kind).role = 3 - s.role) (show msgF m = 0 ∧ m.dst = id ∧ m.frm = s.ptn ∧ m.req = s.req ∧ (ofF m.kind).role = 3 - s.role from ⟨a1, a2, a3, a4, a5⟩), decide_eq_false a6, Bool.true_and, Bool.false_or]
      · unfold fitsF; rw [decide_eq_true (p := msgF m = 0 ∧ m.dst = id ∧ m.frm = s.ptn ∧ m.req = s.req ∧ (ofF m.kind).role = 3 - s.role) (show msgF m = 0 ∧ m.dst = id ∧ m.frm = s.ptn ∧ m.req = s.req ∧ (ofF m.kind).role = 3 - s.role from ⟨a1, a2, a3, a4, a5⟩), decide_eq_true a6]; rfl
    · exact fun a4 => hF fun q => a4 q.2.2.2.1
    · exact fun a4 => hF fun q => a4 q.2.2.1
    · exact fun a4 => hF fun q => a4 q.2.1
  · exact hF fun q => a1 q.1
def appF (x : Kd) (s : Side) (day : Int) : Side := { s with state := if x.state ≠ 0 then x.state else s.state, due := if x.due = 1 then day else if x.due = 2 then imin s.due day else s.due }
theorem become_app (s : Side) (kind day : Int) : becomeF s kind day = appF (ofF kind) s day := rfl
theorem app_in73 {n0 N : Nat} (env : Env) (s : Side) (q : Kd) (day : Int) (H : List LB) {o : Oper} {k : St → Prop} {t : Tok k} {x : Operand} {xs : List Operand} {ts : Array TypeId}
    (hH : ∃ b1 b2 b3 b4, H = [b1, b2, b3, b4] ∧ lowHs 5 [b1, b2, b3, b4])
    (hk : k (St.put ⟨env, .box 26 ((appF q s day).ds.map C.d) :: H⟩ o.dst (.tup [])))
    (hop : o.op = .call { callee := .value x, args := xs.toArray, argTypes := ts } := by rfl) (hx : ev Γ0 env x = .c (.clo 73 []) := by rfl) (has : xs.map (ev Γ0 env) = [.agg (q.ds.map C.d), .c (.loc 0 0), .c (.d (.int .i64 day))] := by rfl) (hN : xs.length ≤ 33 := by decide) (hd : dstOk N o.dst := by first | trivial | (show (_ : Nat) < _; exact Nat.le_of_ble_eq_true rfl)) (h0 : n0 ≤ 5 := by exact Nat.le_of_ble_eq_true rfl) :
    CallL Tryd.prog ⟨n0, N, Γ0⟩ o ⟨env, .box 26 (s.ds.map C.d) :: H⟩ (.c (.clo 73 [])) [.agg (q.ds.map C.d), .c (.loc 0 0), .c (.d (.int .i64 day))] k t := by
  obtain ⟨b1, b2, b3, b4, rfl, hl⟩ := hH
  refine CallL.inl0 (n := 33) [] Tryd.func73 rfl Tryd.mixed (by kernel_rfl) Tryd.ntmps73 Tryd.results73 ?_ hop hx has hN hd h0
  by_cases h1 : q.state = 0 <;> by_cases h2 : q.due = 1 <;> by_cases h3 : q.due = 2
  all_goals
    first | have e1 : (q.state = 0) = True := eq_true h1 | have e1 : (q.state = 0) = False := eq_false h1
    first | have e2 : (q.due = 1) = True := eq_true h2 | have e2 : (q.due = 1) = False := eq_false h2
    first | have e3 : (q.due = 2) = True := eq_true h3 | have e3 : (q.due = 2) = False := eq_false h3
    first
      | (exfalso; omega)
      | (push_cast [e1, e2, e3]
         simp only [appF, ne_eq, e1, e2, e3, not_true_eq_false, not_false_eq_true, if_true, if_false] at hk
         exact ⟨hl, hk⟩)
theorem take_in66 {n0 N : Nat} (env : Env) (s : Side) (m m0 : Msg) {o : Oper} {k : St → Prop} {t : Tok k} {x : Operand} {xs : List Operand} {ts : Array TypeId}
    (hk : k (St.put ⟨env, [.box 26 ((takeF s m).ds.map C.d), .box 28 (m0.ds.map C.d), .box 26 (Side.ds0 side0)]⟩ o.dst (.tup [])))
    (hh : -1000 ≤ s.heard) (hh2 : s.heard ≤ 1000)
    (hop : o.op = .call { callee := .value x, args := xs.toArray, argTypes := ts } := by rfl) (hx : ev Γ0 env x = .c (.clo 66 []) := by rfl) (has : xs.map (ev Γ0 env) = [.c (.loc 0 0), .agg (m.ds.map C.d)] := by rfl) (hN : xs.length ≤ 40 := by decide) (hd : dstOk N o.dst := by first | trivial | (show (_ : Nat) < _; exact Nat.le_of_ble_eq_true rfl)) (h0 : n0 ≤ 3 := by exact Nat.le_of_ble_eq_true rfl) :
    CallL Tryd.prog ⟨n0, N, Γ0⟩ o ⟨env, [.box 26 (s.ds.map C.d), .box 28 (m0.ds.map C.d), .box 26 (Side.ds0 side0)]⟩ (.c (.clo 66 [])) [.c (.loc 0 0), .agg (m.ds.map C.d)] k t := by
  refine CallL.inl0 (n := 40) [] Tryd.func66 rfl Tryd.mixed (by kernel_rfl) Tryd.ntmps66 Tryd.results66 ?_ hop hx has hN hd h0
  push_cast
  refine ⟨⟨by omega, by omega⟩, ?_⟩
  refine CallL.q (c62 m.kind) ?_
  push_cast
  have hlow : ∀ l : Kd, ∃ b1 b2 b3 b4, [LB.box 28 (m0.ds.map C.d), .box 26 (Side.ds0 side0), .box 28 (m.ds.map C.d), .box 83 (l.ds.map C.d)] = [b1, b2, b3, b4] ∧ lowHs 5 [b1, b2, b3, b4] := fun l => ⟨_, _, _, _, rfl, by push_cast⟩
  have take1 : (m.kind = 8 ∨ hasF (ofF m.kind).taken s.state = true) → m.kind = 1 → takeF s m = { appF (ofF m.kind) { s with heard := s.heard + 1 } m.day with rcd := m.rcd } := fun h h' => by
    simp only [takeF, become_app]; rw [if_pos h, if_pos h']
  have take2 : (m.kind = 8 ∨ hasF (ofF m.kind).taken s.state = true) → m.kind ≠ 1 → takeF s m = appF (ofF m.kind) { s with heard := s.heard + 1 } m.day := fun h h' => by
    simp only [takeF, become_app]; rw [if_pos h, if_neg h']
  have take3 : ¬ (m.kind = 8 ∨ hasF (ofF m.kind).taken s.state = true) → takeF s m = { s with heard := s.heard + 1 } := fun h => by
    simp only [takeF]; rw [if_neg h]
  by_cases g8 : m.kind = 8
  · have e8 : (m.kind = 8) = True := eq_true g8
    push_cast [e8]
    refine app_in73 _ { s with heard := s.heard + 1 } (ofF m.kind) m.day _ (hlow _) ?_
    push_cast [e8]
    refine ⟨fun h1 => by rw [take1 (.inl g8) h1] at hk; exact hk, fun h1 => by rw [take2 (.inl g8) h1] at hk; exact hk⟩
  · have e8 : (m.kind = 8) = False := eq_false g8
    push_cast [e8]
    refine CallX.q (c63 (ofF m.kind).taken s.state (sent_len m.kind).2) ?_
    push_cast [e8]
    refine ⟨fun hT => ?_, fun hT => ?_⟩
    · refine app_in73 _ { s with heard := s.heard + 1 } (ofF m.kind) m.day _ (hlow _) ?_
      push_cast [e8]
      refine ⟨fun h1 => by rw [take1 (.inr hT) h1] at hk; exact hk, fun h1 => by rw [take2 (.inr hT) h1] at hk; exact hk⟩
    · rw [take3 (by rw [hT]; simp [g8])] at hk; exact hk
end Go.Proofs
