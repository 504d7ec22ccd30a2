/- Part of a proof about this program; no condition of its own. -/
import Derived.Test.YticdcapnomageaaDoorGyC
import Derived.Test.YticdcapnomageaaDoorGxD
set_option linter.all false
/- Walks of the chapters on loans between libraries, eleventh part: messages that come too early. No condition. -/
namespace Go.Proofs
open Go Go.Ax Go.Tx Go.Il
set_option maxRecDepth 100000
variable {Γ : List (Nat × List D)}
@[push_cast] theorem EqSt_self (a : St) : EqSt a a = True := eq_true rfl
def tab65 : List (List Bool × List Nat) := [([false, false, false, false, false, false, false, false, false], [0, 3, 4]), ([true, false, false, false, false, false, false, false, false], [1, 3, 4]), ([false, false, false, true, false, false, false, false, false], [0, 4]), ([false, false, false, false, true, false, false, false, false], [0, 3, 5]), ([true, true, false, false, false, false, false, false, false], [2, 3, 4]), ([true, false, false, true, false, false, false, false, false], [1, 4]), ([true, false, false, false, true, false, false, false, false], [1, 3, 5]), ([false, false, false, true, true, false, false, false, false], [0, 5]), ([false, false, false, false, true, true, false, false, false], [0, 3]), ([true, true, true, false, false, false, false, false, false], [3, 4]), ([true, true, false, true, false, false, false, false, false], [2, 4]), ([true, true, false, false, true, false, false, false, false], [2, 3, 5]), ([true, false, false, true, true, false, false, false, false], [1, 5]), ([true, false, false, false, true, true, false, false, false], [1, 3]), ([false, false, false, true, true, true, false, false, false], [0]), ([true, true, true, true, false, false, false, false, false], [4]), ([true, true, true, false, true, false, false, false, false], [3, 5]), ([true, true, false, true, true, false, false, false, false], [2, 5]), ([true, true, false, false, true, true, false, false, false], [2, 3]), ([true, false, false, true, true, true, false, false, false], [1]), ([true, true, true, true, true, false, false, false, false], [5]), ([true, true, true, false, true, true, false, false, false], [3]), ([true, true, false, true, true, true, false, false, false], [2]), ([true, true, true, true, true, true, false, false, false], [6]), ([true, true, true, true, true, true, true, false, false], [7]), ([true, true, true, true, true, true, true, true, false], [8]), ([true, true, true, true, true, true, true, true, true], [])]
def keepE (s : Side) (m : Msg) : Int := bif atN s.early m.seq then 0 else bif decide (8 ≤ s.early.length) then 13 else 0
def insL (l : List Msg) (m : Msg) : List Msg := l.take (lowN l m.seq) ++ [m] ++ l.drop (lowN l m.seq)
def keepS (s : Side) (m : Msg) : Side := bif atN s.early m.seq then s else bif decide (8 ≤ s.early.length) then side0 else { s with early := insL s.early m }
def Side.ds0 (_ : Side) : List C := [.d (.int .i64 0), .d (.int .i64 0), .d (.int .i64 0), .d (.int .i64 0), .d (.int .i64 0), .d (.int .i64 0), .d (.int .i64 0), .d (.raw (.slice none 0 0)), .d (.raw (.slice none 0 0))]
attribute [push_cast] Side.ds0
theorem c65 (s : Side) (m : Msg) (hl : s.early.length ≤ 1000000) (hs : AscS s.early) (hq : ∀ x ∈ s.early, inK .i64 (x.seq - m.seq)) :
    AFn Tryd.prog Γ 65 [.agg (s.ds.map C.d), .agg (m.ds.map C.d)] [.agg (keepS s m).ds, .d (.int .i64 (keepE s m))] := by
  refine AFn.vc [27, 1000006] Tryd.func65 rfl Tryd.mixed (by kernel_rfl) Tryd.ntmps65 Tryd.results65 (by simp) ?_
  push_cast
  refine CallL.q (c96 s.early m.seq hl hs hq) ?_ (.cons (ArgOk.bor rfl) (.cons ArgOk.d (.cons (ArgOk.clo (dss := []) (c97 (Γ := []) msg0 0 (by unfold inK; decide)).call rfl (fun a r h => by obtain ⟨x, q, h, rfl, rfl⟩ := h; exact c97 x q h)) .nil)))
  push_cast
  have hlow := lowN_le m.seq s.early
  refine ⟨fun h1 => ?_, fun h1 => ⟨fun h2 => ?_, fun h2 => ?_⟩⟩
  · have e1 : keepS s m = s := by simp [keepS, h1]
    have e2 : keepE s m = 0 := by simp [keepE, h1]
    rw [e1, e2]
    exact ⟨⟨rfl, rfl, rfl, rfl, rfl, rfl, rfl, rfl, rfl⟩, rfl⟩
  · have e1 : keepS s m = side0 := by simp [keepS, h1, show 8 ≤ s.early.length by omega]
    have e2 : keepE s m = 13 := by simp [keepE, h1, show 8 ≤ s.early.length by omega]
    rw [e1, e2]
    exact ⟨⟨rfl, rfl, rfl, rfl, rfl, rfl, rfl, rfl, rfl⟩, rfl⟩
  · have e1 : keepS s m = { s with early := insL s.early m } := by simp [keepS, h1, show ¬ 8 ≤ s.early.length by omega]
    have e2 : keepE s m = 0 := by simp [keepE, h1, show ¬ 8 ≤ s.early.length by omega]
    rw [e1, e2]
    have hins : (s.early.map Msg.ds).take (lowN s.early m.seq) ++ [m.ds] ++ (s.early.map Msg.ds).drop (lowN s.early m.seq) = (insL s.early m).map Msg.ds := by simp [insL]
    refine RegV.tab (E := [27, 1000006]) Tryd.mixed tab65 [some (25, .c (.loc 0 8)), some (26, .c (.d (.lst 8 (s.early.map Msg.ds)))), some (27, .c (.own 3 0)), some (28, .c (.d (.int .i64 (lowN s.early m.seq)))), some (29, .agg (m.ds.map C.d)), some (30, .c (.d (.lst 8 [m.ds]))), some (31, .c (.own 3 1)), some (32, .c (.loc 0 8)), none]
      [none, none, some [.box 26 (s.ds.map C.d), .box 28 (m.ds.map C.d), .box 26 (Side.ds0 side0), .row 28 8 (s.early.map Msg.ds) 0], none, none, none, some [.box 26 (s.ds.map C.d), .box 28 (m.ds.map C.d), .box 26 (Side.ds0 side0), .row 28 8 ((insL s.early m).map Msg.ds) 1], none, some [.box 26 ((s.ds.map C.d).set 8 (.own 3 1)), .box 28 (m.ds.map C.d), .box 26 (Side.ds0 side0), .row 28 8 ((insL s.early m).map Msg.ds) 1]] (by kernel_rfl) (by kernel_rfl) rfl ?_ ?_
    · push_cast [tab65]
      repeat' (first | refine And.intro ?_ ?_ | (refine CallL.own (c74 s.early hl) ?_; push_cast) | (refine CallL.insert (els := s.early.map Msg.ds) (m := m.ds) (p := lowN s.early m.seq) rfl (by simpa using hlow) (by rw [List.length_map]; omega) ?_; rw [hins]; push_cast))
    · push_cast
end Go.Proofs

/- Walks of the chapters on loans between libraries, twelfth part: what a side can hear, and what it does. No condition. -/
namespace Go.Proofs
open Go Go.Ax Go.Tx Go.Il
set_option maxRecDepth 100000
variable {Γ : List (Nat × List D)}
theorem c64 (id : Int) (s : Side) (m : Msg) (hr : -1000 ≤ s.role) (hr2 : s.role ≤ 1000) (hm : m.note.length ≤ 100000) : AFn Tryd.prog Γ0 64 [.c (.d (.int .i64 id)), .agg (s.ds.map C.d), .agg (m.ds.map C.d)] [.d (.bool (fitsF id s m))] := by
  refine AFn.vc [] Tryd.func64 rfl Tryd.mixed (by kernel_rfl) Tryd.ntmps64 Tryd.results64 (by simp) ?_
  push_cast
  refine CallX.q (c72 m hm) ?_
  push_cast
  have hF : ¬ (msgF m = 0 ∧ m.dst = id ∧ m.frm = s.ptn ∧ m.req = s.req ∧ (ofF m.kind).role = 3 - s.role) → false = fitsF id s m := fun c => by unfold fitsF; rw [decide_eq_false c]; rfl
  refine ⟨fun a1 => ?_, fun a1 => ?_⟩
  · refine ⟨fun a2 => ⟨fun a3 => ⟨fun a4 => ?_, ?_⟩, ?_⟩, ?_⟩
    · refine CallX.q (c62 m.kind) ?_
      push_cast
      refine CallX.q (c95 s.role hr hr2) ?_
      push_cast
      refine ⟨fun a5 => hF fun q => a5 q.2.2.2.2, fun a5 => ⟨fun a6 => ?_, fun a6 => ?_⟩⟩
      · unfold fitsF; rw [decide_eq_true (p := msgF m = 0 ∧ m.dst = id ∧ m.frm = s.ptn ∧ m.req = s.req ∧ (ofF m.kind).role = 3 - s.role) (show msgF m = 0 ∧ m.dst = id ∧ m.frm = s.ptn ∧ m.req = s.req ∧ (ofF m.kind).role = 3 - s.role from ⟨a1, a2, a3, a4, a5⟩), decide_eq_false a6, Bool.true_and, Bool.false_or]
      · unfold fitsF; rw [decide_eq_true (p := msgF m = 0 ∧ m.dst = id ∧ m.frm = s.ptn ∧ m.req = s.req ∧ (ofF m.kind).role = 3 - s.role) (show msgF m = 0 ∧ m.dst = id ∧ m.frm = s.ptn ∧ m.req = s.req ∧ (ofF m.kind).role = 3 - s.role from ⟨a1, a2, a3, a4, a5⟩), decide_eq_true a6]; rfl
    · exact fun a4 => hF fun q => a4 q.2.2.2.1
    · exact fun a4 => hF fun q => a4 q.2.2.1
    · exact fun a4 => hF fun q => a4 q.2.1
  · exact hF fun q => a1 q.1
def appF (x : Kd) (s : Side) (day : Int) : Side := { s with state := if x.state ≠ 0 then x.state else s.state, due := if x.due = 1 then day else if x.due = 2 then imin s.due day else s.due }
theorem become_app (s : Side) (kind day : Int) : becomeF s kind day = appF (ofF kind) s day := rfl
theorem app_in73 {n0 N : Nat} (env : Env) (s : Side) (q : Kd) (day : Int) (H : List LB) {o : Oper} {k : St → Prop} {t : Tok k} {x : Operand} {xs : List Operand} {ts : Array TypeId}
    (hH : ∃ b1 b2 b3 b4, H = [b1, b2, b3, b4] ∧ lowHs 5 [b1, b2, b3, b4])
    (hk : k (St.put ⟨env, .box 26 ((appF q s day).ds.map C.d) :: H⟩ o.dst (.tup [])))
    (hop : o.op = .call { callee := .value x, args := xs.toArray, argTypes := ts } := by rfl) (hx : ev Γ0 env x = .c (.clo 73 []) := by rfl) (has : xs.map (ev Γ0 env) = [.agg (q.ds.map C.d), .c (.loc 0 0), .c (.d (.int .i64 day))] := by rfl) (hN : xs.length ≤ 33 := by decide) (hd : dstOk N o.dst := by first | trivial | (show (_ : Nat) < _; exact Nat.le_of_ble_eq_true rfl)) (h0 : n0 ≤ 5 := by exact Nat.le_of_ble_eq_true rfl) :
    CallL Tryd.prog ⟨n0, N, Γ0⟩ o ⟨env, .box 26 (s.ds.map C.d) :: H⟩ (.c (.clo 73 [])) [.agg (q.ds.map C.d), .c (.loc 0 0), .c (.d (.int .i64 day))] k t := by
  obtain ⟨b1, b2, b3, b4, rfl, hl⟩ := hH
  refine CallL.inl0 (n := 33) [] Tryd.func73 rfl Tryd.mixed (by kernel_rfl) Tryd.ntmps73 Tryd.results73 ?_ hop hx has hN hd h0
  by_cases h1 : q.state = 0 <;> by_cases h2 : q.due = 1 <;> by_cases h3 : q.due = 2
  all_goals
    first | have e1 : (q.state = 0) = True := eq_true h1 | have e1 : (q.state = 0) = False := eq_false h1
    first | have e2 : (q.due = 1) = True := eq_true h2 | have e2 : (q.due = 1) = False := eq_false h2
    first | have e3 : (q.due = 2) = True := eq_true h3 | have e3 : (q.due = 2) = False := eq_false h3
    first
      | (exfalso; omega)
      | (push_cast [e1, e2, e3]
         simp only [appF, ne_eq, e1, e2, e3, not_true_eq_false, not_false_eq_true, if_true, if_false] at hk
         exact ⟨hl, hk⟩)
theorem take_in66 {n0 N : Nat} (env : Env) (s : Side) (m m0 : Msg) {o : Oper} {k : St → Prop} {t : Tok k} {x : Operand} {xs : List Operand} {ts : Array TypeId}
    (hk : k (St.put ⟨env, [.box 26 ((takeF s m).ds.map C.d), .box 28 (m0.ds.map C.d), .box 26 (Side.ds0 side0)]⟩ o.dst (.tup [])))
    (hh : -1000 ≤ s.heard) (hh2 : s.heard ≤ 1000)
    (hop : o.op = .call { callee := .value x, args := xs.toArray, argTypes := ts } := by rfl) (hx : ev Γ0 env x = .c (.clo 66 []) := by rfl) (has : xs.map (ev Γ0 env) = [.c (.loc 0 0), .agg (m.ds.map C.d)] := by rfl) (hN : xs.length ≤ 40 := by decide) (hd : dstOk N o.dst := by first | trivial | (show (_ : Nat) < _; exact Nat.le_of_ble_eq_true rfl)) (h0 : n0 ≤ 3 := by exact Nat.le_of_ble_eq_true rfl) :
    CallL Tryd.prog ⟨n0, N, Γ0⟩ o ⟨env, [.box 26 (s.ds.map C.d), .box 28 (m0.ds.map C.d), .box 26 (Side.ds0 side0)]⟩ (.c (.clo 66 [])) [.c (.loc 0 0), .agg (m.ds.map C.d)] k t := by
  refine CallL.inl0 (n := 40) [] Tryd.func66 rfl Tryd.mixed (by kernel_rfl) Tryd.ntmps66 Tryd.results66 ?_ hop hx has hN hd h0
  push_cast
  refine ⟨⟨by omega, by omega⟩, ?_⟩
  refine CallL.q (c62 m.kind) ?_
  push_cast
  have hlow : ∀ l : Kd, ∃ b1 b2 b3 b4, [LB.box 28 (m0.ds.map C.d), .box 26 (Side.ds0 side0), .box 28 (m.ds.map C.d), .box 83 (l.ds.map C.d)] = [b1, b2, b3, b4] ∧ lowHs 5 [b1, b2, b3, b4] := fun l => ⟨_, _, _, _, rfl, by push_cast⟩
  have take1 : (m.kind = 8 ∨ hasF (ofF m.kind).taken s.state = true) → m.kind = 1 → takeF s m = { appF (ofF m.kind) { s with heard := s.heard + 1 } m.day with rcd := m.rcd } := fun h h' => by
    simp only [takeF, become_app]; rw [if_pos h, if_pos h']
  have take2 : (m.kind = 8 ∨ hasF (ofF m.kind).taken s.state = true) → m.kind ≠ 1 → takeF s m = appF (ofF m.kind) { s with heard := s.heard + 1 } m.day := fun h h' => by
    simp only [takeF, become_app]; rw [if_pos h, if_neg h']
  have take3 : ¬ (m.kind = 8 ∨ hasF (ofF m.kind).taken s.state = true) → takeF s m = { s with heard := s.heard + 1 } := fun h => by
    simp only [takeF]; rw [if_neg h]
  by_cases g8 : m.kind = 8
  · have e8 : (m.kind = 8) = True := eq_true g8
    push_cast [e8]
    refine app_in73 _ { s with heard := s.heard + 1 } (ofF m.kind) m.day _ (hlow _) ?_
    push_cast [e8]
    refine ⟨fun h1 => by rw [take1 (.inl g8) h1] at hk; exact hk, fun h1 => by rw [take2 (.inl g8) h1] at hk; exact hk⟩
  · have e8 : (m.kind = 8) = False := eq_false g8
    push_cast [e8]
    refine CallX.q (c63 (ofF m.kind).taken s.state (sent_len m.kind).2) ?_
    push_cast [e8]
    refine ⟨fun hT => ?_, fun hT => ?_⟩
    · refine app_in73 _ { s with heard := s.heard + 1 } (ofF m.kind) m.day _ (hlow _) ?_
      push_cast [e8]
      refine ⟨fun h1 => by rw [take1 (.inr hT) h1] at hk; exact hk, fun h1 => by rw [take2 (.inr hT) h1] at hk; exact hk⟩
    · rw [take3 (by rw [hT]; simp [g8])] at hk; exact hk
end Go.Proofs

/- Walks of the chapters on loans between libraries, thirteenth part: Hear. No condition. -/
namespace Go.Proofs
open Go Go.Ax Go.Tx Go.Il
set_option maxRecDepth 100000
variable {Γ : List (Nat × List D)}
def drain (s : Side) : List Msg → Side
  | [] => { s with early := [] }
  | m :: r => if m.seq = s.heard + 1 then drain (takeF s m) r else { s with early := m :: r }
def hearS (id : Int) (s : Side) (m : Msg) : Side :=
  bif !fitsF id s m then side0 else bif decide (m.seq ≤ s.heard) then s else bif decide (s.heard + 1 < m.seq) then keepS s m else drain (takeF s m) s.early
def hearE (id : Int) (s : Side) (m : Msg) : Int :=
  bif !fitsF id s m then 1 else bif decide (m.seq ≤ s.heard) then 0 else bif decide (s.heard + 1 < m.seq) then keepE s m else 0
theorem take_heard (s : Side) (m : Msg) : (takeF s m).heard = s.heard + 1 ∧ (takeF s m).early = s.early ∧ (takeF s m).sent = s.sent ∧ (takeF s m).role = s.role ∧ (takeF s m).req = s.req ∧ (takeF s m).ptn = s.ptn := by
  simp only [takeF, becomeF]
  split
  · split <;> exact ⟨rfl, rfl, rfl, rfl, rfl, rfl⟩
  · exact ⟨rfl, rfl, rfl, rfl, rfl, rfl⟩
theorem take_early (s : Side) (m : Msg) (a : List Msg) : takeF { s with early := a } m = { takeF s m with early := a } := by
  simp only [takeF, becomeF]
  split
  · split <;> rfl
  · rfl
theorem drain_early : ∀ (l : List Msg) (s : Side) (a : List Msg), drain { s with early := a } l = drain s l
  | [], _, _ => rfl
  | m :: r, s, a => by
    show (if m.seq = s.heard + 1 then drain (takeF { s with early := a } m) r else _) = (if m.seq = s.heard + 1 then drain (takeF s m) r else _)
    rw [take_early, drain_early r]
theorem early_asc (s : Side) : ∀ (l : List Msg) (last : Int), earlyL s last l = true → (∀ m ∈ l, last < m.seq ∧ msgF m = 0) ∧ AscS l
  | [], _, _ => ⟨by simp, fun i j hi => by simp at hi⟩
  | m :: r, last, h => by
    rw [earlyL, Bool.and_eq_true, decide_eq_true_eq] at h
    obtain ⟨⟨h1, _, _, _, _, h2⟩, h3⟩ := h
    obtain ⟨h4, h5⟩ := early_asc s r m.seq h3
    refine ⟨fun x hx => ?_, fun i j hi hj hij => ?_⟩
    · rcases List.mem_cons.1 hx with rfl | hx
      · exact ⟨h2, h1⟩
      · have := (h4 x hx).1; exact ⟨by omega, (h4 x hx).2⟩
    · cases i with
      | zero =>
        cases j with
        | zero => omega
        | succ j => exact (h4 _ (List.getElem_mem (by simpa using hj))).1
      | succ i =>
        cases j with
        | zero => omega
        | succ j => exact h5 i j (by simpa using hi) (by simpa using hj) (by omega)
theorem msg_seq {m : Msg} (h : msgF m = 0) : 1 ≤ m.seq ∧ m.seq ≤ 99 := by
  unfold msgF at h
  cases h1 : (inB m.frm 1 4 && inB m.dst 1 4) <;> rw [h1] at h
  · cases h
  · cases h2 : decide (m.frm = m.dst) <;> rw [h2] at h
    · cases h3 : (inB m.req 1 9999 && inB m.seq 1 99) <;> rw [h3] at h
      · cases h
      · rw [Bool.and_eq_true] at h3
        exact inB_iff.1 h3.2
    · cases h
theorem side_val {s : Side} (h : sideF s = 0) : (1 ≤ s.req ∧ s.req ≤ 9999) ∧ (1 ≤ s.ptn ∧ s.ptn ≤ 4) ∧ (0 ≤ s.rcd ∧ s.rcd ≤ 9999) ∧ (0 ≤ s.due ∧ s.due ≤ 109572) ∧ (0 ≤ s.heard ∧ s.heard ≤ 99) ∧ (s.role = 1 ∨ s.role = 2) ∧ (0 ≤ s.state ∧ s.state ≤ 9) ∧ (s.state = 0 ↔ s.role = 2 ∧ s.heard = 0) ∧ s.sent.length ≤ 99 ∧ s.early.length ≤ 8 ∧ sentL s 0 s.sent = true ∧ earlyL s (s.heard + 1) s.early = true := by
  unfold sideF at h
  cases h1 : (inB s.req 1 9999 && inB s.ptn 1 4 && inB s.rcd 0 9999 && inB s.due 0 109572 && inB s.heard 0 99) <;> rw [h1] at h
  · cases h
  rcases Bool.eq_false_or_eq_true (decide (s.role ≠ 2 ∧ s.role ≠ 1) || !inB s.state 0 9) with h2 | h2
  · rw [h2] at h; cases h
  rw [h2] at h
  rcases Bool.eq_false_or_eq_true (decide (s.state = 0 ∧ (s.role ≠ 2 ∨ s.heard ≠ 0)) || decide (s.state ≠ 0 ∧ s.role = 2 ∧ s.heard = 0)) with h3 | h3
  · rw [h3] at h; cases h
  rw [h3] at h
  rcases Bool.eq_false_or_eq_true (decide (99 < s.sent.length ∨ 8 < s.early.length)) with h4 | h4
  · rw [h4] at h; cases h
  rw [h4] at h
  cases h5 : (sentL s 0 s.sent && earlyL s (s.heard + 1) s.early) <;> rw [h5] at h
  · cases h
  simp only [Bool.and_eq_true, inB_iff] at h1
  rw [Bool.or_eq_false_iff, decide_eq_false_iff_not, Bool.not_eq_false', inB_iff] at h2
  rw [Bool.or_eq_false_iff, decide_eq_false_iff_not, decide_eq_false_iff_not] at h3
  rw [decide_eq_false_iff_not] at h4
  rw [Bool.and_eq_true] at h5
  obtain ⟨⟨⟨⟨a1, a2⟩, a3⟩, a4⟩, a5⟩ := h1
  exact ⟨a1, a2, a3, a4, a5, by omega, h2.2, ⟨fun q => by have := h3.1; omega, fun q => by have := h3.2; omega⟩, by omega, by omega, h5⟩
def hearK (s : Side) : Prop := AscS s.early ∧ (∀ x ∈ s.early, 1 ≤ x.seq ∧ x.seq ≤ 99) ∧ s.early.length ≤ 8 ∧ 0 ≤ s.heard ∧ s.heard ≤ 99 ∧ (s.role = 1 ∨ s.role = 2)
theorem hearK_of {s : Side} (h : sideF s = 0) : hearK s := by
  obtain ⟨_, _, _, _, h1, h2, _, _, _, h3, _, h4⟩ := side_val h
  obtain ⟨h5, h6⟩ := early_asc s _ _ h4
  exact ⟨h6, fun x hx => msg_seq (h5 x hx).2, h3, h1.1, h1.2, h2⟩
theorem c23 (id : Int) (s : Side) (m : Msg) (hK : hearK s) (hm : m.note.length ≤ 100000) :
    AFn Tryd.prog Γ0 23 [.c (.d (.int .i64 id)), .agg (s.ds.map C.d), .agg (m.ds.map C.d)] [.agg (hearS id s m).ds, .d (.int .i64 (hearE id s m))] := by
  obtain ⟨k1, k2, k3, k4, k5, k6⟩ := hK
  refine AFn.vc [] Tryd.func23 rfl Tryd.mixed (by kernel_rfl) Tryd.ntmps23 Tryd.results23 (by simp) ?_
  push_cast
  refine CallL.q (c64 id s m (by omega) (by omega) hm) ?_
  push_cast
  have hfit : fitsF id s m = true → 1 ≤ m.seq ∧ m.seq ≤ 99 := fun h => by
    unfold fitsF at h
    rw [Bool.and_eq_true, decide_eq_true_eq] at h
    exact msg_seq h.1.1
  refine ⟨fun h1 => ?_, fun h1 => ?_⟩
  · have e1 : hearS id s m = side0 := by simp [hearS, h1]
    have e2 : hearE id s m = 1 := by simp [hearE, h1]
    rw [e1, e2]
    exact ⟨⟨rfl, rfl, rfl, rfl, rfl, rfl, rfl, rfl, rfl⟩, rfl⟩
  have hq := hfit h1
  refine ⟨fun h2 => ?_, fun h2 => ⟨⟨by omega, by omega⟩, fun h3 => ?_, fun h3 => ?_⟩⟩
  · have e1 : hearS id s m = s := by simp [hearS, h1, h2]
    have e2 : hearE id s m = 0 := by simp [hearE, h1, h2]
    rw [e1, e2]
    exact ⟨⟨rfl, rfl, rfl, rfl, rfl, rfl, rfl, rfl, rfl⟩, rfl⟩
  · have e1 : hearS id s m = keepS s m := by simp [hearS, h1, h3, show ¬ m.seq ≤ s.heard by omega]
    have e2 : hearE id s m = keepE s m := by simp [hearE, h1, h3, show ¬ m.seq ≤ s.heard by omega]
    rw [e1, e2]
    refine CallL.q (c65 s m (by omega) k1 (fun x hx => by have := k2 x hx; exact ⟨by show (-9223372036854775808 : Int) ≤ _; omega, by show _ ≤ (9223372036854775807 : Int); omega⟩)) ?_
    push_cast
  · have e1 : hearS id s m = drain (takeF s m) s.early := by simp [hearS, h1, show ¬ m.seq ≤ s.heard by omega, show ¬ s.heard + 1 < m.seq by omega]
    have e2 : hearE id s m = 0 := by simp [hearE, h1, show ¬ m.seq ≤ s.heard by omega, show ¬ s.heard + 1 < m.seq by omega]
    rw [e1, e2]
    refine take_in66 _ s m m ?_ (by omega) (by omega)
    push_cast
    refine LoopV.of Tryd.mixed [4, 6, 7] (fun _ : Side => []) (fun s' => [.box 26 (s'.ds.map C.d), .box 28 (m.ds.map C.d), .box 26 (Side.ds0 side0)]) (fun s' => drain s' s'.early = drain (takeF s m) s.early ∧ 0 ≤ s'.heard ∧ s'.heard + s'.early.length ≤ 200 ∧ s'.early.length ≤ 8) (fun s' => s'.early.length) (takeF s m) ?_ (by push_cast) ?_
    · obtain ⟨t1, t2, _⟩ := take_heard s m
      rw [t1, t2]
      exact ⟨rfl, by omega, by omega, by omega⟩
    · rintro s' ⟨i1, i2, i3, i4⟩
      push_cast
      have hend : (∀ h : 0 < s'.early.length, ¬ s'.early[0].seq = s'.heard + 1) → drain s' s'.early = s' := fun h => by
        cases he : s'.early with
        | nil => show ({ s' with early := [] } : Side) = s'; rw [← he]
        | cons x r =>
          have := h (by rw [he]; simp)
          simp only [he, List.getElem_cons_zero] at this
          show (if x.seq = s'.heard + 1 then drain (takeF s' x) r else { s' with early := x :: r }) = s'
          rw [if_neg this, ← he]
      refine ⟨fun h5 => ⟨by omega, ⟨by omega, by omega⟩, fun h6 => ⟨by omega, ?_⟩, fun h6 => ?_⟩, fun h5 => ?_⟩
      · refine take_in66 _ s' (s'.early[0]'(by omega)) m ?_ (by omega) (by omega)
        push_cast
        obtain ⟨t1, t2, _⟩ := take_heard s' (s'.early[0]'(by omega))
        refine ⟨by rw [t2]; omega, { takeF s' (s'.early[0]'(by omega)) with early := s'.early.drop 1 }, ⟨⟨?_, by show 0 ≤ (takeF s' _).heard; omega, ?_, by simp; omega⟩, by simp; omega⟩, rfl, rfl, rfl, rfl, rfl, rfl, rfl, rfl, ?_⟩
        · rw [← i1]
          show drain { takeF s' _ with early := _ } (s'.early.drop 1) = _
          rw [drain_early]
          have hc : s'.early = (s'.early[0]'(by omega)) :: s'.early.drop 1 := by
            have := List.drop_eq_getElem_cons (show 0 < s'.early.length by omega)
            simpa using this
          conv => rhs; rw [hc]
          show _ = (if (s'.early[0]'(by omega)).seq = s'.heard + 1 then drain (takeF s' _) (s'.early.drop 1) else _)
          rw [if_pos h6]
        · show (takeF s' _).heard + ((s'.early.drop 1).length : Int) ≤ 200
          rw [t1, List.length_drop]; omega
        · show List.take _ _ = List.map Msg.ds (s'.early.drop 1)
          rw [t2, List.map_drop]
          exact List.take_of_length_le (by simp)
      · rw [← i1, hend fun _ => h6]
        exact ⟨rfl, rfl, rfl, rfl, rfl, rfl, rfl, rfl, rfl⟩
      · rw [← i1, hend fun h => by omega]
        exact ⟨rfl, rfl, rfl, rfl, rfl, rfl, rfl, rfl, rfl⟩
end Go.Proofs

/- Walks of the chapters on loans between libraries, fourteenth part: Ask, Open, Say. No condition. -/
namespace Go.Proofs
open Go Go.Ax Go.Tx Go.Il
set_option maxRecDepth 100000
variable {Γ : List (Nat × List D)}
def tab30 : List (List Bool × List Nat) := [([false, false, false, false, false], [0, 1]), ([true, false, false, false, false], [1, 2]), ([false, true, false, false, false], [0]), ([true, true, false, false, false], [2]), ([true, false, true, false, false], [1]), ([true, true, true, false, false], [3]), ([true, true, true, true, false], [4]), ([true, true, true, true, true], [])]
def tab32a : List (List Bool × List Nat) := [([false, false, false, false, false, false, false, false], [0, 3]), ([true, false, false, false, false, false, false, false], [1, 3]), ([false, false, false, true, false, false, false, false], [0, 4]), ([true, true, false, false, false, false, false, false], [2, 3]), ([true, false, false, true, false, false, false, false], [1, 4]), ([false, false, false, true, true, false, false, false], [0]), ([true, true, true, false, false, false, false, false], [3]), ([true, true, false, true, false, false, false, false], [2, 4]), ([true, false, false, true, true, false, false, false], [1]), ([true, true, true, true, false, false, false, false], [4]), ([true, true, false, true, true, false, false, false], [2]), ([true, true, true, true, true, false, false, false], [5]), ([true, true, true, true, true, true, false, false], [6]), ([true, true, true, true, true, true, true, false], [7]), ([true, true, true, true, true, true, true, true], [])]
def tab32b : List (List Bool × List Nat) := [([false, false, false, false, false], [0, 1]), ([true, false, false, false, false], [1, 2]), ([false, true, false, false, false], [0]), ([true, true, false, false, false], [2]), ([true, false, true, false, false], [1]), ([true, true, true, false, false], [3]), ([true, true, true, true, false], [4]), ([true, true, true, true, true], [])]
def openR (id : Int) (m : Msg) : Side := bif decide (openE id m = 0) then openS m else side0
theorem c36 (id : Int) (m : Msg) (hm : m.note.length ≤ 100000) : AFn Tryd.prog Γ0 36 [.c (.d (.int .i64 id)), .agg (m.ds.map C.d)] [.agg (openR id m).ds, .d (.int .i64 (openE id m))] := by
  refine AFn.vc [] Tryd.func36 rfl Tryd.mixed (by kernel_rfl) Tryd.ntmps36 Tryd.results36 (by simp) ?_
  push_cast
  refine CallL.q (c72 m hm) ?_
  push_cast
  have hF : (msgF m ≠ 0 ∨ m.dst ≠ id ∨ (ofF m.kind).role ≠ 1) → openE id m = 1 ∧ openR id m = side0 := fun c => by
    have : openE id m = 1 := by unfold openE; rw [decide_eq_true c]; rfl
    exact ⟨this, by unfold openR; rw [this]; rfl⟩
  have hT : ¬ (msgF m ≠ 0 ∨ m.dst ≠ id ∨ (ofF m.kind).role ≠ 1) → openE id m = 0 ∧ openR id m = openS m := fun c => by
    have : openE id m = 0 := by unfold openE; rw [decide_eq_false c]; rfl
    exact ⟨this, by unfold openR; rw [this]; rfl⟩
  refine ⟨fun a1 => ⟨fun a2 => ?_, fun a2 => ?_⟩, fun a1 => ?_⟩
  · refine CallL.q (c62 m.kind) ?_
    push_cast
    refine ⟨fun a3 => ?_, fun a3 => ?_⟩
    · rw [(hF (.inr (.inr a3))).1, (hF (.inr (.inr a3))).2]
      exact ⟨⟨rfl, rfl, rfl, rfl, rfl, rfl, rfl, rfl, rfl⟩, rfl⟩
    · have c : ¬ (msgF m ≠ 0 ∨ m.dst ≠ id ∨ (ofF m.kind).role ≠ 1) := by simp [a1, a2, a3]
      rw [(hT c).1, (hT c).2]
      exact ⟨⟨rfl, rfl, rfl, rfl, rfl, rfl, rfl, rfl, rfl⟩, rfl⟩
  · rw [(hF (.inr (.inl a2))).1, (hF (.inr (.inl a2))).2]
    exact ⟨⟨rfl, rfl, rfl, rfl, rfl, rfl, rfl, rfl, rfl⟩, rfl⟩
  · rw [(hF (.inl a1)).1, (hF (.inl a1)).2]
    exact ⟨⟨rfl, rfl, rfl, rfl, rfl, rfl, rfl, rfl, rfl⟩, rfl⟩
def askR (id request partner record day : Int) : Side := bif decide (askE id request partner record day = 0) then askS id request partner record day else side0
def askN (id request partner record day : Int) : Msg := bif decide (askE id request partner record day = 0) then askM id request partner record day else msg0
def askC (id request partner record day : Int) : List C := [.d (.int .i64 request), .d (.int .i64 partner), .d (.int .i64 1), .d (.int .i64 1), .d (.int .i64 record), .d (.int .i64 0), .d (.int .i64 0), .d (.lst 8 [(askM id request partner record day).ds]), .d (.raw (.slice none 0 0))]
theorem c30 (id rq pt rc dy : Int) : AFn Tryd.prog Γ 30 [.c (.d (.int .i64 id)), .c (.d (.int .i64 rq)), .c (.d (.int .i64 pt)), .c (.d (.int .i64 rc)), .c (.d (.int .i64 dy))] [.agg (askR id rq pt rc dy).ds, .agg (askN id rq pt rc dy).ds, .d (.int .i64 (askE id rq pt rc dy))] := by
  refine AFn.vc [1000007] Tryd.func30 rfl Tryd.mixed (by kernel_rfl) Tryd.ntmps30 Tryd.results30 (by simp) ?_
  push_cast
  have hF : ¬ (inB id 1 4 = true ∧ inB pt 1 4 = true ∧ inB rq 1 9999 = true ∧ inB rc 1 9999 = true ∧ inB dy 0 109572 = true) → askE id rq pt rc dy = 2 ∧ askR id rq pt rc dy = side0 ∧ askN id rq pt rc dy = msg0 := fun c => by
    have : askE id rq pt rc dy = 2 := by
      unfold askE
      cases h1 : (inB id 1 4 && inB pt 1 4 && inB rq 1 9999 && inB rc 1 9999 && inB dy 0 109572)
      · rfl
      · simp only [Bool.and_eq_true] at h1
        exact absurd ⟨h1.1.1.1.1, h1.1.1.1.2, h1.1.1.2, h1.1.2, h1.2⟩ c
    exact ⟨this, by unfold askR; rw [this]; rfl, by unfold askN; rw [this]; rfl⟩
  refine CallL.q (c67 id 1 4) ?_
  push_cast
  refine ⟨fun h1 => ?_, fun h1 => ?_⟩
  · refine CallL.q (c67 pt 1 4) ?_
    push_cast
    refine ⟨fun h2 => ?_, fun h2 => ?_⟩
    · refine CallL.q (c67 rq 1 9999) ?_
      push_cast
      refine ⟨fun h3 => ?_, fun h3 => ?_⟩
      · refine CallL.q (c67 rc 1 9999) ?_
        push_cast
        refine ⟨fun h4 => ?_, fun h4 => ?_⟩
        · refine CallL.q (c67 dy 0 109572) ?_
          push_cast
          refine ⟨fun h5 => ?_, fun h5 => ?_⟩
          · obtain ⟨e1, e2, e3⟩ := hF (by rw [h5]; simp)
            rw [e1, e2, e3]
            exact ⟨⟨rfl, rfl, rfl, rfl, rfl, rfl, rfl, rfl, rfl⟩, ⟨rfl, rfl, rfl, rfl, rfl, rfl, rfl, rfl⟩, rfl⟩
          · have e0 : askE id rq pt rc dy = if pt = id then 1 else 0 := by
              unfold askE; rw [h1, h2, h3, h4, h5]
              by_cases h6 : pt = id <;> simp [h6]
            refine ⟨fun h6 => ?_, fun h6 => ?_⟩
            · rw [if_pos h6] at e0
              have e1 : askR id rq pt rc dy = side0 := by unfold askR; rw [e0]; rfl
              have e2 : askN id rq pt rc dy = msg0 := by unfold askN; rw [e0]; rfl
              rw [e0, e1, e2]
              exact ⟨⟨rfl, rfl, rfl, rfl, rfl, rfl, rfl, rfl, rfl⟩, ⟨rfl, rfl, rfl, rfl, rfl, rfl, rfl, rfl⟩, rfl⟩
            · rw [if_neg h6] at e0
              have e1 : askR id rq pt rc dy = askS id rq pt rc dy := by unfold askR; rw [e0]; rfl
              have e2 : askN id rq pt rc dy = askM id rq pt rc dy := by unfold askN; rw [e0]; rfl
              rw [e0, e1, e2]
              refine RegV.tab (E := [1000007]) Tryd.mixed tab30 [some (59, .agg (askC id rq pt rc dy)), some (60, .agg ((askM id rq pt rc dy).ds.map C.d)), none, none, some (12, .c (.d (.int .i64 0)))]
                [none, none, some [.box 26 (askC id rq pt rc dy), .box 28 (msg0.ds.map C.d), .box 28 ((askM id rq pt rc dy).ds.map C.d), .box 26 (askC id rq pt rc dy)], some [.box 26 (askC id rq pt rc dy), .box 28 ((askM id rq pt rc dy).ds.map C.d), .box 28 ((askM id rq pt rc dy).ds.map C.d), .box 26 (askC id rq pt rc dy)], none] (by kernel_rfl) (by kernel_rfl) rfl ?_ ?_
              · push_cast [tab30, askC, askM, msg0]
              · push_cast [askC, askM, askS]
        · obtain ⟨e1, e2, e3⟩ := hF (by rw [h4]; simp)
          rw [e1, e2, e3]
          exact ⟨⟨rfl, rfl, rfl, rfl, rfl, rfl, rfl, rfl, rfl⟩, ⟨rfl, rfl, rfl, rfl, rfl, rfl, rfl, rfl⟩, rfl⟩
      · obtain ⟨e1, e2, e3⟩ := hF (by rw [h3]; simp)
        rw [e1, e2, e3]
        exact ⟨⟨rfl, rfl, rfl, rfl, rfl, rfl, rfl, rfl, rfl⟩, ⟨rfl, rfl, rfl, rfl, rfl, rfl, rfl, rfl⟩, rfl⟩
    · obtain ⟨e1, e2, e3⟩ := hF (by rw [h2]; simp)
      rw [e1, e2, e3]
      exact ⟨⟨rfl, rfl, rfl, rfl, rfl, rfl, rfl, rfl, rfl⟩, ⟨rfl, rfl, rfl, rfl, rfl, rfl, rfl, rfl⟩, rfl⟩
  · obtain ⟨e1, e2, e3⟩ := hF (by rw [h1]; simp)
    rw [e1, e2, e3]
    exact ⟨⟨rfl, rfl, rfl, rfl, rfl, rfl, rfl, rfl, rfl⟩, ⟨rfl, rfl, rfl, rfl, rfl, rfl, rfl, rfl⟩, rfl⟩
end Go.Proofs

/- Walks of the chapters on loans between libraries, fifteenth part: Say. No condition. -/
namespace Go.Proofs
open Go Go.Ax Go.Tx Go.Il
set_option maxRecDepth 100000
variable {Γ : List (Nat × List D)}
theorem app_in73' {n0 N : Nat} (env : Env) (s : Side) (q : Kd) (day : Int) (H : List LB) {o : Oper} {k : St → Prop} {t : Tok k} {x : Operand} {xs : List Operand} {ts : Array TypeId}
    (hH : ∃ b1 b2 b3, H = [b1, b2, b3] ∧ lowHs 4 [b1, b2, b3])
    (hk : k (St.put ⟨env, .box 26 ((appF q s day).ds.map C.d) :: H⟩ o.dst (.tup [])))
    (hop : o.op = .call { callee := .value x, args := xs.toArray, argTypes := ts } := by rfl) (hx : ev Γ0 env x = .c (.clo 73 []) := by rfl) (has : xs.map (ev Γ0 env) = [.agg (q.ds.map C.d), .c (.loc 0 0), .c (.d (.int .i64 day))] := by rfl) (hN : xs.length ≤ 33 := by decide) (hd : dstOk N o.dst := by first | trivial | (show (_ : Nat) < _; exact Nat.le_of_ble_eq_true rfl)) (h0 : n0 ≤ 4 := by exact Nat.le_of_ble_eq_true rfl) :
    CallL Tryd.prog ⟨n0, N, Γ0⟩ o ⟨env, .box 26 (s.ds.map C.d) :: H⟩ (.c (.clo 73 [])) [.agg (q.ds.map C.d), .c (.loc 0 0), .c (.d (.int .i64 day))] k t := by
  obtain ⟨b1, b2, b3, rfl, hl⟩ := hH
  refine CallL.inl0 (n := 33) [] Tryd.func73 rfl Tryd.mixed (by kernel_rfl) Tryd.ntmps73 Tryd.results73 ?_ hop hx has hN hd h0
  by_cases h1 : q.state = 0 <;> by_cases h2 : q.due = 1 <;> by_cases h3 : q.due = 2
  all_goals
    first | have e1 : (q.state = 0) = True := eq_true h1 | have e1 : (q.state = 0) = False := eq_false h1
    first | have e2 : (q.due = 1) = True := eq_true h2 | have e2 : (q.due = 1) = False := eq_false h2
    first | have e3 : (q.due = 2) = True := eq_true h3 | have e3 : (q.due = 2) = False := eq_false h3
    first
      | (exfalso; omega)
      | (push_cast [e1, e2, e3]
         simp only [appF, ne_eq, e1, e2, e3, not_true_eq_false, not_false_eq_true, if_true, if_false] at hk
         exact ⟨hl, hk⟩)
def sayR (id : Int) (s : Side) (kind day : Int) (note : List UInt8) : Side := bif decide (sayE id s kind day note = 0) then sayS id s kind day note else side0
def sayN (id : Int) (s : Side) (kind day : Int) (note : List UInt8) : Msg := bif decide (sayE id s kind day note = 0) then sayM id s kind day note else msg0
theorem c32 (id : Int) (s : Side) (kind day : Int) (note : List UInt8) (hs : s.sent.length ≤ 1000) (hn : note.length ≤ 100000) : AFn Tryd.prog Γ0 32 [.c (.d (.int .i64 id)), .agg (s.ds.map C.d), .c (.d (.int .i64 kind)), .c (.d (.int .i64 day)), .c (.d (.str note))] [.agg (sayR id s kind day note).ds, .agg (sayN id s kind day note).ds, .d (.int .i64 (sayE id s kind day note))] := by
  refine AFn.vc [60, 1000010, 1000011] Tryd.func32 rfl Tryd.mixed (by kernel_rfl) Tryd.ntmps32 Tryd.results32 (by simp) ?_
  push_cast
  have hF : sayE id s kind day note ≠ 0 → sayR id s kind day note = side0 ∧ sayN id s kind day note = msg0 := fun c => ⟨by unfold sayR; rw [decide_eq_false c]; rfl, by unfold sayN; rw [decide_eq_false c]; rfl⟩
  refine CallL.q (c20 s.role s.state kind) ?_
  push_cast
  refine ⟨fun h1 => ?_, fun h1 => ?_⟩
  · have e0 : sayE id s kind day note = 12 := by simp [sayE, h1]
    obtain ⟨e1, e2⟩ := hF (by omega)
    rw [e0, e1, e2]
    exact ⟨⟨rfl, rfl, rfl, rfl, rfl, rfl, rfl, rfl, rfl⟩, ⟨rfl, rfl, rfl, rfl, rfl, rfl, rfl, rfl⟩, rfl⟩
  refine ⟨fun h2 => ?_, fun h2 => ?_⟩
  · have e0 : sayE id s kind day note = 13 := by simp [sayE, h1, show 99 ≤ s.sent.length by omega]
    obtain ⟨e1, e2⟩ := hF (by omega)
    rw [e0, e1, e2]
    exact ⟨⟨rfl, rfl, rfl, rfl, rfl, rfl, rfl, rfl, rfl⟩, ⟨rfl, rfl, rfl, rfl, rfl, rfl, rfl, rfl⟩, rfl⟩
  · refine ⟨⟨by omega, by omega⟩, ?_⟩
    have e0 : sayE id s kind day note = msgF (sayM id s kind day note) := by simp [sayE, h1, show ¬ 99 ≤ s.sent.length by omega]
    refine CallL.q (c72 (sayM id s kind day note) hn) ?_
    push_cast
    refine ⟨fun h3 => ?_, fun h3 => ?_⟩
    · obtain ⟨e1, e2⟩ := hF (by rw [e0]; exact h3)
      rw [e0, e1, e2]
      exact ⟨⟨rfl, rfl, rfl, rfl, rfl, rfl, rfl, rfl, rfl⟩, ⟨rfl, rfl, rfl, rfl, rfl, rfl, rfl, rfl⟩, rfl⟩
    · have e00 : sayE id s kind day note = 0 := by rw [e0, h3]
      have e1 : sayR id s kind day note = sayS id s kind day note := by unfold sayR; rw [decide_eq_true e00]; rfl
      have e2 : sayN id s kind day note = sayM id s kind day note := by unfold sayN; rw [decide_eq_true e00]; rfl
      rw [e00, e1, e2]
      refine CallL.q (c62 kind) ?_
      push_cast
      refine app_in73' _ s (ofF kind) day _ ⟨_, _, _, rfl, by push_cast⟩ ?_
      obtain ⟨a, ha⟩ : ∃ a, appF (ofF kind) s day = a := ⟨_, rfl⟩
      have hsent : s.sent = a.sent := by rw [← ha]; rfl
      have hS : sayS id s kind day note = { a with sent := a.sent ++ [sayM id s kind day note] } := by unfold sayS; rw [become_app, ha, hsent]
      rw [ha, hS]
      obtain ⟨n, hn'⟩ : ∃ n, sayM id s kind day note = n := ⟨_, rfl⟩
      have hnd : ([.d (.int .i64 id), .d (.int .i64 s.ptn), .d (.int .i64 s.req), .d (.int .i64 ((s.sent.length : Int) + 1)), .d (.int .i64 kind), .d (.int .i64 s.rcd), .d (.int .i64 day), .d (.str note)] : List C) = n.ds.map C.d := by rw [← hn']; rfl
      push_cast
      refine RegV.tab (E := [60, 1000010, 1000011]) Tryd.mixed tab32a [some (58, .c (.loc 0 7)), some (59, .c (.d (.lst 8 (a.sent.map Msg.ds)))), some (60, .c (.own 4 0)), some (61, .agg ((sayM id s kind day note).ds.map C.d)), some (62, .c (.d (.lst 8 [(sayM id s kind day note).ds]))), some (63, .c (.own 4 1)), some (64, .c (.loc 0 7)), none]
        [none, none, some [.box 26 (a.ds.map C.d), .box 26 (Side.ds0 side0), .box 28 (msg0.ds.map C.d), .box 28 ((sayM id s kind day note).ds.map C.d), .row 28 8 (a.sent.map Msg.ds) 0], none, none, some [.box 26 (a.ds.map C.d), .box 26 (Side.ds0 side0), .box 28 (msg0.ds.map C.d), .box 28 ((sayM id s kind day note).ds.map C.d), .row 28 8 (a.sent.map Msg.ds ++ [(sayM id s kind day note).ds]) 1], none, some [.box 26 ((a.ds.map C.d).set 7 (.own 4 1)), .box 26 (Side.ds0 side0), .box 28 (msg0.ds.map C.d), .box 28 ((sayM id s kind day note).ds.map C.d), .row 28 8 (a.sent.map Msg.ds ++ [(sayM id s kind day note).ds]) 1]] (by kernel_rfl) (by kernel_rfl) rfl ?_ ?_
      · push_cast [tab32a, msg0, sayM]
        have hal : a.sent.length ≤ 1000 := by rw [← hsent]; exact hs
        repeat' (first | refine And.intro ?_ ?_ | (refine CallL.own (c74 a.sent (by omega)) ?_; push_cast))
        all_goals omega
      · push_cast [msg0, sayM]
        refine RegV.tab (E := [60, 1000010, 1000011]) Tryd.mixed tab32b [some (65, .agg ((a.ds.map C.d).set 7 (.own 4 1))), some (66, .agg ((sayM id s kind day note).ds.map C.d)), none, none, some (12, .c (.d (.int .i64 0)))]
          [none, none, some [.box 26 ((a.ds.map C.d).set 7 (.own 4 1)), .box 26 ((a.ds.map C.d).set 7 (.own 4 1)), .box 28 (msg0.ds.map C.d), .box 28 ((sayM id s kind day note).ds.map C.d), .row 28 8 (a.sent.map Msg.ds ++ [(sayM id s kind day note).ds]) 1], some [.box 26 ((a.ds.map C.d).set 7 (.own 4 1)), .box 26 ((a.ds.map C.d).set 7 (.own 4 1)), .box 28 ((sayM id s kind day note).ds.map C.d), .box 28 ((sayM id s kind day note).ds.map C.d), .row 28 8 (a.sent.map Msg.ds ++ [(sayM id s kind day note).ds]) 1], none] (by kernel_rfl) (by kernel_rfl) rfl ?_ ?_
        · push_cast [tab32b, msg0, sayM]
        · push_cast [msg0, sayM]
          rw [List.map_append]; rfl
end Go.Proofs

/- Walks of the chapters on loans between libraries, sixteenth part: the examples. No condition. -/
namespace Go.Proofs
open Go Go.Ax Go.Tx Go.Il
set_option maxRecDepth 100000
def aAsk : Msg := ⟨1, 2, 3, 1, 1, 7, 5, []⟩
def aYes : Msg := ⟨2, 1, 3, 1, 2, 7, 6, []⟩
def aShip : Msg := ⟨2, 1, 3, 2, 4, 7, 20, []⟩
def aCan : Msg := ⟨1, 2, 3, 2, 11, 7, 6, []⟩
def aA : Side := ⟨3, 2, 1, 1, 7, 0, 0, [aAsk], []⟩
def aB : Side := ⟨3, 1, 2, 0, 0, 0, 0, [], []⟩
def aC : Side := ⟨3, 1, 2, 1, 7, 0, 1, [], []⟩
def aD : Side := ⟨3, 1, 2, 2, 7, 0, 1, [aYes], []⟩
def aE : Side := ⟨3, 1, 2, 3, 7, 20, 1, [aYes, aShip], []⟩
def aK : Side := ⟨3, 2, 1, 1, 7, 0, 0, [aAsk], [aShip]⟩
def aL : Side := ⟨3, 2, 1, 3, 7, 20, 2, [aAsk], []⟩
def aN : Side := ⟨3, 2, 1, 9, 7, 0, 0, [aAsk, aCan], []⟩
def aP : Side := ⟨3, 2, 1, 9, 7, 0, 1, [aAsk, aCan], []⟩
def aR : Side := ⟨3, 2, 1, 3, 7, 20, 2, [aAsk, aCan], []⟩
theorem c30' : AFn Tryd.prog Γ0 30 [.c (.d (.int .i64 1)), .c (.d (.int .i64 3)), .c (.d (.int .i64 2)), .c (.d (.int .i64 7)), .c (.d (.int .i64 5))] [.agg aA.ds, .agg aAsk.ds, .d (.int .i64 0)] :=
  (by kernel_rfl : askR 1 3 2 7 5 = aA) ▸ (by kernel_rfl : askN 1 3 2 7 5 = aAsk) ▸ (by kernel_rfl : askE 1 3 2 7 5 = 0) ▸ c30 1 3 2 7 5
theorem c36' : AFn Tryd.prog Γ0 36 [.c (.d (.int .i64 2)), .agg (aAsk.ds.map C.d)] [.agg aB.ds, .d (.int .i64 0)] :=
  (by kernel_rfl : openR 2 aAsk = aB) ▸ (by kernel_rfl : openE 2 aAsk = 0) ▸ c36 2 aAsk (by decide)
theorem c23' (id : Int) (s : Side) (m : Msg) (r : Side) (hs : sideF s = 0) (hm : m.note = []) (h1 : hearS id s m = r) (h2 : hearE id s m = 0) : AFn Tryd.prog Γ0 23 [.c (.d (.int .i64 id)), .agg (s.ds.map C.d), .agg (m.ds.map C.d)] [.agg r.ds, .d (.int .i64 0)] :=
  h1 ▸ h2 ▸ c23 id s m (hearK_of hs) (by rw [hm]; decide)
theorem c32' (id : Int) (s : Side) (kind day : Int) (r : Side) (m : Msg) (hl : s.sent.length ≤ 1000) (h1 : sayR id s kind day [] = r) (h2 : sayN id s kind day [] = m) (h3 : sayE id s kind day [] = 0) : AFn Tryd.prog Γ0 32 [.c (.d (.int .i64 id)), .agg (s.ds.map C.d), .c (.d (.int .i64 kind)), .c (.d (.int .i64 day)), .c (.d (.str []))] [.agg r.ds, .agg m.ds, .d (.int .i64 0)] :=
  h1 ▸ h2 ▸ h3 ▸ c32 id s kind day [] hl (by decide)
attribute [push_cast] aA aB aC aD aE aK aL aN aP aR aAsk aYes aShip aCan
theorem c28' (s : Side) (b : Bool) (h : overF s = b) : AFn Tryd.prog Γ0 28 [.agg (s.ds.map C.d)] [.d (.bool b)] := h ▸ c28 s
theorem c20' (r s k : Int) (b : Bool) (h : allowF r s k = b) : AFn Tryd.prog Γ0 20 [.c (.d (.int .i64 r)), .c (.d (.int .i64 s)), .c (.d (.int .i64 k))] [.d (.bool b)] := h ▸ c20 r s k
theorem c19 : AFn Tryd.prog Γ0 19 [] [.d (.bool true)] := by
  refine AFn.vc [] Tryd.func19 rfl Tryd.mixed (by kernel_rfl) Tryd.ntmps19 Tryd.results19 (by simp) ?_
  push_cast
  refine CallL.q c30' ?_
  push_cast
  refine CallL.q c36' ?_
  push_cast
  refine CallL.q (c23' 2 aB aAsk aC (by kernel_rfl) rfl (by kernel_rfl) (by kernel_rfl)) ?_
  push_cast
  refine CallL.q (c32' 2 aC 2 6 aD aYes (by decide) (by kernel_rfl) (by kernel_rfl) (by kernel_rfl)) ?_
  push_cast
  refine CallL.q (c32' 2 aD 4 20 aE aShip (by decide) (by kernel_rfl) (by kernel_rfl) (by kernel_rfl)) ?_
  push_cast
  refine CallL.q (c23' 1 aA aShip aK (by kernel_rfl) rfl (by kernel_rfl) (by kernel_rfl)) ?_
  push_cast
  refine CallL.q (c23' 1 aK aYes aL (by kernel_rfl) rfl (by kernel_rfl) (by kernel_rfl)) ?_
  push_cast
  refine CallL.q (c32' 1 aA 11 6 aN aCan (by decide) (by kernel_rfl) (by kernel_rfl) (by kernel_rfl)) ?_
  push_cast
  refine CallL.q (c23' 1 aN aYes aP (by kernel_rfl) rfl (by kernel_rfl) (by kernel_rfl)) ?_
  push_cast
  refine CallL.q (c23' 1 aP aShip aR (by kernel_rfl) rfl (by kernel_rfl) (by kernel_rfl)) ?_
  push_cast
  refine CallL.q (c28' aP true (by kernel_rfl)) ?_
  push_cast
  refine CallL.q (c20' 2 2 4 true (by kernel_rfl)) ?_
  push_cast
  refine CallL.q (c20' 1 4 8 false (by kernel_rfl)) ?_
  push_cast
end Go.Proofs
