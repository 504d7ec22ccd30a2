/- Part of a proof about this program; no condition of its own. -/
import Derived.Test.YticdcapnomageaaDoorIDe
set_option linter.all false
/- Walks of the chapters on loans between libraries, twenty-second part: the statements. No condition. -/
namespace Go.Proofs
open Go Go.Ax Go.Tx Go.Il
set_option maxRecDepth 100000
theorem small_len {s : Side} (h : smallF s = true) : s.sent.length ≤ 120 ∧ s.early.length ≤ 20 := by
  unfold smallF at h
  simp only [Bool.and_eq_true, decide_eq_true_eq] at h
  exact ⟨h.1.1.1, h.1.1.2⟩
theorem early_kind {s : Side} (h : sideF s = 0) : ∀ x ∈ s.early, 1 ≤ x.kind ∧ x.kind ≤ 11 := by
  obtain ⟨_, _, _, _, _, _, _, _, _, _, _, h4⟩ := side_val h
  exact fun x hx => msg_kind ((early_asc s _ _ h4).1 x hx).2
theorem hear_bad {id : Int} {s : Side} {m : Msg} (h : hearE id s m ≠ 0) : hearS id s m = side0 := by
  cases h0 : fitsF id s m with
  | false => simp [hearS, h0]
  | true =>
    by_cases h1 : m.seq ≤ s.heard
    · simp [hearE, h0, h1] at h
    · by_cases h2 : s.heard + 1 < m.seq
      · simp only [hearE, hearS, h0, h1, h2, Bool.not_true, cond_false, cond_true, decide_true, decide_false] at h ⊢
        cases h3 : atN s.early m.seq with
        | true => simp [keepE, h3] at h
        | false => by_cases h4 : 8 ≤ s.early.length <;> simp [keepE, keepS, h3, h4] at h ⊢
      · simp [hearE, h0, h1, h2] at h
theorem c4 (id : Int) (s : Side) (m : Msg) : AFn Tryd.prog Γ0 4 [.c (.d (.int .i64 id)), .agg (s.ds.map C.d), .agg (m.ds.map C.d)] [.d (.bool true)] := by
  refine AFn.vc [] Tryd.func4 rfl Tryd.mixed (by kernel_rfl) Tryd.ntmps4 Tryd.results4 (by simp) ?_
  push_cast
  refine CallL.q c19 ?_
  push_cast
  refine CallL.q (c22 s) ?_
  push_cast
  rintro ⟨h1, h2⟩ h3
  have hS := smallN h1
  obtain ⟨l1, l2⟩ := small_len h1
  refine CallL.q (c23 id s m (hearK_of h2) (by omega)) ?_
  push_cast
  refine ⟨fun h4 => ?_, fun h4 => ?_⟩
  · rw [hear_bad h4]
    refine CallL.q (c24 side0 side0 (by decide) (by decide) (by decide) (by decide)) ?_
    push_cast
  · obtain ⟨r0, r1, r2, r3, r4, r5, r6, r7⟩ := hear_right h2 hS (by omega) h4
    obtain ⟨t1, t2⟩ := hear_twice h2 hS (by omega) h4
    refine CallL.q (c23 id (hearS id s m) m (hearK_of r1) (by omega)) ?_
    push_cast
    rw [t1, t2]
    have := r7.l1
    have := r7.l2
    refine ⟨fun _ => ?_, fun h => absurd rfl h⟩
    refine CallL.q (c24 (hearS id s m) (hearS id s m) (by omega) (by omega) (by omega) (by omega)) ?_
    push_cast
structure Two where
  id : Int
  m : Msg
  n : Msg
def Two.ds (t : Two) : List D := [.int .i64 t.id, .int .i64 t.m.frm, .int .i64 t.m.dst, .int .i64 t.m.req, .int .i64 t.m.seq, .int .i64 t.m.kind, .int .i64 t.m.rcd, .int .i64 t.m.day, .str t.m.note, .int .i64 t.n.frm, .int .i64 t.n.dst, .int .i64 t.n.req, .int .i64 t.n.seq, .int .i64 t.n.kind, .int .i64 t.n.rcd, .int .i64 t.n.day, .str t.n.note]
attribute [push_cast] Two.ds
theorem c5 (s : Side) (t : Two) : AFn Tryd.prog Γ0 5 [.agg (s.ds.map C.d), .agg (t.ds.map C.d)] [.d (.bool true)] := by
  refine AFn.vc [] Tryd.func5 rfl Tryd.mixed (by kernel_rfl) Tryd.ntmps5 Tryd.results5 (by simp) ?_
  push_cast
  refine CallL.q c19 ?_
  push_cast
  refine CallL.q (c22 s) ?_
  push_cast
  rintro ⟨h1, h2⟩ h3 h4 h5
  have hS := smallN h1
  obtain ⟨l1, l2⟩ := small_len h1
  refine CallL.q (c23 t.id s t.m (hearK_of h2) (by omega)) ?_
  push_cast
  refine CallL.q (c23 t.id s t.n (hearK_of h2) (by omega)) ?_
  push_cast
  intro e1 e2
  obtain ⟨q0, q1, q2, q3, q4, q5, q6, q7⟩ := hear_right h2 hS (by omega) e1
  obtain ⟨r0, r1, r2, r3, r4, r5, r6, r7⟩ := hear_right h2 hS (by omega) e2
  refine CallL.q (c23 t.id (hearS t.id s t.m) t.n (hearK_of q1) (by omega)) ?_
  push_cast
  refine CallL.q (c23 t.id (hearS t.id s t.n) t.m (hearK_of r1) (by omega)) ?_
  push_cast
  intro e3 e4
  have := q7.l1
  have := q7.l2
  have hE := hear_order h2 hS (by omega) (by omega) h5 e1 e2 e3 e4
  have f7 := (hear_right q1 q7 (by omega) e3).2.2.2.2.2.2.2
  have g1 := f7.l1
  have g2 := f7.l2
  rw [← hE]
  refine CallL.q (c24 (hearS t.id (hearS t.id s t.m) t.n) (hearS t.id (hearS t.id s t.m) t.n) (by omega) (by omega) (by omega) (by omega)) ?_
  push_cast
theorem c6 (s : Side) : AFn Tryd.prog Γ0 6 [.agg (s.ds.map C.d)] [.d (.bool true)] := by
  refine AFn.vc [] Tryd.func6 rfl Tryd.mixed (by kernel_rfl) Tryd.ntmps6 Tryd.results6 (by simp) ?_
  push_cast
  refine CallL.q c19 ?_
  push_cast
  refine CallX.q (c25 s) ?_
  push_cast
  intro h1
  have hS := smallN h1
  refine CallX.q (c26 s hS) ?_
  push_cast
  refine CallX.q (c27 s hS) ?_
  push_cast
  refine CallX.q (c28 s) ?_
  push_cast
  refine CallX.q (c29 s) ?_
  push_cast
structure Req where
  id : Int
  req : Int
  ptn : Int
  rcd : Int
  day : Int
def Req.ds (q : Req) : List D := [.int .i64 q.id, .int .i64 q.req, .int .i64 q.ptn, .int .i64 q.rcd, .int .i64 q.day]
attribute [push_cast] Req.ds
theorem askR_small (id rq pt rc dy : Int) : (askR id rq pt rc dy).sent.length ≤ 1 ∧ (askR id rq pt rc dy).early.length ≤ 1 := by
  unfold askR
  cases decide (askE id rq pt rc dy = 0)
  · exact ⟨Nat.zero_le _, Nat.zero_le _⟩
  · exact ⟨Nat.le_refl _, Nat.zero_le _⟩
theorem c7 (q : Req) : AFn Tryd.prog Γ0 7 [.agg (q.ds.map C.d)] [.d (.bool true)] := by
  refine AFn.vc [] Tryd.func7 rfl Tryd.mixed (by kernel_rfl) Tryd.ntmps7 Tryd.results7 (by simp) ?_
  push_cast
  refine CallL.q c19 ?_
  push_cast
  refine CallL.q (c30 q.id q.req q.ptn q.rcd q.day) ?_
  push_cast
  refine CallL.q (c31 q.id q.req q.ptn q.rcd q.day) ?_
  push_cast
  have hl := askR_small q.id q.req q.ptn q.rcd q.day
  refine CallL.q (c24 (askR q.id q.req q.ptn q.rcd q.day) (askR q.id q.req q.ptn q.rcd q.day) (by omega) (by omega) (by omega) (by omega)) ?_
  push_cast
  intro h1
  obtain ⟨r1, _, _, r2⟩ := ask_right q.id q.req q.ptn q.rcd q.day h1
  refine CallL.q (c26 (askR q.id q.req q.ptn q.rcd q.day) r2) ?_
  push_cast
  rw [r1]
structure Word where
  id : Int
  kind : Int
  day : Int
  note : List UInt8
def Word.ds (w : Word) : List D := [.int .i64 w.id, .int .i64 w.kind, .int .i64 w.day, .str w.note]
attribute [push_cast] Word.ds
theorem sayR_small (id : Int) (s : Side) (kind day : Int) (note : List UInt8) (h1 : s.sent.length ≤ 120) (h2 : s.early.length ≤ 20) : (sayR id s kind day note).sent.length ≤ 1000 ∧ (sayR id s kind day note).early.length ≤ 1000 := by
  unfold sayR
  cases decide (sayE id s kind day note = 0)
  · exact ⟨Nat.zero_le _, Nat.zero_le _⟩
  · refine ⟨?_, ?_⟩
    · show (s.sent ++ [sayM id s kind day note]).length ≤ 1000
      simp; omega
    · show s.early.length ≤ 1000
      omega
theorem c8 (s : Side) (w : Word) : AFn Tryd.prog Γ0 8 [.agg (s.ds.map C.d), .agg (w.ds.map C.d)] [.d (.bool true)] := by
  refine AFn.vc [] Tryd.func8 rfl Tryd.mixed (by kernel_rfl) Tryd.ntmps8 Tryd.results8 (by simp) ?_
  push_cast
  refine CallL.q c19 ?_
  push_cast
  refine CallL.q (c22 s) ?_
  push_cast
  rintro ⟨h1, h2⟩ h3
  have hS := smallN h1
  obtain ⟨l1, l2⟩ := small_len h1
  refine CallL.q (c32 w.id s w.kind w.day w.note (by omega) (by omega)) ?_
  push_cast
  refine CallL.q (c33 w.id s w.kind w.day w.note (by omega) (by omega)) ?_
  push_cast
  obtain ⟨k1, k2⟩ := sayR_small w.id s w.kind w.day w.note l1 l2
  refine CallL.q (c24 (sayR w.id s w.kind w.day w.note) (sayR w.id s w.kind w.day w.note) (by omega) (by omega) (by omega) (by omega)) ?_
  push_cast
  intro h4
  obtain ⟨r1, r2⟩ := say_right w.id s w.kind w.day w.note h2 hS (by omega) h4
  refine CallL.q (c26 (sayR w.id s w.kind w.day w.note) r2) ?_
  push_cast
  rw [r1]
theorem c9 (id : Int) (s : Side) (m : Msg) : AFn Tryd.prog Γ0 9 [.c (.d (.int .i64 id)), .agg (s.ds.map C.d), .agg (m.ds.map C.d)] [.d (.bool true)] := by
  refine AFn.vc [] Tryd.func9 rfl Tryd.mixed (by kernel_rfl) Tryd.ntmps9 Tryd.results9 (by simp) ?_
  push_cast
  refine CallL.q c19 ?_
  push_cast
  refine CallL.q (c22 s) ?_
  push_cast
  rintro ⟨h1, h2⟩ h3
  have hS := smallN h1
  obtain ⟨l1, l2⟩ := small_len h1
  refine CallL.q (c23 id s m (hearK_of h2) (by omega)) ?_
  push_cast
  refine CallL.q (c34 id s m (hearK_of h2) (early_kind h2) (by omega)) ?_
  push_cast
  have hl : (hearS id s m).sent.length ≤ 100000 ∧ (hearS id s m).early.length ≤ 100000 := by
    by_cases h4 : hearE id s m = 0
    · have := (hear_right h2 hS (by omega) h4).2.2.2.2.2.2.2
      exact ⟨this.l1, this.l2⟩
    · rw [hear_bad h4]; exact ⟨by decide, by decide⟩
  refine CallL.q (c24 (hearS id s m) (hearS id s m) (by omega) (by omega) (by omega) (by omega)) ?_
  push_cast
  intro h4
  obtain ⟨r0, r1, r2, r3, r4, r5, r6, r7⟩ := hear_right h2 hS (by omega) h4
  refine CallL.q (c26 (hearS id s m) r7) ?_
  push_cast
  refine ⟨fun _ => ?_, fun h => absurd r1 h⟩
  refine CallL.q (c35 (hearS id s m).sent s.sent (by omega) (by omega)) ?_
  push_cast
  exact r2
theorem c10 (id : Int) (m : Msg) : AFn Tryd.prog Γ0 10 [.c (.d (.int .i64 id)), .agg (m.ds.map C.d)] [.d (.bool true)] := by
  refine AFn.vc [] Tryd.func10 rfl Tryd.mixed (by kernel_rfl) Tryd.ntmps10 Tryd.results10 (by simp) ?_
  push_cast
  refine CallL.q c19 ?_
  push_cast
  intro h3
  refine CallL.q (c36 id m (by omega)) ?_
  push_cast
  refine CallL.q (c37 id m (by omega)) ?_
  push_cast
  have hl : (openR id m).sent.length ≤ 1 ∧ (openR id m).early.length ≤ 1 := by
    unfold openR
    cases decide (openE id m = 0) <;> exact ⟨Nat.zero_le _, Nat.zero_le _⟩
  refine CallL.q (c24 (openR id m) (openR id m) (by omega) (by omega) (by omega) (by omega)) ?_
  push_cast
  intro h4
  obtain ⟨r1, r2⟩ := open_right id m h4
  refine CallL.q (c26 (openR id m) r2) ?_
  push_cast
  rw [r1]
end Go.Proofs
