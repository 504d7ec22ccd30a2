/- Part of a proof about this program; no condition of its own. -/
import Derived.Test.YticdcapnomageaaDoorIWl
set_option linter.all false
/- Walks of the chapters on loans between libraries, thirteenth part: Hear. No condition. -/
namespace Go.Proofs
open Go Go.Ax Go.Tx Go.Il
set_option maxRecDepth 100000
variable {Γ : List (Nat × List D)}
def drain (s : Side) : List Msg → Side
  | [] => { s with early := [] }
  | m :: r => if m.seq = s.heard + 1 then drain (takeF s m) r else { s with early := m :: r }
def hearS (id : Int) (s : Side) (m : Msg) : Side :=
  bif !fitsF id s m then side0 else bif decide (m.seq ≤ s.heard) then s else bif decide (s.heard + 1 < m.seq) then keepS s m else drain (takeF s m) s.early
def hearE (id : Int) (s : Side) (m : Msg) : Int :=
  bif !fitsF id s m then 1 else bif decide (m.seq ≤ s.heard) then 0 else bif decide (s.heard + 1 < m.seq) then keepE s m else 0
theorem take_heard (s : Side) (m : Msg) : (takeF s m).heard = s.heard + 1 ∧ (takeF s m).early = s.early ∧ (takeF s m).sent = s.sent ∧ (takeF s m).role = s.role ∧ (takeF s m).req = s.req ∧ (takeF s m).ptn = s.ptn := by
  simp only [takeF, becomeF]
  split
  · split <;> exact ⟨rfl, rfl, rfl, rfl, rfl, rfl⟩
  · exact ⟨rfl, rfl, rfl, rfl, rfl, rfl⟩
theorem take_early (s : Side) (m : Msg) (a : List Msg) : takeF { s with early := a } m = { takeF s m with early := a } := by
  simp only [takeF, becomeF]
  split
  · split <;> rfl
  · rfl
theorem drain_early : ∀ (l : List Msg) (s : Side) (a : List Msg), drain { s with early := a } l = drain s l
  | [], _, _ => rfl
  | m :: r, s, a => by
    show (if m.seq = s.heard + 1 then drain (takeF { s with early := a } m) r else _) = (if m.seq = s.heard + 1 then drain (takeF s m) r else _)
    rw [take_early, drain_early r]
theorem early_asc (s : Side) : ∀ (l : List Msg) (last : Int), earlyL s last l = true → (∀ m ∈ l, last < m.seq ∧ msgF m = 0) ∧ AscS l
  | [], _, _ => ⟨by simp, fun i j hi => by simp at hi⟩
  | m :: r, last, h => by
    rw [earlyL, Bool.and_eq_true, decide_eq_true_eq] at h
    obtain ⟨⟨h1, _, _, _, _, h2⟩, h3⟩ := h
    obtain ⟨h4, h5⟩ := early_asc s r m.seq h3
    refine ⟨fun x hx => ?_, fun i j hi hj hij => ?_⟩
    · rcases List.mem_cons.1 hx with rfl | hx
      · exact ⟨h2, h1⟩
      · have := (h4 x hx).1; exact ⟨by omega, (h4 x hx).2⟩
    · cases i with
      | zero =>
        cases j with
        | zero => omega
        | succ j => exact (h4 _ (List.getElem_mem (by simpa using hj))).1
      | succ i =>
        cases j with
        | zero => omega
        | succ j => exact h5 i j (by simpa using hi) (by simpa using hj) (by omega)
theorem msg_seq {m : Msg} (h : msgF m = 0) : 1 ≤ m.seq ∧ m.seq ≤ 99 := by
  unfold msgF at h
  cases h1 : (inB m.frm 1 4 && inB m.dst 1 4) <;> rw [h1] at h
  · cases h
  · cases h2 : decide (m.frm = m.dst) <;> rw [h2] at h
    · cases h3 : (inB m.req 1 9999 && inB m.seq 1 99) <;> rw [h3] at h
      · cases h
      · rw [Bool.and_eq_true] at h3
        exact inB_iff.1 h3.2
    · cases h
theorem side_val {s : Side} (h : sideF s = 0) : (1 ≤ s.req ∧ s.req ≤ 9999) ∧ (1 ≤ s.ptn ∧ s.ptn ≤ 4) ∧ (0 ≤ s.rcd ∧ s.rcd ≤ 9999) ∧ (0 ≤ s.due ∧ s.due ≤ 109572) ∧ (0 ≤ s.heard ∧ s.heard ≤ 99) ∧ (s.role = 1 ∨ s.role = 2) ∧ (0 ≤ s.state ∧ s.state ≤ 9) ∧ (s.state = 0 ↔ s.role = 2 ∧ s.heard = 0) ∧ s.sent.length ≤ 99 ∧ s.early.length ≤ 8 ∧ sentL s 0 s.sent = true ∧ earlyL s (s.heard + 1) s.early = true := by
  unfold sideF at h
  cases h1 : (inB s.req 1 9999 && inB s.ptn 1 4 && inB s.rcd 0 9999 && inB s.due 0 109572 && inB s.heard 0 99) <;> rw [h1] at h
  · cases h
  rcases Bool.eq_false_or_eq_true (decide (s.role ≠ 2 ∧ s.role ≠ 1) || !inB s.state 0 9) with h2 | h2
  · rw [h2] at h; cases h
  rw [h2] at h
  rcases Bool.eq_false_or_eq_true (decide (s.state = 0 ∧ (s.role ≠ 2 ∨ s.heard ≠ 0)) || decide (s.state ≠ 0 ∧ s.role = 2 ∧ s.heard = 0)) with h3 | h3
  · rw [h3] at h; cases h
  rw [h3] at h
  rcases Bool.eq_false_or_eq_true (decide (99 < s.sent.length ∨ 8 < s.early.length)) with h4 | h4
  · rw [h4] at h; cases h
  rw [h4] at h
  cases h5 : (sentL s 0 s.sent && earlyL s (s.heard + 1) s.early) <;> rw [h5] at h
  · cases h
  simp only [Bool.and_eq_true, inB_iff] at h1
  rw [Bool.or_eq_false_iff, decide_eq_false_iff_not, Bool.not_eq_false', inB_iff] at h2
  rw [Bool.or_eq_false_iff, decide_eq_false_iff_not, decide_eq_false_iff_not] at h3
  rw [decide_eq_false_iff_not] at h4
  rw [Bool.and_eq_true] at h5
  obtain ⟨⟨⟨⟨a1, a2⟩, a3⟩, a4⟩, a5⟩ := h1
  exact ⟨a1, a2, a3, a4, a5, by omega, h2.2, ⟨fun q => by have := h3.1; omega, fun q => by have := h3.2; omega⟩, by omega, by omega, h5⟩
def hearK (s : Side) : Prop := AscS s.early ∧ (∀ x ∈ s.early, 1 ≤ x.seq ∧ x.seq ≤ 99) ∧ s.early.length ≤ 8 ∧ 0 ≤ s.heard ∧ s.heard ≤ 99 ∧ (s.role = 1 ∨ s.role = 2)
theorem hearK_of {s : Side} (h : sideF s = 0) : hearK s := by
  obtain ⟨_, _, _, _, h1, h2, _, _, _, h3, _, h4⟩ := side_val h
  obtain ⟨h5, h6⟩ := early_asc s _ _ h4
  exact ⟨h6, fun x hx => msg_seq (h5 x hx).2, h3, h1.1, h1.2, h2⟩
theorem c23 (id : Int) (s : Side) (m : Msg) (hK : hearK s) (hm : m.note.length ≤ 100000) :
    AFn Tryd.prog Γ0 23 [.c (.d (.int .i64 id)), .agg (s.ds.map C.d), .agg (m.ds.map C.d)] [.agg (hearS id s m).ds, .d (.int .i64 (hearE id s m))] := by
  obtain ⟨k1, k2, k3, k4, k5, k6⟩ := hK
  refine AFn.vc [] Tryd.func23 rfl Tryd.mixed (by kernel_rfl) Tryd.ntmps23 Tryd.results23 (by simp) ?_
  push_cast
  refine CallL.q (c64 id s m (by omega) (by omega) hm) ?_
  push_cast
  have hfit : fitsF id s m = true → 1 ≤ m.seq ∧ m.seq ≤ 99 := fun h => by
    unfold fitsF at h
    rw [Bool.and_eq_true, decide_eq_true_eq] at h
    exact msg_seq h.1.1
  refine ⟨fun h1 => ?_, fun h1 => ?_⟩
  · have e1 : hearS id s m = side0 := by simp [hearS, h1]
    have e2 : hearE id s m = 1 := by simp [hearE, h1]
    rw [e1, e2]
    exact ⟨⟨rfl, rfl, rfl, rfl, rfl, rfl, rfl, rfl, rfl⟩, rfl⟩
  have hq := hfit h1
  refine ⟨fun h2 => ?_, fun h2 => ⟨⟨by omega, by omega⟩, fun h3 => ?_, fun h3 => ?_⟩⟩
  · have e1 : hearS id s m = s := by simp [hearS, h1, h2]
    have e2 : hearE id s m = 0 := by simp [hearE, h1, h2]
    rw [e1, e2]
    exact ⟨⟨rfl, rfl, rfl, rfl, rfl, rfl, rfl, rfl, rfl⟩, rfl⟩
  · have e1 : hearS id s m = keepS s m := by simp [hearS, h1, h3, show ¬ m.seq ≤ s.heard by omega]
    have e2 : hearE id s m = keepE s m := by simp [hearE, h1, h3, show ¬ m.seq ≤ s.heard by omega]
    rw [e1, e2]
    refine CallL.q (c65 s m (by omega) k1 (fun x hx => by have := k2 x hx; exact ⟨by show (-9223372036854775808 : Int) ≤ _; omega, by show _ ≤ (9223372036854775807 : Int); omega⟩)) ?_
    push_cast
  · have e1 : hearS id s m = drain (takeF s m) s.early := by simp [hearS, h1, show ¬ m.seq ≤ s.heard by omega, show ¬ s.heard + 1 < m.seq by omega]
    have e2 : hearE id s m = 0 := by simp [hearE, h1, show ¬ m.seq ≤ s.heard by omega, show ¬ s.heard + 1 < m.seq by omega]
    rw [e1, e2]
    refine take_in66 _ s m m ?_ (by omega) (by omega)
    push_cast
    refine LoopV.of Tryd.mixed [4, 6, 7] (fun _ : Side => []) (fun s' => [.box 26 (s'.ds.map C.d), .box 28 (m.ds.map C.d), .box 26 (Side.ds0 side0)]) (fun s' => drain s' s'.early = drain (takeF s m) s.early ∧ 0 ≤ s'.heard ∧ s'.heard + s'.early.length ≤ 200 ∧ s'.early.length ≤ 8) (fun s' => s'.early.length) (takeF s m) ?_ (by push_cast) ?_
    · obtain ⟨t1, t2, _⟩ := take_heard s m
      rw [t1, t2]
      exact ⟨rfl, by omega, by omega, by omega⟩
    · rintro s' ⟨i1, i2, i3, i4⟩
      push_cast
      have hend : (∀ h : 0 < s'.early.length, ¬ s'.early[0].seq = s'.heard + 1) → drain s' s'.early = s' := fun h => by
        cases he : s'.early with
        | nil => show ({ s' with early := [] } : Side) = s'; rw [← he]
        | cons x r =>
          have := h (by rw [he]; simp)
          simp only [he, List.getElem_cons_zero] at this
          show (if x.seq = s'.heard + 1 then drain (takeF s' x) r else { s' with early := x :: r }) = s'
          rw [if_neg this, ← he]
      refine ⟨fun h5 => ⟨by omega, ⟨by omega, by omega⟩, fun h6 => ⟨by omega, ?_⟩, fun h6 => ?_⟩, fun h5 => ?_⟩
      · refine take_in66 _ s' (s'.early[0]'(by omega)) m ?_ (by omega) (by omega)
        push_cast
        obtain ⟨t1, t2, _⟩ := take_heard s' (s'.early[0]'(by omega))
        refine ⟨by rw [t2]; omega, { takeF s' (s'.early[0]'(by omega)) with early := s'.early.drop 1 }, ⟨⟨?_, by show 0 ≤ (takeF s' _).heard; omega, ?_, by simp; omega⟩, by simp; omega⟩, rfl, rfl, rfl, rfl, rfl, rfl, rfl, rfl, ?_⟩
        · rw [← i1]
          show drain { takeF s' _ with early := _ } (s'.early.drop 1) = _
          rw [drain_early]
          have hc : s'.early = (s'.early[0]'(by omega)) :: s'.early.drop 1 := by
            have := List.drop_eq_getElem_cons (show 0 < s'.early.length by omega)
            simpa using this
          conv => rhs; rw [hc]
          show _ = (if (s'.early[0]'(by omega)).seq = s'.heard + 1 then drain (takeF s' _) (s'.early.drop 1) else _)
          rw [if_pos h6]
        · show (takeF s' _).heard + ((s'.early.drop 1).length : Int) ≤ 200
          rw [t1, List.length_drop]; omega
        · show List.take _ _ = List.map Msg.ds (s'.early.drop 1)
          rw [t2, List.map_drop]
          exact List.take_of_length_le (by simp)
      · rw [← i1, hend fun _ => h6]
        exact ⟨rfl, rfl, rfl, rfl, rfl, rfl, rfl, rfl, rfl⟩
      · rw [← i1, hend fun h => by omega]
        exact ⟨rfl, rfl, rfl, rfl, rfl, rfl, rfl, rfl, rfl⟩
end Go.Proofs
