/- Part of a proof about this program; no condition of its own. -/
import Derived.Test.YticdcapnomageaaDoorIWu
set_option linter.all false
/- Plain laws on sides of a loan: what is said and heard leaves a side right. No condition. -/
namespace Go.Proofs
open Go Go.Ax Go.Tx Go.Il
set_option maxRecDepth 100000
theorem side_ok {s : Side} (h1 : 1 ≤ s.req ∧ s.req ≤ 9999) (h2 : 1 ≤ s.ptn ∧ s.ptn ≤ 4) (h3 : 0 ≤ s.rcd ∧ s.rcd ≤ 9999) (h4 : 0 ≤ s.due ∧ s.due ≤ 109572) (h5 : 0 ≤ s.heard ∧ s.heard ≤ 99) (h6 : s.role = 1 ∨ s.role = 2) (h7 : 0 ≤ s.state ∧ s.state ≤ 9) (h8 : s.state = 0 ↔ s.role = 2 ∧ s.heard = 0) (h9 : s.sent.length ≤ 99) (h10 : s.early.length ≤ 8) (h11 : sentL s 0 s.sent = true) (h12 : earlyL s (s.heard + 1) s.early = true) : sideF s = 0 := by
  unfold sideF
  rw [show (inB s.req 1 9999 && inB s.ptn 1 4 && inB s.rcd 0 9999 && inB s.due 0 109572 && inB s.heard 0 99) = true by
    simp only [Bool.and_eq_true, inB_iff]; exact ⟨⟨⟨⟨h1, h2⟩, h3⟩, h4⟩, h5⟩]
  rw [show (decide (s.role ≠ 2 ∧ s.role ≠ 1) || !inB s.state 0 9) = false by
    rw [Bool.or_eq_false_iff, decide_eq_false_iff_not, Bool.not_eq_false', inB_iff]; exact ⟨by omega, h7⟩]
  rw [show (decide (s.state = 0 ∧ (s.role ≠ 2 ∨ s.heard ≠ 0)) || decide (s.state ≠ 0 ∧ s.role = 2 ∧ s.heard = 0)) = false by
    rw [Bool.or_eq_false_iff, decide_eq_false_iff_not, decide_eq_false_iff_not]
    exact ⟨fun q => by have := h8.1 q.1; omega, fun q => q.1 (h8.2 q.2)⟩]
  rw [decide_eq_false (by omega), h11, h12]
  rfl
theorem msg_val {m : Msg} (h : msgF m = 0) : (1 ≤ m.frm ∧ m.frm ≤ 4) ∧ (1 ≤ m.dst ∧ m.dst ≤ 4) ∧ m.frm ≠ m.dst ∧ (1 ≤ m.req ∧ m.req ≤ 9999) ∧ (1 ≤ m.seq ∧ m.seq ≤ 99) ∧ (1 ≤ m.kind ∧ m.kind ≤ 11) ∧ (0 ≤ m.rcd ∧ m.rcd ≤ 9999) ∧ (m.kind = 1 → 1 ≤ m.rcd) ∧ (0 ≤ m.day ∧ m.day ≤ 109572) ∧ m.note.length ≤ 40 := by
  unfold msgF at h
  cases h1 : (inB m.frm 1 4 && inB m.dst 1 4) <;> rw [h1] at h
  · cases h
  cases h2 : decide (m.frm = m.dst) <;> rw [h2] at h
  · cases h3 : (inB m.req 1 9999 && inB m.seq 1 99) <;> rw [h3] at h
    · cases h
    cases h4 : inB m.kind 1 11 <;> rw [h4] at h
    · cases h
    cases h5 : (inB m.rcd (if m.kind = 1 then 1 else 0) 9999 && inB m.day 0 109572) <;> rw [h5] at h
    · cases h
    cases h6 : noteF m.note <;> rw [h6] at h
    · cases h
    cases h7 : decide (40 < m.note.length) <;> rw [h7] at h
    · simp only [Bool.and_eq_true, inB_iff] at h1 h3 h4 h5
      refine ⟨h1.1, h1.2, of_decide_eq_false h2, h3.1, h3.2, h4, ?_, ?_, h5.2, ?_⟩
      · have := h5.1; split at this <;> omega
      · intro e; have := h5.1; rw [if_pos e] at this; omega
      · have := of_decide_eq_false h7; omega
    · cases h
  · cases h
theorem sentL_app (s : Side) (m : Msg) : ∀ (l : List Msg) (i : Int), sentL s i (l ++ [m]) = (sentL s i l && decide (msgF m = 0 ∧ m.seq = i + l.length + 1 ∧ m.dst = s.ptn ∧ m.req = s.req))
  | [], i => by simp [sentL]
  | x :: r, i => by
    rw [List.cons_append, sentL, sentL, sentL_app s m r, Bool.and_assoc]
    congr 3
    simp only [List.length_cons]
    have : i + 1 + (r.length : Int) + 1 = i + ((r.length + 1 : Nat) : Int) + 1 := by omega
    rw [this]
theorem sentL_congr {s t : Side} (h1 : t.ptn = s.ptn) (h2 : t.req = s.req) : ∀ (l : List Msg) (i : Int), sentL t i l = sentL s i l
  | [], _ => rfl
  | m :: r, i => by rw [sentL, sentL, sentL_congr h1 h2 r, h1, h2]
theorem earlyL_congr {s t : Side} (h1 : t.ptn = s.ptn) (h2 : t.req = s.req) (h3 : t.role = s.role) : ∀ (l : List Msg) (i : Int), earlyL t i l = earlyL s i l
  | [], _ => rfl
  | m :: r, i => by rw [earlyL, earlyL, earlyL_congr h1 h2 h3 r, h1, h2, h3]
theorem ask_right (id rq pt rc dy : Int) (h : askE id rq pt rc dy = 0) : sideF (askR id rq pt rc dy) = 0 ∧ (askR id rq pt rc dy).sent.length ≤ 1 ∧ (askR id rq pt rc dy).early = [] ∧ SmN (askR id rq pt rc dy) := by
  unfold askR
  rw [decide_eq_true h, cond_true]
  unfold askE at h
  cases h1 : (inB id 1 4 && inB pt 1 4 && inB rq 1 9999 && inB rc 1 9999 && inB dy 0 109572) <;> rw [h1] at h
  · cases h
  · by_cases h2 : pt = id
    · rw [decide_eq_true h2] at h; cases h
    · have hm : msgF (askM id rq pt rc dy) = 0 := by
        simp only [Bool.and_eq_true] at h1
        obtain ⟨⟨⟨⟨a1, a2⟩, a3⟩, a4⟩, a5⟩ := h1
        unfold msgF askM
        simp only
        rw [a1, a2, a3, a5, decide_eq_false (fun e => h2 e.symm)]
        simp only [if_true]
        rw [a4]
        rfl
      simp only [Bool.and_eq_true, inB_iff] at h1
      refine ⟨side_ok ?_ ?_ ?_ ?_ ?_ ?_ ?_ ?_ ?_ ?_ ?_ ?_, by simp [askS], rfl, ⟨by simp [askS], by simp [askS], ?_, by simp [askS]⟩⟩
      · exact h1.1.1.2
      · exact h1.1.1.1.2
      · show 0 ≤ rc ∧ rc ≤ 9999; omega
      · exact (by decide : (0 : Int) ≤ 0 ∧ (0 : Int) ≤ 109572)
      · exact (by decide : (0 : Int) ≤ 0 ∧ (0 : Int) ≤ 99)
      · exact .inl rfl
      · exact (by decide : (0 : Int) ≤ 1 ∧ (1 : Int) ≤ 9)
      · exact ⟨fun q => (by cases q), fun q => (by cases q.1)⟩
      · exact (by decide : 1 ≤ 99)
      · exact Nat.zero_le _
      · show (decide (msgF (askM id rq pt rc dy) = 0 ∧ _) && true) = true
        rw [Bool.and_true, decide_eq_true_eq]
        exact ⟨hm, rfl, rfl, rfl⟩
      · rfl
      · intro m hm
        have : m = askM id rq pt rc dy := by simpa [askS] using hm
        rw [this]; exact Nat.zero_le _
theorem open_right (id : Int) (m : Msg) (h : openE id m = 0) : sideF (openR id m) = 0 ∧ SmN (openR id m) := by
  unfold openR
  rw [decide_eq_true h, cond_true]
  unfold openE at h
  by_cases c : msgF m ≠ 0 ∨ m.dst ≠ id ∨ (ofF m.kind).role ≠ 1
  · rw [decide_eq_true c] at h; cases h
  · have hm : msgF m = 0 := by omega
    obtain ⟨a1, a2, a3, a4, _⟩ := msg_val hm
    refine ⟨side_ok a4 a1 (by decide : (0 : Int) ≤ 0 ∧ (0 : Int) ≤ 9999) (by decide : (0 : Int) ≤ 0 ∧ (0 : Int) ≤ 109572) (by decide : (0 : Int) ≤ 0 ∧ (0 : Int) ≤ 99) (.inr rfl) (by decide : (0 : Int) ≤ 0 ∧ (0 : Int) ≤ 9) ⟨fun _ => ⟨rfl, rfl⟩, fun _ => rfl⟩ (Nat.zero_le _) (Nat.zero_le _) rfl rfl, ⟨Nat.zero_le _, Nat.zero_le _, fun m h => (by cases h), fun m h => (by cases h)⟩⟩
theorem kd_state (kind : Int) : 0 ≤ (ofF kind).state ∧ (ofF kind).state ≤ 9 := by
  rcases of_cases kind with h | h
  · rw [h.1]; exact ⟨by decide, by decide⟩
  · rcases h with rfl | rfl | rfl | rfl | rfl | rfl | rfl | rfl | rfl | rfl | rfl <;> exact ⟨by decide, by decide⟩
theorem kd_sent0 (kind : Int) : hasF (ofF kind).sent 0 = false := by
  rcases of_cases kind with h | h
  · rw [h.1]; rfl
  · rcases h with rfl | rfl | rfl | rfl | rfl | rfl | rfl | rfl | rfl | rfl | rfl <;> decide
theorem kd_taken0 (kind : Int) (h : hasF (ofF kind).taken 0 = true) : kind = 1 := by
  rcases of_cases kind with h' | h'
  · rw [h'.1] at h; cases h
  · rcases h' with rfl | rfl | rfl | rfl | rfl | rfl | rfl | rfl | rfl | rfl | rfl <;> first | rfl | (revert h; decide)
end Go.Proofs
