/- Part of a proof about this program; no condition of its own. -/
import Derived.Test.YticdcapnomageaaDoorIDc
set_option linter.all false
/- Plain laws on sides of a loan, second part. No condition. -/
namespace Go.Proofs
open Go Go.Ax Go.Tx Go.Il
set_option maxRecDepth 100000
theorem become_val (s : Side) (kind day : Int) : (becomeF s kind day).req = s.req ∧ (becomeF s kind day).ptn = s.ptn ∧ (becomeF s kind day).role = s.role ∧ (becomeF s kind day).rcd = s.rcd ∧ (becomeF s kind day).heard = s.heard ∧ (becomeF s kind day).sent = s.sent ∧ (becomeF s kind day).early = s.early := ⟨rfl, rfl, rfl, rfl, rfl, rfl, rfl⟩
theorem become_state (s : Side) (kind day : Int) (h : 0 ≤ s.state ∧ s.state ≤ 9) : (0 ≤ (becomeF s kind day).state ∧ (becomeF s kind day).state ≤ 9) ∧ (s.state ≠ 0 → (becomeF s kind day).state ≠ 0) := by
  have := kd_state kind
  simp only [becomeF]
  split
  · exact ⟨this, fun _ => by assumption⟩
  · exact ⟨h, fun q => q⟩
theorem become_due (s : Side) (kind day : Int) (h : 0 ≤ s.due ∧ s.due ≤ 109572) (hd : 0 ≤ day ∧ day ≤ 109572) : 0 ≤ (becomeF s kind day).due ∧ (becomeF s kind day).due ≤ 109572 := by
  simp only [becomeF, imin]
  split
  · exact hd
  · split
    · split <;> omega
    · exact h
theorem say_right (id : Int) (s : Side) (kind day : Int) (note : List UInt8) (hs : sideF s = 0) (hS : SmN s) (hn : note.length ≤ 100) (h : sayE id s kind day note = 0) : sideF (sayR id s kind day note) = 0 ∧ SmN (sayR id s kind day note) := by
  unfold sayR
  rw [decide_eq_true h, cond_true]
  unfold sayE at h
  cases h1 : allowF s.role s.state kind <;> rw [h1] at h
  · cases h
  by_cases h2 : 99 ≤ s.sent.length
  · rw [decide_eq_true h2] at h; cases h
  rw [decide_eq_false h2] at h
  have hm : msgF (sayM id s kind day note) = 0 := h
  obtain ⟨a1, a2, a3, a4, a5, a6, a7, a8, a9, a10, a11, a12⟩ := side_val hs
  obtain ⟨_, _, _, _, _, _, _, _, m9, _⟩ := msg_val hm
  have hst : s.state ≠ 0 := fun e => by
    rw [e] at h1
    unfold allowF at h1
    rw [kd_sent0, Bool.and_false] at h1
    cases h1
  obtain ⟨b1, b2⟩ := become_state s kind day a7
  have b3 := become_due s kind day a4 m9
  refine ⟨side_ok a1 a2 a3 b3 a5 a6 b1 ⟨fun q => absurd q (b2 hst), fun q => absurd (a8.2 q) hst⟩ ?_ a10 ?_ ?_, ⟨?_, hS.l2, ?_, hS.n2⟩⟩
  · show (s.sent ++ [sayM id s kind day note]).length ≤ 99
    simp; omega
  · show sentL _ 0 (s.sent ++ [sayM id s kind day note]) = true
    rw [sentL_app, sentL_congr (s := s) (t := sayS id s kind day note) rfl rfl, a11, Bool.true_and, decide_eq_true_eq]
    exact ⟨hm, by show (s.sent.length : Int) + 1 = _; omega, rfl, rfl⟩
  · exact (earlyL_congr (s := s) (t := sayS id s kind day note) rfl rfl rfl _ _).trans a12
  · show (s.sent ++ [sayM id s kind day note]).length ≤ 100000
    have := hS.l1
    simp; omega
  · intro m hm'
    rcases List.mem_append.1 (show m ∈ s.sent ++ [sayM id s kind day note] from hm') with q | q
    · exact hS.n1 m q
    · rw [List.mem_singleton.1 q]; show note.length ≤ _; omega
/-- The early list after a message came in. -/
theorem earlyL_ins (s : Side) (m : Msg) (hm : msgF m = 0) (h1 : (ofF m.kind).role = 3 - s.role) (h2 : m.kind ≠ 1) (h3 : m.frm = s.ptn) (h4 : m.req = s.req) : ∀ (l : List Msg) (last : Int), last < m.seq → earlyL s last l = true → atN l m.seq = false → earlyL s last (insL l m) = true
  | [], last, hl, _, _ => by
    show (decide _ && true) = true
    rw [Bool.and_true, decide_eq_true_eq]
    exact ⟨hm, h1, h2, h3, h4, hl⟩
  | x :: r, last, hl, he, ha => by
    rw [earlyL, Bool.and_eq_true, decide_eq_true_eq] at he
    obtain ⟨⟨e1, e2, e3, e4, e5, e6⟩, e7⟩ := he
    by_cases hx : x.seq < m.seq
    · have hlow : lowN (x :: r) m.seq = lowN r m.seq + 1 := by
        unfold lowN; rw [List.takeWhile_cons, if_pos (by simpa using hx)]; rfl
      have hat : atN r m.seq = false := by
        unfold atN at ha ⊢
        rw [hlow] at ha
        simpa using ha
      have hins : insL (x :: r) m = x :: insL r m := by
        unfold insL; rw [hlow]; rfl
      rw [hins, earlyL, Bool.and_eq_true, decide_eq_true_eq]
      exact ⟨⟨e1, e2, e3, e4, e5, e6⟩, earlyL_ins s m hm h1 h2 h3 h4 r x.seq hx e7 hat⟩
    · have hlow : lowN (x :: r) m.seq = 0 := by
        unfold lowN; rw [List.takeWhile_cons, if_neg (by simpa using hx)]; rfl
      have hne : x.seq ≠ m.seq := by
        unfold atN at ha
        rw [hlow] at ha
        simpa using ha
      have hins : insL (x :: r) m = m :: x :: r := by
        unfold insL; rw [hlow]; rfl
      rw [hins, earlyL, earlyL, Bool.and_eq_true, decide_eq_true_eq, Bool.and_eq_true, decide_eq_true_eq]
      exact ⟨⟨hm, h1, h2, h3, h4, hl⟩, ⟨e1, e2, e3, e4, e5, by omega⟩, e7⟩
theorem insL_len (l : List Msg) (m : Msg) : (insL l m).length = l.length + 1 := by
  have := lowN_le m.seq l
  simp [insL]; omega
theorem mem_insL {l : List Msg} {m x : Msg} (h : x ∈ insL l m) : x = m ∨ x ∈ l := by
  unfold insL at h
  rcases List.mem_append.1 h with h | h
  · rcases List.mem_append.1 h with h | h
    · exact .inr (List.mem_of_mem_take h)
    · exact .inl (List.mem_singleton.1 h)
  · exact .inr (List.mem_of_mem_drop h)
theorem fits_val {id : Int} {s : Side} {m : Msg} (h : fitsF id s m = true) : msgF m = 0 ∧ m.dst = id ∧ m.frm = s.ptn ∧ m.req = s.req ∧ (ofF m.kind).role = 3 - s.role ∧ (s.role = 1 ∨ (m.seq = 1 ↔ m.kind = 1)) := by
  unfold fitsF at h
  rw [Bool.and_eq_true, decide_eq_true_eq] at h
  obtain ⟨⟨h1, h2, h3, h4, h5⟩, h6⟩ := h
  refine ⟨h1, h2, h3, h4, h5, ?_⟩
  rw [Bool.or_eq_true, decide_eq_true_eq] at h6
  rcases h6 with h6 | h6
  · exact .inl h6
  · refine .inr ?_
    by_cases a : m.seq = 1 <;> by_cases b : m.kind = 1 <;> simp [a, b] at h6 ⊢
theorem take_val {s : Side} {m : Msg} (hs : (0 ≤ s.rcd ∧ s.rcd ≤ 9999) ∧ (0 ≤ s.due ∧ s.due ≤ 109572) ∧ (0 ≤ s.state ∧ s.state ≤ 9)) (hm : msgF m = 0) : ((0 ≤ (takeF s m).rcd ∧ (takeF s m).rcd ≤ 9999) ∧ (0 ≤ (takeF s m).due ∧ (takeF s m).due ≤ 109572) ∧ (0 ≤ (takeF s m).state ∧ (takeF s m).state ≤ 9)) ∧ (s.state ≠ 0 → (takeF s m).state ≠ 0) := by
  obtain ⟨_, _, _, _, _, _, m7, _, m9, _⟩ := msg_val hm
  obtain ⟨h1, h2, h3⟩ := hs
  have b1 := become_state { s with heard := s.heard + 1 } m.kind m.day h3
  have b2 := become_due { s with heard := s.heard + 1 } m.kind m.day h2 m9
  simp only [takeF]
  split
  · split
    · exact ⟨⟨m7, b2, b1.1⟩, b1.2⟩
    · exact ⟨⟨h1, b2, b1.1⟩, b1.2⟩
  · exact ⟨⟨h1, h2, h3⟩, fun q => q⟩
/-- What is right while the early messages are heard, one after the other. -/
def Mid (s : Side) (l : List Msg) : Prop :=
  (1 ≤ s.req ∧ s.req ≤ 9999) ∧ (1 ≤ s.ptn ∧ s.ptn ≤ 4) ∧ ((0 ≤ s.rcd ∧ s.rcd ≤ 9999) ∧ (0 ≤ s.due ∧ s.due ≤ 109572) ∧ (0 ≤ s.state ∧ s.state ≤ 9)) ∧ (1 ≤ s.heard ∧ s.heard ≤ 99) ∧ (s.role = 1 ∨ s.role = 2) ∧ s.state ≠ 0 ∧ s.sent.length ≤ 99 ∧ l.length ≤ 8 ∧ sentL s 0 s.sent = true ∧ earlyL s s.heard l = true
theorem earlyL_raise (s : Side) : ∀ (l : List Msg) (a b : Int), earlyL s a l = true → (∀ h : 0 < l.length, b < l[0].seq) → earlyL s b l = true
  | [], _, _, _, _ => rfl
  | m :: r, a, b, h, hb => by
    rw [earlyL, Bool.and_eq_true, decide_eq_true_eq] at h ⊢
    obtain ⟨⟨h1, h2, h3, h4, h5, h6⟩, h7⟩ := h
    exact ⟨⟨h1, h2, h3, h4, h5, hb (by simp)⟩, h7⟩
theorem drain_right : ∀ (l : List Msg) (s : Side), Mid s l → sideF (drain s l) = 0 ∧ (drain s l).sent = s.sent ∧ (drain s l).req = s.req ∧ (drain s l).ptn = s.ptn ∧ (drain s l).role = s.role ∧ s.heard ≤ (drain s l).heard ∧ (∀ x ∈ (drain s l).early, x ∈ l)
  | [], s, h => by
    obtain ⟨h1, h2, ⟨h3, h4, h5⟩, h6, h7, h8, h9, h10, h11, h12⟩ := h
    refine ⟨side_ok h1 h2 h3 h4 ⟨by show 0 ≤ s.heard; omega, h6.2⟩ h7 h5 ⟨fun q => absurd q h8, fun q => by have : s.heard = 0 := q.2; omega⟩ h9 (Nat.zero_le _) ((sentL_congr (s := s) (t := drain s []) rfl rfl _ _).trans h11) rfl, rfl, rfl, rfl, rfl, Int.le_refl _, fun x hx => hx⟩
  | m :: r, s, h => by
    obtain ⟨h1, h2, ⟨h3, h4, h5⟩, h6, h7, h8, h9, h10, h11, h12⟩ := h
    have h12' := h12
    rw [earlyL, Bool.and_eq_true, decide_eq_true_eq] at h12
    obtain ⟨⟨e1, e2, e3, e4, e5, e6⟩, e7⟩ := h12
    by_cases hq : m.seq = s.heard + 1
    · have hd : drain s (m :: r) = drain (takeF s m) r := by rw [drain, if_pos hq]
      obtain ⟨t1, t2, t3, t4, t5, t6⟩ := take_heard s m
      obtain ⟨v1, v2⟩ := take_val (m := m) ⟨h3, h4, h5⟩ e1
      have hq2 := msg_seq e1
      have ih := drain_right r (takeF s m) ⟨by rw [t5]; exact h1, by rw [t6]; exact h2, v1, by rw [t1]; omega, by rw [t4]; exact h7, v2 h8, by rw [t3]; exact h9, by simp at h10; omega, by rw [t3, sentL_congr (s := s) t6 t5]; exact h11, by
        rw [earlyL_congr (s := s) t6 t5 t4, t1, ← hq]; exact e7⟩
      rw [hd]
      rw [t3, t5, t6, t4, t1] at ih
      exact ⟨ih.1, ih.2.1, ih.2.2.1, ih.2.2.2.1, ih.2.2.2.2.1, by have := ih.2.2.2.2.2.1; omega, fun x hx => List.mem_cons_of_mem _ (ih.2.2.2.2.2.2 x hx)⟩
    · have hd : drain s (m :: r) = { s with early := m :: r } := by rw [drain, if_neg hq]
      rw [hd]
      refine ⟨side_ok h1 h2 h3 h4 ⟨by show 0 ≤ s.heard; omega, h6.2⟩ h7 h5 ⟨fun q => absurd q h8, fun q => by have : s.heard = 0 := q.2; omega⟩ h9 h10 ((sentL_congr (s := s) (t := { s with early := m :: r }) rfl rfl _ _).trans h11) ?_, rfl, rfl, rfl, rfl, Int.le_refl _, fun x hx => hx⟩
      show earlyL { s with early := m :: r } (s.heard + 1) (m :: r) = true
      rw [earlyL_congr (s := s) (t := { s with early := m :: r }) rfl rfl rfl]
      exact earlyL_raise s _ _ _ h12' fun _ => by show s.heard + 1 < m.seq; omega
theorem hear_mid {id : Int} {s : Side} {m : Msg} (hs : sideF s = 0) (hf : fitsF id s m = true) (hq : m.seq = s.heard + 1) : Mid (takeF s m) s.early := by
  obtain ⟨a1, a2, a3, a4, a5, a6, a7, a8, a9, a10, a11, a12⟩ := side_val hs
  obtain ⟨f1, f2, f3, f4, f5, f6⟩ := fits_val hf
  obtain ⟨t1, t2, t3, t4, t5, t6⟩ := take_heard s m
  obtain ⟨v1, v2⟩ := take_val (m := m) ⟨a3, a4, a7⟩ f1
  have hq2 := msg_seq f1
  refine ⟨by rw [t5]; exact a1, by rw [t6]; exact a2, v1, by rw [t1]; omega, by rw [t4]; exact a6, ?_, by rw [t3]; exact a9, a10, by rw [t3, sentL_congr (s := s) t6 t5]; exact a11, by rw [earlyL_congr (s := s) t6 t5 t4, t1]; exact a12⟩
  by_cases hst : s.state = 0
  · obtain ⟨r2, h0⟩ := a8.1 hst
    have hk : m.kind = 1 := by
      rcases f6 with f6 | f6
      · omega
      · exact f6.1 (by omega)
    have ht : (m.kind = 8 ∨ hasF (ofF m.kind).taken s.state = true) := .inr (by rw [hk, hst]; decide)
    simp only [takeF]
    rw [if_pos ht, if_pos hk]
    show (becomeF { s with heard := s.heard + 1 } m.kind m.day).state ≠ 0
    rw [hk]
    simp only [becomeF]
    rw [if_pos (by decide)]
    decide
  · exact v2 hst
theorem hear_right {id : Int} {s : Side} {m : Msg} (hs : sideF s = 0) (hS : SmN s) (hn : m.note.length ≤ 100) (h : hearE id s m = 0) :
    fitsF id s m = true ∧ sideF (hearS id s m) = 0 ∧ (hearS id s m).sent = s.sent ∧ (hearS id s m).req = s.req ∧ (hearS id s m).ptn = s.ptn ∧ (hearS id s m).role = s.role ∧ s.heard ≤ (hearS id s m).heard ∧ SmN (hearS id s m) := by
  cases hf : fitsF id s m with
  | false => simp [hearE, hf] at h
  | true =>
    refine ⟨rfl, ?_⟩
    obtain ⟨f1, f2, f3, f4, f5, f6⟩ := fits_val hf
    obtain ⟨a1, a2, a3, a4, a5, a6, a7, a8, a9, a10, a11, a12⟩ := side_val hs
    by_cases h1 : m.seq ≤ s.heard
    · have e : hearS id s m = s := by simp [hearS, hf, h1]
      rw [e]; exact ⟨hs, rfl, rfl, rfl, rfl, Int.le_refl _, hS⟩
    by_cases h2 : s.heard + 1 < m.seq
    · have e : hearS id s m = keepS s m := by simp [hearS, hf, h1, h2]
      have eE : keepE s m = 0 := by simpa [hearE, hf, h1, h2] using h
      rw [e]
      cases hat : atN s.early m.seq with
      | true =>
        have : keepS s m = s := by simp [keepS, hat]
        rw [this]; exact ⟨hs, rfl, rfl, rfl, rfl, Int.le_refl _, hS⟩
      | false =>
        by_cases h8 : 8 ≤ s.early.length
        · simp [keepE, hat, h8] at eE
        · have : keepS s m = { s with early := insL s.early m } := by simp [keepS, hat, h8]
          rw [this]
          have hk1 : m.kind ≠ 1 := by
            rcases f6 with f6 | f6
            · exact of_role m.kind (by rw [f5, f6]; rfl)
            · intro q; have := f6.2 q; omega
          refine ⟨side_ok a1 a2 a3 a4 a5 a6 a7 a8 a9 ?_ ((sentL_congr (s := s) (t := { s with early := insL s.early m }) rfl rfl _ _).trans a11) ?_, rfl, rfl, rfl, rfl, Int.le_refl _, ⟨hS.l1, ?_, hS.n1, ?_⟩⟩
          · show (insL s.early m).length ≤ 8
            rw [insL_len]; omega
          · show earlyL { s with early := insL s.early m } (s.heard + 1) (insL s.early m) = true
            rw [earlyL_congr (s := s) (t := { s with early := insL s.early m }) rfl rfl rfl]
            exact earlyL_ins s m f1 f5 hk1 f3 f4 _ _ h2 a12 hat
          · show (insL s.early m).length ≤ 100000
            rw [insL_len]; omega
          · intro x hx
            rcases mem_insL (show x ∈ insL s.early m from hx) with rfl | q
            · omega
            · exact hS.n2 x q
    · have hq : m.seq = s.heard + 1 := by omega
      have e : hearS id s m = drain (takeF s m) s.early := by simp [hearS, hf, h1, h2]
      rw [e]
      obtain ⟨t1, t2, t3, t4, t5, t6⟩ := take_heard s m
      obtain ⟨d1, d2, d3, d4, d5, d6, d7⟩ := drain_right s.early (takeF s m) (hear_mid hs hf hq)
      refine ⟨d1, by rw [d2, t3], by rw [d3, t5], by rw [d4, t6], by rw [d5, t4], by rw [t1] at d6; omega, ⟨by rw [d2, t3]; exact hS.l1, ?_, by rw [d2, t3]; exact hS.n1, fun x hx => hS.n2 x (d7 x hx)⟩⟩
      have := (side_val d1).2.2.2.2.2.2.2.2.2.1
      omega
end Go.Proofs
