/- Part of a proof about this program; no condition of its own. -/
import Derived.Test.YticdcapnomageaaDoorIDd
set_option linter.all false
/- Plain laws on sides of a loan, third part: what is heard twice, and in two orders. No condition. -/
namespace Go.Proofs
open Go Go.Ax Go.Tx Go.Il
set_option maxRecDepth 100000
theorem fits_congr {id : Int} {s t : Side} {m : Msg} (h1 : t.req = s.req) (h2 : t.ptn = s.ptn) (h3 : t.role = s.role) : fitsF id t m = fitsF id s m := by
  unfold fitsF; rw [h1, h2, h3]
theorem insL_cons_lt {x m : Msg} {r : List Msg} (h : x.seq < m.seq) : insL (x :: r) m = x :: insL r m := by
  have hlow : lowN (x :: r) m.seq = lowN r m.seq + 1 := by
    unfold lowN; rw [List.takeWhile_cons, if_pos (by simpa using h)]; rfl
  unfold insL; rw [hlow]; rfl
theorem insL_cons_ge {x m : Msg} {r : List Msg} (h : ¬ x.seq < m.seq) : insL (x :: r) m = m :: x :: r := by
  have hlow : lowN (x :: r) m.seq = 0 := by
    unfold lowN; rw [List.takeWhile_cons, if_neg (by simpa using h)]; rfl
  unfold insL; rw [hlow]; rfl
theorem atN_cons_lt {x : Msg} {q : Int} {r : List Msg} (h : x.seq < q) : atN (x :: r) q = atN r q := by
  have hlow : lowN (x :: r) q = lowN r q + 1 := by
    unfold lowN; rw [List.takeWhile_cons, if_pos (by simpa using h)]; rfl
  unfold atN; rw [hlow]; rfl
theorem atN_cons_ge {x : Msg} {q : Int} {r : List Msg} (h : ¬ x.seq < q) : atN (x :: r) q = decide (x.seq = q) := by
  have hlow : lowN (x :: r) q = 0 := by
    unfold lowN; rw [List.takeWhile_cons, if_neg (by simpa using h)]; rfl
  unfold atN; rw [hlow]; rfl
theorem atN_ins : ∀ (l : List Msg) (m : Msg), atN (insL l m) m.seq = true
  | [], m => by show atN [m] m.seq = true; rw [atN_cons_ge (by omega), decide_eq_true rfl]
  | x :: r, m => by
    by_cases h : x.seq < m.seq
    · rw [insL_cons_lt h, atN_cons_lt h, atN_ins r m]
    · rw [insL_cons_ge h, atN_cons_ge (by omega), decide_eq_true rfl]
theorem atN_ins_ne : ∀ (l : List Msg) (m : Msg) (q : Int), m.seq ≠ q → atN l q = true → atN (insL l m) q = true
  | [], m, q, _, h => by cases h
  | x :: r, m, q, hne, h => by
    by_cases hx : x.seq < m.seq
    · rw [insL_cons_lt hx]
      by_cases hq : x.seq < q
      · rw [atN_cons_lt hq] at h ⊢; exact atN_ins_ne r m q hne h
      · rw [atN_cons_ge hq] at h ⊢; exact h
    · rw [insL_cons_ge hx]
      by_cases hq : m.seq < q
      · rw [atN_cons_lt hq]; exact h
      · by_cases hq2 : x.seq < q
        · omega
        · rw [atN_cons_ge hq2, decide_eq_true_eq] at h; omega
theorem atN_ins_ne' : ∀ (l : List Msg) (m : Msg) (q : Int), m.seq ≠ q → atN l q = false → atN (insL l m) q = false
  | [], m, q, hne, h => by
    show atN [m] q = false
    by_cases hq : m.seq < q
    · rw [atN_cons_lt hq]; rfl
    · rw [atN_cons_ge hq, decide_eq_false hne]
  | x :: r, m, q, hne, h => by
    by_cases hx : x.seq < m.seq
    · rw [insL_cons_lt hx]
      by_cases hq : x.seq < q
      · rw [atN_cons_lt hq] at h ⊢; exact atN_ins_ne' r m q hne h
      · rw [atN_cons_ge hq] at h ⊢; exact h
    · rw [insL_cons_ge hx]
      by_cases hq : m.seq < q
      · rw [atN_cons_lt hq]; exact h
      · rw [atN_cons_ge hq, decide_eq_false hne]
theorem insL_comm : ∀ (l : List Msg) (m n : Msg), m.seq ≠ n.seq → insL (insL l m) n = insL (insL l n) m
  | [], m, n, hne => by
    show insL [m] n = insL [n] m
    by_cases h : m.seq < n.seq
    · rw [insL_cons_lt h, insL_cons_ge (by omega)]; rfl
    · rw [insL_cons_ge h, insL_cons_lt (by omega)]; rfl
  | x :: r, m, n, hne => by
    by_cases hm : x.seq < m.seq <;> by_cases hn : x.seq < n.seq
    · rw [insL_cons_lt hm, insL_cons_lt hn, insL_cons_lt hn, insL_cons_lt hm, insL_comm r m n hne]
    · rw [insL_cons_lt hm, insL_cons_ge hn, insL_cons_ge hn, insL_cons_lt (by omega), insL_cons_lt hm]
    · rw [insL_cons_ge hm, insL_cons_lt hn, insL_cons_lt (by omega), insL_cons_lt hn, insL_cons_ge hm]
    · rw [insL_cons_ge hm, insL_cons_ge hn]
      by_cases h : m.seq < n.seq
      · rw [insL_cons_lt h, insL_cons_ge hn, insL_cons_ge (by omega)]
      · rw [insL_cons_ge h, insL_cons_lt (by omega), insL_cons_ge hm]
theorem hear_twice {id : Int} {s : Side} {m : Msg} (hs : sideF s = 0) (hS : SmN s) (hn : m.note.length ≤ 100) (h : hearE id s m = 0) : hearE id (hearS id s m) m = 0 ∧ hearS id (hearS id s m) m = hearS id s m := by
  obtain ⟨hf, r1, r2, r3, r4, r5, r6, r7⟩ := hear_right hs hS hn h
  have hf' : fitsF id (hearS id s m) m = true := by rw [fits_congr r3 r4 r5]; exact hf
  by_cases h1 : m.seq ≤ (hearS id s m).heard
  · exact ⟨by simp [hearE, hf', h1], by rw [hearS.eq_1 id (hearS id s m) m]; simp [hf', h1]⟩
  by_cases h2 : s.heard + 1 < m.seq
  · have h3 : ¬ m.seq ≤ s.heard := by omega
    have e : hearS id s m = keepS s m := by simp [hearS, hf, h3, h2]
    have eE : keepE s m = 0 := by simpa [hearE, hf, h3, h2] using h
    have hat : atN (keepS s m).early m.seq = true ∧ (keepS s m).heard = s.heard := by
      cases ha : atN s.early m.seq with
      | true => have : keepS s m = s := by simp [keepS, ha]
                rw [this]; exact ⟨ha, rfl⟩
      | false =>
        by_cases h8 : 8 ≤ s.early.length
        · simp [keepE, ha, h8] at eE
        · have : keepS s m = { s with early := insL s.early m } := by simp [keepS, ha, h8]
          rw [this]; exact ⟨atN_ins _ _, rfl⟩
    rw [e] at h1 hf' ⊢
    have h4 : (keepS s m).heard + 1 < m.seq := by rw [hat.2]; exact h2
    exact ⟨by simp [hearE, hf', h1, h4, keepE, hat.1], by rw [hearS.eq_1]; simp only [hf', Bool.not_true, cond_false]; rw [decide_eq_false h1, cond_false, decide_eq_true h4, cond_true, keepS.eq_1, hat.1, cond_true]⟩
  · exfalso
    by_cases h3 : m.seq ≤ s.heard
    · have e : hearS id s m = s := by simp [hearS, hf, h3]
      rw [e] at h1; exact h1 h3
    · have e : hearS id s m = drain (takeF s m) s.early := by simp [hearS, hf, h3, h2]
      obtain ⟨t1, _⟩ := take_heard s m
      have := (drain_right s.early (takeF s m) (hear_mid hs hf (by omega))).2.2.2.2.2.1
      rw [e] at h1
      omega
theorem drain_mono : ∀ (l : List Msg) (t : Side), t.heard ≤ (drain t l).heard ∧ (drain t l).req = t.req ∧ (drain t l).ptn = t.ptn ∧ (drain t l).role = t.role
  | [], _ => ⟨Int.le_refl _, rfl, rfl, rfl⟩
  | z :: r, t => by
    by_cases h : z.seq = t.heard + 1
    · have e : drain t (z :: r) = drain (takeF t z) r := by rw [drain, if_pos h]
      obtain ⟨t1, _, _, t4, t5, t6⟩ := take_heard t z
      have := drain_mono r (takeF t z)
      rw [e]
      rw [t1, t4, t5, t6] at this
      exact ⟨by omega, this.2⟩
    · have e : drain t (z :: r) = { t with early := z :: r } := by rw [drain, if_neg h]
      rw [e]; exact ⟨Int.le_refl _, rfl, rfl, rfl⟩
theorem drain_at (q : Int) : ∀ (l : List Msg) (t : Side), earlyL t t.heard l = true → atN l q = true → q ≤ (drain t l).heard ∨ ((drain t l).heard + 1 < q ∧ atN (drain t l).early q = true)
  | [], _, _, h => by cases h
  | z :: r, t, he, h => by
    rw [earlyL, Bool.and_eq_true, decide_eq_true_eq] at he
    obtain ⟨⟨_, _, _, _, _, e6⟩, e7⟩ := he
    by_cases hz : z.seq = t.heard + 1
    · have e : drain t (z :: r) = drain (takeF t z) r := by rw [drain, if_pos hz]
      obtain ⟨t1, _, _, t4, t5, t6⟩ := take_heard t z
      rw [e]
      by_cases hq : z.seq < q
      · rw [atN_cons_lt hq] at h
        exact drain_at q r (takeF t z) (by rw [earlyL_congr (s := t) t6 t5 t4, t1, ← hz]; exact e7) h
      · rw [atN_cons_ge hq, decide_eq_true_eq] at h
        have := (drain_mono r (takeF t z)).1
        left; omega
    · have e : drain t (z :: r) = { t with early := z :: r } := by rw [drain, if_neg hz]
      rw [e]
      right
      refine ⟨?_, h⟩
      show t.heard + 1 < q
      by_cases hq : z.seq < q
      · omega
      · rw [atN_cons_ge hq, decide_eq_true_eq] at h; omega
theorem drain_ins (n : Msg) : ∀ (l : List Msg) (t : Side), earlyL t t.heard l = true → t.heard < n.seq → atN l n.seq = false →
    (drain t l).heard < n.seq ∧ ((drain t l).heard + 1 = n.seq → drain t (insL l n) = drain (takeF (drain t l) n) (drain t l).early) ∧ ((drain t l).heard + 1 < n.seq → drain t (insL l n) = { drain t l with early := insL (drain t l).early n } ∧ atN (drain t l).early n.seq = false)
  | [], t, _, hn, ha => by
    have e : drain t [] = { t with early := [] } := rfl
    have e2 : drain t (insL [] n) = if n.seq = t.heard + 1 then drain (takeF t n) [] else { t with early := [n] } := rfl
    rw [e]
    refine ⟨hn, fun h => ?_, fun h => ⟨?_, rfl⟩⟩
    · have h : t.heard + 1 = n.seq := h
      rw [e2, if_pos h.symm]
      show _ = drain (takeF { t with early := [] } n) []
      rw [take_early t n []]
      exact (drain_early [] (takeF t n) []).symm
    · have h : t.heard + 1 < n.seq := h
      rw [e2, if_neg (by omega)]; rfl
  | z :: r, t, he, hn, ha => by
    rw [earlyL, Bool.and_eq_true, decide_eq_true_eq] at he
    obtain ⟨⟨_, _, _, _, _, e6⟩, e7⟩ := he
    by_cases hz : z.seq = t.heard + 1
    · have hzn : z.seq < n.seq := by
        by_cases h : z.seq < n.seq
        · exact h
        · rw [atN_cons_ge h, decide_eq_false_iff_not] at ha; omega
      rw [atN_cons_lt hzn] at ha
      have e : drain t (z :: r) = drain (takeF t z) r := by rw [drain, if_pos hz]
      have e2 : drain t (insL (z :: r) n) = drain (takeF t z) (insL r n) := by rw [insL_cons_lt hzn, drain, if_pos hz]
      obtain ⟨t1, _, _, t4, t5, t6⟩ := take_heard t z
      rw [e, e2]
      exact drain_ins n r (takeF t z) (by rw [earlyL_congr (s := t) t6 t5 t4, t1, ← hz]; exact e7) (by omega) ha
    · have e : drain t (z :: r) = { t with early := z :: r } := by rw [drain, if_neg hz]
      rw [e]
      refine ⟨hn, fun h => ?_, fun h => ⟨?_, ha⟩⟩
      · have h : t.heard + 1 = n.seq := h
        show drain t (insL (z :: r) n) = drain (takeF { t with early := z :: r } n) (z :: r)
        rw [insL_cons_ge (by omega), take_early t n (z :: r), drain, if_pos h.symm]
        exact (drain_early (z :: r) (takeF t n) (z :: r)).symm
      · have h : t.heard + 1 < n.seq := h
        show drain t (insL (z :: r) n) = { t with early := insL (z :: r) n }
        by_cases hzn : z.seq < n.seq
        · rw [insL_cons_lt hzn, drain, if_neg hz]
        · rw [insL_cons_ge hzn, drain, if_neg (by omega)]
theorem hearS_le {id : Int} {s : Side} {m : Msg} (hf : fitsF id s m = true) (h : m.seq ≤ s.heard) : hearS id s m = s ∧ hearE id s m = 0 := ⟨by simp [hearS, hf, h], by simp [hearE, hf, h]⟩
theorem hearS_gt {id : Int} {s : Side} {m : Msg} (hf : fitsF id s m = true) (h : s.heard + 1 < m.seq) : hearS id s m = keepS s m ∧ hearE id s m = keepE s m := by
  have : ¬ m.seq ≤ s.heard := by omega
  exact ⟨by simp [hearS, hf, h, this], by simp [hearE, hf, h, this]⟩
theorem hearS_eq {id : Int} {s : Side} {m : Msg} (hf : fitsF id s m = true) (h : m.seq = s.heard + 1) : hearS id s m = drain (takeF s m) s.early ∧ hearE id s m = 0 := by
  have h1 : ¬ m.seq ≤ s.heard := by omega
  have h2 : ¬ s.heard + 1 < m.seq := by omega
  exact ⟨by simp [hearS, hf, h1, h2], by simp [hearE, hf, h1, h2]⟩
theorem keep_at {s : Side} {m : Msg} (h : atN s.early m.seq = true) : keepS s m = s ∧ keepE s m = 0 := ⟨by simp [keepS, h], by simp [keepE, h]⟩
theorem keep_ins {s : Side} {m : Msg} (h : atN s.early m.seq = false) (he : keepE s m = 0) : keepS s m = { s with early := insL s.early m } := by
  by_cases h8 : 8 ≤ s.early.length
  · simp [keepE, h, h8] at he
  · simp [keepS, h, h8]
theorem hear_order_lt {id : Int} {s : Side} {m n : Msg} (hs : sideF s = 0) (hS : SmN s) (hm : m.note.length ≤ 100) (hn : n.note.length ≤ 100) (hlt : m.seq < n.seq) (e1 : hearE id s m = 0) (e2 : hearE id s n = 0)
    (e3 : hearE id (hearS id s m) n = 0) (e4 : hearE id (hearS id s n) m = 0) : hearS id (hearS id s m) n = hearS id (hearS id s n) m := by
  obtain ⟨fm, a1, a2, a3, a4, a5, a6, a7⟩ := hear_right hs hS hm e1
  obtain ⟨fn, b1, b2, b3, b4, b5, b6, b7⟩ := hear_right hs hS hn e2
  have fan : fitsF id (hearS id s m) n = true := by rw [fits_congr a3 a4 a5]; exact fn
  have fbm : fitsF id (hearS id s n) m = true := by rw [fits_congr b3 b4 b5]; exact fm
  by_cases h1 : m.seq ≤ s.heard
  · rw [(hearS_le fm h1).1, (hearS_le fbm (by omega)).1]
  by_cases h2 : m.seq = s.heard + 1
  · have hmid := hear_mid hs fm h2
    obtain ⟨t1, t2, t3, t4, t5, t6⟩ := take_heard s m
    have hmid' : earlyL (takeF s m) (takeF s m).heard s.early = true := hmid.2.2.2.2.2.2.2.2.2
    have ea := (hearS_eq fm h2).1
    have eb := (hearS_gt fn (by omega)).1
    have ebE := (hearS_gt fn (by omega)).2
    rw [e2] at ebE
    rw [ea] at fan e3 ⊢
    cases hat : atN s.early n.seq with
    | true =>
      rw [(keep_at hat).1] at eb
      rw [eb, ea]
      rcases drain_at n.seq s.early (takeF s m) hmid' hat with h | ⟨h, h'⟩
      · exact (hearS_le fan h).1
      · rw [(hearS_gt fan h).1, (keep_at h').1]
    | false =>
      rw [keep_ins hat ebE.symm] at eb
      have hb : hearS id (hearS id s n) m = drain (takeF s m) (insL s.early n) := by
        rw [eb] at fbm ⊢
        rw [(hearS_eq fbm h2).1]
        show drain (takeF { s with early := insL s.early n } m) (insL s.early n) = _
        rw [take_early s m (insL s.early n)]
        exact drain_early (insL s.early n) (takeF s m) (insL s.early n)
      rw [hb]
      obtain ⟨d1, d2, d3⟩ := drain_ins n s.early (takeF s m) hmid' (by omega) hat
      by_cases h3 : (drain (takeF s m) s.early).heard + 1 = n.seq
      · rw [(hearS_eq fan h3.symm).1, d2 h3]
      · have h4 : (drain (takeF s m) s.early).heard + 1 < n.seq := by omega
        obtain ⟨d4, d5⟩ := d3 h4
        have eE := (hearS_gt fan h4).2
        rw [e3] at eE
        rw [(hearS_gt fan h4).1, keep_ins d5 eE.symm, d4]
  · have h3 : s.heard + 1 < m.seq := by omega
    have h4 : s.heard + 1 < n.seq := by omega
    have ea := hearS_gt fm h3
    have eb := hearS_gt fn h4
    rw [e1] at ea
    rw [e2] at eb
    rw [ea.1] at fan e3 ⊢
    rw [eb.1] at fbm e4 ⊢
    cases hx : atN s.early m.seq with
    | true =>
      have ea' := (keep_at hx).1
      rw [ea', eb.1]
      cases hy : atN s.early n.seq with
      | true => rw [(keep_at hy).1, (hearS_gt fm h3).1, ea']
      | false =>
        have eb' := keep_ins hy eb.2.symm
        rw [eb'] at fbm ⊢
        rw [(hearS_gt fbm h3).1]
        exact ((keep_at (atN_ins_ne _ _ _ (by omega) hx)).1).symm
    | false =>
      have ea' := keep_ins hx ea.2.symm
      cases hy : atN s.early n.seq with
      | true =>
        have eb' := (keep_at hy).1
        rw [eb', ea.1, ea']
        rw [ea'] at fan
        rw [(hearS_gt fan h4).1]
        exact (keep_at (atN_ins_ne _ _ _ (by omega) hy)).1
      | false =>
        have eb' := keep_ins hy eb.2.symm
        rw [ea'] at fan e3 ⊢
        rw [eb'] at fbm e4 ⊢
        have q1 := hearS_gt fan h4
        have q2 := hearS_gt fbm h3
        rw [e3] at q1
        rw [e4] at q2
        rw [q1.1, q2.1, keep_ins (atN_ins_ne' _ _ _ (by omega) hy) q1.2.symm, keep_ins (atN_ins_ne' _ _ _ (by omega) hx) q2.2.symm]
        show ({ s with early := insL (insL s.early m) n } : Side) = { s with early := insL (insL s.early n) m }
        rw [insL_comm _ _ _ (by omega)]
theorem hear_order {id : Int} {s : Side} {m n : Msg} (hs : sideF s = 0) (hS : SmN s) (hm : m.note.length ≤ 100) (hn : n.note.length ≤ 100) (hne : m.seq ≠ n.seq) (e1 : hearE id s m = 0) (e2 : hearE id s n = 0)
    (e3 : hearE id (hearS id s m) n = 0) (e4 : hearE id (hearS id s n) m = 0) : hearS id (hearS id s m) n = hearS id (hearS id s n) m := by
  by_cases h : m.seq < n.seq
  · exact hear_order_lt hs hS hm hn h e1 e2 e3 e4
  · exact (hear_order_lt hs hS hn hm (by omega) e2 e1 e4 e3).symm
end Go.Proofs
