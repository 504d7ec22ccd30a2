/- Part of a proof about this program; no condition of its own. -/
import Derived.Test.YticdcapnomageaaDoorIWg
set_option linter.all false
/- Walks of the chapters on loans between libraries, eighth part: sides. -/
namespace Go.Proofs
open Go Go.Ax Go.Tx Go.Il
set_option maxRecDepth 100000
variable {Γ : List (Nat × List D)}
@[push_cast] theorem Tryd.flT83_0 : flT Tryd.prog 83 0 = some 0 := by kernel_rfl
theorem msg_eq {a b : Msg} (h : a.frm = b.frm ∧ a.dst = b.dst ∧ a.req = b.req ∧ a.seq = b.seq ∧ a.kind = b.kind ∧ a.rcd = b.rcd ∧ a.day = b.day ∧ a.note = b.note) : a = b := by
  obtain ⟨h1, h2, h3, h4, h5, h6, h7, h8⟩ := h
  cases a; cases b; simp_all
theorem c35 (a b : List Msg) (ha : a.length ≤ 1000000) (hb : b.length ≤ 1000000) : AFn Tryd.prog Γ 35 [.c (.bor 8 (a.map Msg.ds)), .c (.bor 8 (b.map Msg.ds))] [.d (.bool (decide (a = b)))] := by
  refine AFn.vc [] Tryd.func35 rfl Tryd.mixed (by kernel_rfl) Tryd.ntmps35 Tryd.results35 (by simp) ?_
  push_cast
  refine ⟨fun h => ?_, fun h => ?_⟩
  · rw [decide_eq_false]; rintro rfl; exact h rfl
  have hlen : a.length = b.length := by omega
  refine LoopV.cnt Tryd.mixed [0, 1] a.length (fun k => [(5, .c (.d (.int .i64 k)))]) (fun k => decide (a = b) = decide (a.drop k = b.drop k)) (by simp) ?_ (by push_cast)
  intro k hk hin
  push_cast
  refine ⟨fun h2 => ?_, fun h2 => ?_⟩
  · have hk' : k < a.length := by omega
    rw [drop_cons hk', drop_cons (show k < b.length by omega)] at hin
    refine ⟨hk', by omega, fun c => ?_, fun c => ⟨⟨by omega, by omega⟩, hk', ?_⟩⟩
    · rw [hin, decide_eq_false]
      intro e
      injection e with e1 _
      rw [e1] at c
      simp at c
    · rw [hin, msg_eq c]
      exact decide_eq_decide.2 ⟨fun e => by injection e, fun e => by rw [e]⟩
  · rw [hin, List.drop_eq_nil_of_le (by omega), List.drop_eq_nil_of_le (by omega)]; rfl
theorem c25 (s : Side) : AFn Tryd.prog Γ 25 [.agg (s.ds.map C.d)] [.d (.bool (smallF s))] := by
  refine AFn.vc [] Tryd.func25 rfl Tryd.mixed (by kernel_rfl) Tryd.ntmps25 Tryd.results25 (by simp) ?_
  push_cast
  refine ⟨fun h => ⟨fun h2 => ?_, fun h2 => ?_⟩, fun h => ?_⟩
  · unfold smallF; rw [decide_eq_false (by omega : ¬ s.early.length ≤ 20), Bool.and_false]; rfl
  · have e : smallF s = (s.sent.all (fun m => decide (m.note.length ≤ 100)) && s.early.all fun m => decide (m.note.length ≤ 100)) := by
      unfold smallF; rw [decide_eq_true (by omega : s.sent.length ≤ 120), decide_eq_true (by omega : s.early.length ≤ 20)]; rfl
    rw [e]
    refine LoopV.cnt Tryd.mixed [1] s.sent.length (fun k => [(3, .c (.d (.int .i64 k)))]) (fun k => s.sent.all (fun m => decide (m.note.length ≤ 100)) = (s.sent.drop k).all (fun m => decide (m.note.length ≤ 100))) (by simp) ?_ (by push_cast)
    intro k hk hin
    push_cast
    refine ⟨fun h3 => ?_, fun h3 => ?_⟩
    · have hk' : k < s.sent.length := by omega
      rw [all_drop _ hk'] at hin
      refine ⟨hk', fun h4 => ?_, fun h4 => ⟨⟨by omega, by omega⟩, ?_⟩⟩
      · rw [hin, decide_eq_false (by omega)]; rfl
      · rw [hin, decide_eq_true (by omega), Bool.true_and]; exact ⟨hk', rfl⟩
    · rw [hin, List.drop_eq_nil_of_le (by omega), List.all_nil, Bool.true_and]
      refine LoopV.cnt Tryd.mixed [1] s.early.length (fun k => [(4, .c (.d (.int .i64 k)))]) (fun k => s.early.all (fun m => decide (m.note.length ≤ 100)) = (s.early.drop k).all (fun m => decide (m.note.length ≤ 100))) (by simp) ?_ (by push_cast)
      intro k hk hin
      push_cast
      refine ⟨fun h3 => ?_, fun h3 => ?_⟩
      · have hk' : k < s.early.length := by omega
        rw [all_drop _ hk'] at hin
        refine ⟨hk', fun h4 => ?_, fun h4 => ⟨⟨by omega, by omega⟩, ?_⟩⟩
        · rw [hin, decide_eq_false (by omega)]; rfl
        · rw [hin, decide_eq_true (by omega), Bool.true_and]; exact ⟨hk', rfl⟩
      · rw [hin, List.drop_eq_nil_of_le (by omega)]; rfl
  · unfold smallF; rw [decide_eq_false (by omega : ¬ s.sent.length ≤ 120)]; rfl
theorem c68 (s : Side) (hl : s.sent.length ≤ 1000000) (hn : ∀ m ∈ s.sent, m.note.length ≤ 100000) : AFn Tryd.prog Γ0 68 [.agg (s.ds.map C.d)] [.d (.bool (sentL s 0 s.sent))] := by
  refine AFn.vc [] Tryd.func68 rfl Tryd.mixed (by kernel_rfl) Tryd.ntmps68 Tryd.results68 (by simp) ?_
  push_cast
  refine LoopV.cnt Tryd.mixed [1, 6, 7] s.sent.length (fun k => [(8, .c (.d (.int .i64 k)))]) (fun k => sentL s k (s.sent.drop k) = sentL s 0 s.sent) rfl ?_ (by push_cast)
  intro k hk hin
  push_cast
  refine ⟨fun h => ?_, fun h => ?_⟩
  · have hk' : k < s.sent.length := by omega
    rw [drop_cons hk', sentL] at hin
    have hm := hn _ (List.getElem_mem hk')
    refine ⟨hk', ?_⟩
    refine CallL.q (c72 s.sent[k] hm) ?_
    push_cast
    have hT : (msgF s.sent[k] = 0 ∧ s.sent[k].seq = (k : Int) + 1 ∧ s.sent[k].dst = s.ptn ∧ s.sent[k].req = s.req) → sentL s ((k : Int) + 1) (s.sent.drop (k + 1)) = sentL s 0 s.sent := fun c => by rw [decide_eq_true c, Bool.true_and] at hin; exact hin
    have hF : ¬ (msgF s.sent[k] = 0 ∧ s.sent[k].seq = (k : Int) + 1 ∧ s.sent[k].dst = s.ptn ∧ s.sent[k].req = s.req) → false = sentL s 0 s.sent := fun c => by rw [decide_eq_false c] at hin; exact hin
    refine ⟨fun a1 => ⟨⟨by omega, by omega⟩, fun a2 => ⟨fun a3 => ⟨fun a4 => hF fun q => a4 q.2.2.2, fun a4 => ⟨⟨by omega, by omega⟩, hk', hT ⟨a1, a2, a3, a4⟩⟩⟩, fun a3 => hF fun q => a3 q.2.2.1⟩, fun a2 => hF fun q => a2 q.2.1⟩, fun a1 => hF fun q => a1 q.1⟩
  · rw [← hin, List.drop_eq_nil_of_le (by omega)]; rfl
theorem c69 (s : Side) (hl : s.early.length ≤ 1000000) (hh : 0 ≤ s.heard) (hh2 : s.heard ≤ 1000) (hr : -1000 ≤ s.role) (hr2 : s.role ≤ 1000) (hn : ∀ m ∈ s.early, m.note.length ≤ 100000) : AFn Tryd.prog Γ0 69 [.agg (s.ds.map C.d)] [.d (.bool (earlyL s (s.heard + 1) s.early))] := by
  refine AFn.vc [] Tryd.func69 rfl Tryd.mixed (by kernel_rfl) Tryd.ntmps69 Tryd.results69 (by simp) ?_
  push_cast
  refine ⟨⟨by omega, by omega⟩, ?_⟩
  refine LoopV.of0 Tryd.mixed [1, 10, 11] (fun q : Nat × Int => [(3, .c (.d (.int .i64 q.2))), (12, .c (.d (.int .i64 q.1)))]) (fun q => q.1 ≤ s.early.length ∧ earlyL s q.2 (s.early.drop q.1) = earlyL s (s.heard + 1) s.early) (fun q => s.early.length - q.1) (0, s.heard + 1) ⟨Nat.zero_le _, rfl⟩ ?_ (by push_cast)
  rintro ⟨k, last⟩ ⟨hk, hin⟩
  have hk : k ≤ s.early.length := hk
  have hin : earlyL s last (s.early.drop k) = earlyL s (s.heard + 1) s.early := hin
  push_cast
  refine ⟨fun h => ?_, fun h => ?_⟩
  · have hk' : k < s.early.length := by omega
    rw [drop_cons hk', earlyL] at hin
    have hm := hn _ (List.getElem_mem hk')
    refine ⟨hk', ?_⟩
    refine CallX.q (c72 s.early[k] hm) ?_
    push_cast
    have hT : (msgF s.early[k] = 0 ∧ (ofF s.early[k].kind).role = 3 - s.role ∧ s.early[k].kind ≠ 1 ∧ s.early[k].frm = s.ptn ∧ s.early[k].req = s.req ∧ last < s.early[k].seq) → earlyL s s.early[k].seq (s.early.drop (k + 1)) = earlyL s (s.heard + 1) s.early := fun c => by rw [decide_eq_true c, Bool.true_and] at hin; exact hin
    have hF : ¬ (msgF s.early[k] = 0 ∧ (ofF s.early[k].kind).role = 3 - s.role ∧ s.early[k].kind ≠ 1 ∧ s.early[k].frm = s.ptn ∧ s.early[k].req = s.req ∧ last < s.early[k].seq) → false = earlyL s (s.heard + 1) s.early := fun c => by rw [decide_eq_false c] at hin; exact hin
    refine ⟨fun a1 => ?_, fun a1 => ?_⟩
    · refine CallX.q (c62 s.early[k].kind) ?_
      push_cast
      refine CallX.q (c95 s.role hr hr2) ?_
      push_cast
      refine ⟨fun a2 => ⟨fun a3 => ⟨fun a4 => ⟨fun a5 => ⟨fun a6 => hF fun q => by have := q.2.2.2.2.2; omega, fun a6 => ⟨⟨by omega, by omega⟩, (k + 1, s.early[k].seq), ⟨⟨by show k + 1 ≤ _; omega, hT ⟨a1, a2, a3, a4, a5, a6⟩⟩, by show s.early.length - (k + 1) < s.early.length - k; omega⟩, rfl, by show ((k + 1 : Nat) : Int) = _; omega⟩⟩, fun a5 => hF fun q => a5 q.2.2.2.2.1⟩, fun a4 => hF fun q => a4 q.2.2.2.1⟩, fun a3 => hF fun q => q.2.2.1 a3⟩, fun a2 => hF fun q => a2 q.2.1⟩
    · exact hF fun q => a1 q.1
  · rw [← hin, List.drop_eq_nil_of_le (by omega)]; rfl
structure SmN (s : Side) : Prop where
  l1 : s.sent.length ≤ 100000
  l2 : s.early.length ≤ 100000
  n1 : ∀ m ∈ s.sent, m.note.length ≤ 100000
  n2 : ∀ m ∈ s.early, m.note.length ≤ 100000
theorem inB_iff {n a b : Int} : inB n a b = true ↔ a ≤ n ∧ n ≤ b := by simp [inB]
theorem c26 (s : Side) (hs : SmN s) : AFn Tryd.prog Γ0 26 [.agg (s.ds.map C.d)] [.d (.int .i64 (sideF s))] := by
  refine AFn.vc [] Tryd.func26 rfl Tryd.mixed (by kernel_rfl) Tryd.ntmps26 Tryd.results26 (by simp) ?_
  push_cast
  refine CallL.q (c67 s.req 1 9999) ?_
  push_cast
  refine ⟨fun h1 => ?_, fun h1 => by simp [sideF, h1]⟩
  refine CallL.q (c67 s.ptn 1 4) ?_
  push_cast
  refine ⟨fun h2 => ?_, fun h2 => by simp [sideF, h2]⟩
  refine CallL.q (c67 s.rcd 0 9999) ?_
  push_cast
  refine ⟨fun h3 => ?_, fun h3 => by simp [sideF, h3]⟩
  refine CallL.q (c67 s.due 0 109572) ?_
  push_cast
  refine ⟨fun h4 => ?_, fun h4 => by simp [sideF, h4]⟩
  refine CallL.q (c67 s.heard 0 99) ?_
  push_cast
  refine ⟨fun h5 => by simp [sideF, h5], fun h5 => ?_⟩
  have hh := inB_iff.1 h5
  have e : sideF s = bif decide (s.role ≠ 2 ∧ s.role ≠ 1) || !inB s.state 0 9 then 1
      else bif decide (s.state = 0 ∧ (s.role ≠ 2 ∨ s.heard ≠ 0)) || decide (s.state ≠ 0 ∧ s.role = 2 ∧ s.heard = 0) then 1
      else bif decide (99 < s.sent.length ∨ 8 < s.early.length) then 13
      else bif !(sentL s 0 s.sent && earlyL s (s.heard + 1) s.early) then 3 else 0 := by unfold sideF; rw [h1, h2, h3, h4, h5]; rfl
  rw [e]
  clear e
  by_cases r2 : s.role = 2 <;> by_cases r1 : s.role = 1 <;> by_cases s0 : s.state = 0 <;> by_cases h0 : s.heard = 0
  all_goals
    first | have e1 : (s.role = 2) = True := eq_true r2 | have e1 : (s.role = 2) = False := eq_false r2
    first | have e2 : (s.role = 1) = True := eq_true r1 | have e2 : (s.role = 1) = False := eq_false r1
    first | have e3 : (s.state = 0) = True := eq_true s0 | have e3 : (s.state = 0) = False := eq_false s0
    first | have e4 : (s.heard = 0) = True := eq_true h0 | have e4 : (s.heard = 0) = False := eq_false h0
    push_cast [e1, e2, e3, e4]
  all_goals try (exfalso; omega)
  all_goals try (simp [r1, r2]; done)
  all_goals
    refine CallL.q (c67 s.state 0 9) ?_
    push_cast [e1, e2, e3, e4]
    refine ⟨fun h6 => by simp [h6], fun h6 => ?_⟩
    simp only [h6, Bool.not_true, Bool.or_false]
  all_goals try (simp [r1, r2, s0, h0]; done)
  all_goals
    have e0 : decide (s.role ≠ 2 ∧ s.role ≠ 1) = false := by simp [r1, r2]
    have e00 : (decide (s.state = 0 ∧ (s.role ≠ 2 ∨ s.heard ≠ 0)) || decide (s.state ≠ 0 ∧ s.role = 2 ∧ s.heard = 0)) = false := by simp [r1, r2, s0, h0]
    rw [e0, e00]
    simp only [cond_false]
  all_goals
    have l1 := hs.l1
    have l2 := hs.l2
    have t9 : (8 < s.early.length ∨ 99 < s.sent.length) → decide (99 < s.sent.length ∨ 8 < s.early.length) = true := fun h => decide_eq_true (by omega)
    refine ⟨fun g1 => ⟨fun g2 => by rw [t9 (.inl (by omega))]; rfl, fun g2 => ?_⟩, fun g1 => by rw [t9 (.inr (by omega))]; rfl⟩
    have e9 : decide (99 < s.sent.length ∨ 8 < s.early.length) = false := decide_eq_false (by omega)
    rw [e9]
    simp only [cond_false]
    refine CallL.q (c68 s (by omega) hs.n1) ?_
    push_cast
    refine ⟨fun h7 => ?_, fun h7 => by first | (rw [h7]; rfl) | (rw [h7, h6]; rfl)⟩
    refine CallL.q (c69 s (by omega) (by omega) (by omega) (by omega) (by omega) hs.n2) ?_
    push_cast
    rw [h7]
    refine ⟨fun h8 => by first | (rw [h8]; rfl) | (rw [h8, h6]; rfl), fun h8 => by first | (rw [h8]; rfl) | (rw [h8, h6]; rfl)⟩
end Go.Proofs
