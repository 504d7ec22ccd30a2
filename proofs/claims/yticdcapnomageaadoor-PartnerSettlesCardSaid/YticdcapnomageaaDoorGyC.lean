/- Part of a proof about this program; no condition of its own. -/
import Derived.Test.YticdcapnomageaaDoorGyB
import Derived.Test.YticdcapnomageaaDoorGxD
import Derived.Shelf.Spec.SlicesInsert
import Derived.Lib.AppendZerosOnto
import Derived.Shelf.Spec.SlicesInsertGrow
set_option linter.all false
/- Walks of the chapters on loans between libraries, eighth part: sides. -/
namespace Go.Proofs
open Go Go.Ax Go.Tx Go.Il
set_option maxRecDepth 100000
variable {Γ : List (Nat × List D)}
@[push_cast] theorem Tryd.flT83_0 : flT Tryd.prog 83 0 = some 0 := by kernel_rfl
theorem msg_eq {a b : Msg} (h : a.frm = b.frm ∧ a.dst = b.dst ∧ a.req = b.req ∧ a.seq = b.seq ∧ a.kind = b.kind ∧ a.rcd = b.rcd ∧ a.day = b.day ∧ a.note = b.note) : a = b := by
  obtain ⟨h1, h2, h3, h4, h5, h6, h7, h8⟩ := h
  cases a; cases b; simp_all
theorem c35 (a b : List Msg) (ha : a.length ≤ 1000000) (hb : b.length ≤ 1000000) : AFn Tryd.prog Γ 35 [.c (.bor 8 (a.map Msg.ds)), .c (.bor 8 (b.map Msg.ds))] [.d (.bool (decide (a = b)))] := by
  refine AFn.vc [] Tryd.func35 rfl Tryd.mixed (by kernel_rfl) Tryd.ntmps35 Tryd.results35 (by simp) ?_
  push_cast
  refine ⟨fun h => ?_, fun h => ?_⟩
  · rw [decide_eq_false]; rintro rfl; exact h rfl
  have hlen : a.length = b.length := by omega
  refine LoopV.cnt Tryd.mixed [0, 1] a.length (fun k => [(5, .c (.d (.int .i64 k)))]) (fun k => decide (a = b) = decide (a.drop k = b.drop k)) (by simp) ?_ (by push_cast)
  intro k hk hin
  push_cast
  refine ⟨fun h2 => ?_, fun h2 => ?_⟩
  · have hk' : k < a.length := by omega
    rw [drop_cons hk', drop_cons (show k < b.length by omega)] at hin
    refine ⟨hk', by omega, fun c => ?_, fun c => ⟨⟨by omega, by omega⟩, hk', ?_⟩⟩
    · rw [hin, decide_eq_false]
      intro e
      injection e with e1 _
      rw [e1] at c
      simp at c
    · rw [hin, msg_eq c]
      exact decide_eq_decide.2 ⟨fun e => by injection e, fun e => by rw [e]⟩
  · rw [hin, List.drop_eq_nil_of_le (by omega), List.drop_eq_nil_of_le (by omega)]; rfl
theorem c25 (s : Side) : AFn Tryd.prog Γ 25 [.agg (s.ds.map C.d)] [.d (.bool (smallF s))] := by
  refine AFn.vc [] Tryd.func25 rfl Tryd.mixed (by kernel_rfl) Tryd.ntmps25 Tryd.results25 (by simp) ?_
  push_cast
  refine ⟨fun h => ⟨fun h2 => ?_, fun h2 => ?_⟩, fun h => ?_⟩
  · unfold smallF; rw [decide_eq_false (by omega : ¬ s.early.length ≤ 20), Bool.and_false]; rfl
  · have e : smallF s = (s.sent.all (fun m => decide (m.note.length ≤ 100)) && s.early.all fun m => decide (m.note.length ≤ 100)) := by
      unfold smallF; rw [decide_eq_true (by omega : s.sent.length ≤ 120), decide_eq_true (by omega : s.early.length ≤ 20)]; rfl
    rw [e]
    refine LoopV.cnt Tryd.mixed [1] s.sent.length (fun k => [(3, .c (.d (.int .i64 k)))]) (fun k => s.sent.all (fun m => decide (m.note.length ≤ 100)) = (s.sent.drop k).all (fun m => decide (m.note.length ≤ 100))) (by simp) ?_ (by push_cast)
    intro k hk hin
    push_cast
    refine ⟨fun h3 => ?_, fun h3 => ?_⟩
    · have hk' : k < s.sent.length := by omega
      rw [all_drop _ hk'] at hin
      refine ⟨hk', fun h4 => ?_, fun h4 => ⟨⟨by omega, by omega⟩, ?_⟩⟩
      · rw [hin, decide_eq_false (by omega)]; rfl
      · rw [hin, decide_eq_true (by omega), Bool.true_and]; exact ⟨hk', rfl⟩
    · rw [hin, List.drop_eq_nil_of_le (by omega), List.all_nil, Bool.true_and]
      refine LoopV.cnt Tryd.mixed [1] s.early.length (fun k => [(4, .c (.d (.int .i64 k)))]) (fun k => s.early.all (fun m => decide (m.note.length ≤ 100)) = (s.early.drop k).all (fun m => decide (m.note.length ≤ 100))) (by simp) ?_ (by push_cast)
      intro k hk hin
      push_cast
      refine ⟨fun h3 => ?_, fun h3 => ?_⟩
      · have hk' : k < s.early.length := by omega
        rw [all_drop _ hk'] at hin
        refine ⟨hk', fun h4 => ?_, fun h4 => ⟨⟨by omega, by omega⟩, ?_⟩⟩
        · rw [hin, decide_eq_false (by omega)]; rfl
        · rw [hin, decide_eq_true (by omega), Bool.true_and]; exact ⟨hk', rfl⟩
      · rw [hin, List.drop_eq_nil_of_le (by omega)]; rfl
  · unfold smallF; rw [decide_eq_false (by omega : ¬ s.sent.length ≤ 120)]; rfl
theorem c68 (s : Side) (hl : s.sent.length ≤ 1000000) (hn : ∀ m ∈ s.sent, m.note.length ≤ 100000) : AFn Tryd.prog Γ0 68 [.agg (s.ds.map C.d)] [.d (.bool (sentL s 0 s.sent))] := by
  refine AFn.vc [] Tryd.func68 rfl Tryd.mixed (by kernel_rfl) Tryd.ntmps68 Tryd.results68 (by simp) ?_
  push_cast
  refine LoopV.cnt Tryd.mixed [1, 6, 7] s.sent.length (fun k => [(8, .c (.d (.int .i64 k)))]) (fun k => sentL s k (s.sent.drop k) = sentL s 0 s.sent) rfl ?_ (by push_cast)
  intro k hk hin
  push_cast
  refine ⟨fun h => ?_, fun h => ?_⟩
  · have hk' : k < s.sent.length := by omega
    rw [drop_cons hk', sentL] at hin
    have hm := hn _ (List.getElem_mem hk')
    refine ⟨hk', ?_⟩
    refine CallL.q (c72 s.sent[k] hm) ?_
    push_cast
    have hT : (msgF s.sent[k] = 0 ∧ s.sent[k].seq = (k : Int) + 1 ∧ s.sent[k].dst = s.ptn ∧ s.sent[k].req = s.req) → sentL s ((k : Int) + 1) (s.sent.drop (k + 1)) = sentL s 0 s.sent := fun c => by rw [decide_eq_true c, Bool.true_and] at hin; exact hin
    have hF : ¬ (msgF s.sent[k] = 0 ∧ s.sent[k].seq = (k : Int) + 1 ∧ s.sent[k].dst = s.ptn ∧ s.sent[k].req = s.req) → false = sentL s 0 s.sent := fun c => by rw [decide_eq_false c] at hin; exact hin
    refine ⟨fun a1 => ⟨⟨by omega, by omega⟩, fun a2 => ⟨fun a3 => ⟨fun a4 => hF fun q => a4 q.2.2.2, fun a4 => ⟨⟨by omega, by omega⟩, hk', hT ⟨a1, a2, a3, a4⟩⟩⟩, fun a3 => hF fun q => a3 q.2.2.1⟩, fun a2 => hF fun q => a2 q.2.1⟩, fun a1 => hF fun q => a1 q.1⟩
  · rw [← hin, List.drop_eq_nil_of_le (by omega)]; rfl
theorem c69 (s : Side) (hl : s.early.length ≤ 1000000) (hh : 0 ≤ s.heard) (hh2 : s.heard ≤ 1000) (hr : -1000 ≤ s.role) (hr2 : s.role ≤ 1000) (hn : ∀ m ∈ s.early, m.note.length ≤ 100000) : AFn Tryd.prog Γ0 69 [.agg (s.ds.map C.d)] [.d (.bool (earlyL s (s.heard + 1) s.early))] := by
  refine AFn.vc [] Tryd.func69 rfl Tryd.mixed (by kernel_rfl) Tryd.ntmps69 Tryd.results69 (by simp) ?_
  push_cast
  refine ⟨⟨by omega, by omega⟩, ?_⟩
  refine LoopV.of0 Tryd.mixed [1, 10, 11] (fun q : Nat × Int => [(3, .c (.d (.int .i64 q.2))), (12, .c (.d (.int .i64 q.1)))]) (fun q => q.1 ≤ s.early.length ∧ earlyL s q.2 (s.early.drop q.1) = earlyL s (s.heard + 1) s.early) (fun q => s.early.length - q.1) (0, s.heard + 1) ⟨Nat.zero_le _, rfl⟩ ?_ (by push_cast)
  rintro ⟨k, last⟩ ⟨hk, hin⟩
  have hk : k ≤ s.early.length := hk
  have hin : earlyL s last (s.early.drop k) = earlyL s (s.heard + 1) s.early := hin
  push_cast
  refine ⟨fun h => ?_, fun h => ?_⟩
  · have hk' : k < s.early.length := by omega
    rw [drop_cons hk', earlyL] at hin
    have hm := hn _ (List.getElem_mem hk')
    refine ⟨hk', ?_⟩
    refine CallX.q (c72 s.early[k] hm) ?_
    push_cast
    have hT : (msgF s.early[k] = 0 ∧ (ofF s.early[k].kind).role = 3 - s.role ∧ s.early[k].kind ≠ 1 ∧ s.early[k].frm = s.ptn ∧ s.early[k].req = s.req ∧ last < s.early[k].seq) → earlyL s s.early[k].seq (s.early.drop (k + 1)) = earlyL s (s.heard + 1) s.early := fun c => by rw [decide_eq_true c, Bool.true_and] at hin; exact hin
    have hF : ¬ (msgF s.early[k] = 0 ∧ (ofF s.early[k].kind).role = 3 - s.role ∧ s.early[k].kind ≠ 1 ∧ s.early[k].frm = s.ptn ∧ s.early[k].req = s.req ∧ last < s.early[k].seq) → false = earlyL s (s.heard + 1) s.early := fun c => by rw [decide_eq_false c] at hin; exact hin
    refine ⟨fun a1 => ?_, fun a1 => ?_⟩
    · refine CallX.q (c62 s.early[k].kind) ?_
      push_cast
      refine CallX.q (c95 s.role hr hr2) ?_
      push_cast
      refine ⟨fun a2 => ⟨fun a3 => ⟨fun a4 => ⟨fun a5 => ⟨fun a6 => hF fun q => by have := q.2.2.2.2.2; omega, fun a6 => ⟨⟨by omega, by omega⟩, (k + 1, s.early[k].seq), ⟨⟨by show k + 1 ≤ _; omega, hT ⟨a1, a2, a3, a4, a5, a6⟩⟩, by show s.early.length - (k + 1) < s.early.length - k; omega⟩, rfl, by show ((k + 1 : Nat) : Int) = _; omega⟩⟩, fun a5 => hF fun q => a5 q.2.2.2.2.1⟩, fun a4 => hF fun q => a4 q.2.2.2.1⟩, fun a3 => hF fun q => q.2.2.1 a3⟩, fun a2 => hF fun q => a2 q.2.1⟩
    · exact hF fun q => a1 q.1
  · rw [← hin, List.drop_eq_nil_of_le (by omega)]; rfl
structure SmN (s : Side) : Prop where
  l1 : s.sent.length ≤ 100000
  l2 : s.early.length ≤ 100000
  n1 : ∀ m ∈ s.sent, m.note.length ≤ 100000
  n2 : ∀ m ∈ s.early, m.note.length ≤ 100000
theorem inB_iff {n a b : Int} : inB n a b = true ↔ a ≤ n ∧ n ≤ b := by simp [inB]
theorem c26 (s : Side) (hs : SmN s) : AFn Tryd.prog Γ0 26 [.agg (s.ds.map C.d)] [.d (.int .i64 (sideF s))] := by
  refine AFn.vc [] Tryd.func26 rfl Tryd.mixed (by kernel_rfl) Tryd.ntmps26 Tryd.results26 (by simp) ?_
  push_cast
  refine CallL.q (c67 s.req 1 9999) ?_
  push_cast
  refine ⟨fun h1 => ?_, fun h1 => by simp [sideF, h1]⟩
  refine CallL.q (c67 s.ptn 1 4) ?_
  push_cast
  refine ⟨fun h2 => ?_, fun h2 => by simp [sideF, h2]⟩
  refine CallL.q (c67 s.rcd 0 9999) ?_
  push_cast
  refine ⟨fun h3 => ?_, fun h3 => by simp [sideF, h3]⟩
  refine CallL.q (c67 s.due 0 109572) ?_
  push_cast
  refine ⟨fun h4 => ?_, fun h4 => by simp [sideF, h4]⟩
  refine CallL.q (c67 s.heard 0 99) ?_
  push_cast
  refine ⟨fun h5 => by simp [sideF, h5], fun h5 => ?_⟩
  have hh := inB_iff.1 h5
  have e : sideF s = bif decide (s.role ≠ 2 ∧ s.role ≠ 1) || !inB s.state 0 9 then 1
      else bif decide (s.state = 0 ∧ (s.role ≠ 2 ∨ s.heard ≠ 0)) || decide (s.state ≠ 0 ∧ s.role = 2 ∧ s.heard = 0) then 1
      else bif decide (99 < s.sent.length ∨ 8 < s.early.length) then 13
      else bif !(sentL s 0 s.sent && earlyL s (s.heard + 1) s.early) then 3 else 0 := by unfold sideF; rw [h1, h2, h3, h4, h5]; rfl
  rw [e]
  clear e
  by_cases r2 : s.role = 2 <;> by_cases r1 : s.role = 1 <;> by_cases s0 : s.state = 0 <;> by_cases h0 : s.heard = 0
  all_goals
    first | have e1 : (s.role = 2) = True := eq_true r2 | have e1 : (s.role = 2) = False := eq_false r2
    first | have e2 : (s.role = 1) = True := eq_true r1 | have e2 : (s.role = 1) = False := eq_false r1
    first | have e3 : (s.state = 0) = True := eq_true s0 | have e3 : (s.state = 0) = False := eq_false s0
    first | have e4 : (s.heard = 0) = True := eq_true h0 | have e4 : (s.heard = 0) = False := eq_false h0
    push_cast [e1, e2, e3, e4]
  all_goals try (exfalso; omega)
  all_goals try (simp [r1, r2]; done)
  all_goals
    refine CallL.q (c67 s.state 0 9) ?_
    push_cast [e1, e2, e3, e4]
    refine ⟨fun h6 => by simp [h6], fun h6 => ?_⟩
    simp only [h6, Bool.not_true, Bool.or_false]
  all_goals try (simp [r1, r2, s0, h0]; done)
  all_goals
    have e0 : decide (s.role ≠ 2 ∧ s.role ≠ 1) = false := by simp [r1, r2]
    have e00 : (decide (s.state = 0 ∧ (s.role ≠ 2 ∨ s.heard ≠ 0)) || decide (s.state ≠ 0 ∧ s.role = 2 ∧ s.heard = 0)) = false := by simp [r1, r2, s0, h0]
    rw [e0, e00]
    simp only [cond_false]
  all_goals
    have l1 := hs.l1
    have l2 := hs.l2
    have t9 : (8 < s.early.length ∨ 99 < s.sent.length) → decide (99 < s.sent.length ∨ 8 < s.early.length) = true := fun h => decide_eq_true (by omega)
    refine ⟨fun g1 => ⟨fun g2 => by rw [t9 (.inl (by omega))]; rfl, fun g2 => ?_⟩, fun g1 => by rw [t9 (.inr (by omega))]; rfl⟩
    have e9 : decide (99 < s.sent.length ∨ 8 < s.early.length) = false := decide_eq_false (by omega)
    rw [e9]
    simp only [cond_false]
    refine CallL.q (c68 s (by omega) hs.n1) ?_
    push_cast
    refine ⟨fun h7 => ?_, fun h7 => by first | (rw [h7]; rfl) | (rw [h7, h6]; rfl)⟩
    refine CallL.q (c69 s (by omega) (by omega) (by omega) (by omega) (by omega) hs.n2) ?_
    push_cast
    rw [h7]
    refine ⟨fun h8 => by first | (rw [h8]; rfl) | (rw [h8, h6]; rfl), fun h8 => by first | (rw [h8]; rfl) | (rw [h8, h6]; rfl)⟩
end Go.Proofs

/- Walks of the chapters on loans between libraries, ninth part: the reference's Right. -/
namespace Go.Proofs
open Go Go.Ax Go.Tx Go.Il
set_option maxRecDepth 100000
variable {Γ : List (Nat × List D)}
theorem side_rng {s : Side} (h : s.req < 1 ∨ 9999 < s.req ∨ s.ptn < 1 ∨ 4 < s.ptn ∨ s.rcd < 0 ∨ 9999 < s.rcd ∨ s.due < 0 ∨ 109572 < s.due ∨ s.heard < 0 ∨ 99 < s.heard) : sideF s = 2 := by
  have e : (inB s.req 1 9999 && inB s.ptn 1 4 && inB s.rcd 0 9999 && inB s.due 0 109572 && inB s.heard 0 99) = false := by
    rw [Bool.eq_false_iff]
    simp only [Bool.and_eq_true, inB_iff, ne_eq]
    omega
  unfold sideF
  rw [e]; rfl
theorem c71' (r : Int) (h : r = 1 ∨ r = 2) : AFn Tryd.prog Γ 71 [.c (.d (.int .i64 r))] [.d (.int .i64 (3 - r))] := by
  have := c71 (Γ := Γ) r
  have e : (if r = 2 then (1 : Int) else 2) = 3 - r := by split <;> omega
  rwa [e] at this
theorem c70' (r kind : Int) (h : r = 1 ∨ r = 2) : AFn Tryd.prog Γ 70 [.c (.d (.int .i64 (3 - r))), .c (.d (.int .i64 kind))] [.d (.bool (decide ((ofF kind).role = 3 - r)))] := by
  rcases h with rfl | rfl
  · exact c70_2 kind
  · exact c70_1 kind
def lastQ (s : Side) (k : Nat) : Int := if k = 0 then s.heard + 1 else ((s.early[k - 1]?).map Msg.seq).getD 0
set_option maxHeartbeats 4000000 in
theorem c27 (s : Side) (hs : SmN s) : AFn Tryd.prog Γ 27 [.agg (s.ds.map C.d)] [.d (.int .i64 (sideF s))] := by
  by_cases q0 : s.req < 1
  · have f0 : (s.req < 1) = True := eq_true q0
    rw [side_rng (by omega)]
    refine AFn.vc [] Tryd.func27 rfl Tryd.mixed (by kernel_rfl) Tryd.ntmps27 Tryd.results27 (by simp) ?_
    push_cast [f0]
  have f0 : (s.req < 1) = False := eq_false q0
  by_cases q1 : 9999 < s.req
  · have f1 : (9999 < s.req) = True := eq_true q1
    rw [side_rng (by omega)]
    refine AFn.vc [] Tryd.func27 rfl Tryd.mixed (by kernel_rfl) Tryd.ntmps27 Tryd.results27 (by simp) ?_
    push_cast [f0, f1]
  have f1 : (9999 < s.req) = False := eq_false q1
  by_cases q2 : s.ptn < 1
  · have f2 : (s.ptn < 1) = True := eq_true q2
    rw [side_rng (by omega)]
    refine AFn.vc [] Tryd.func27 rfl Tryd.mixed (by kernel_rfl) Tryd.ntmps27 Tryd.results27 (by simp) ?_
    push_cast [f0, f1, f2]
  have f2 : (s.ptn < 1) = False := eq_false q2
  by_cases q3 : 4 < s.ptn
  · have f3 : (4 < s.ptn) = True := eq_true q3
    rw [side_rng (by omega)]
    refine AFn.vc [] Tryd.func27 rfl Tryd.mixed (by kernel_rfl) Tryd.ntmps27 Tryd.results27 (by simp) ?_
    push_cast [f0, f1, f2, f3]
  have f3 : (4 < s.ptn) = False := eq_false q3
  by_cases q4 : s.rcd < 0
  · have f4 : (s.rcd < 0) = True := eq_true q4
    rw [side_rng (by omega)]
    refine AFn.vc [] Tryd.func27 rfl Tryd.mixed (by kernel_rfl) Tryd.ntmps27 Tryd.results27 (by simp) ?_
    push_cast [f0, f1, f2, f3, f4]
  have f4 : (s.rcd < 0) = False := eq_false q4
  by_cases q5 : 9999 < s.rcd
  · have f5 : (9999 < s.rcd) = True := eq_true q5
    rw [side_rng (by omega)]
    refine AFn.vc [] Tryd.func27 rfl Tryd.mixed (by kernel_rfl) Tryd.ntmps27 Tryd.results27 (by simp) ?_
    push_cast [f0, f1, f2, f3, f4, f5]
  have f5 : (9999 < s.rcd) = False := eq_false q5
  by_cases q6 : s.due < 0
  · have f6 : (s.due < 0) = True := eq_true q6
    rw [side_rng (by omega)]
    refine AFn.vc [] Tryd.func27 rfl Tryd.mixed (by kernel_rfl) Tryd.ntmps27 Tryd.results27 (by simp) ?_
    push_cast [f0, f1, f2, f3, f4, f5, f6]
  have f6 : (s.due < 0) = False := eq_false q6
  by_cases q7 : 109572 < s.due
  · have f7 : (109572 < s.due) = True := eq_true q7
    rw [side_rng (by omega)]
    refine AFn.vc [] Tryd.func27 rfl Tryd.mixed (by kernel_rfl) Tryd.ntmps27 Tryd.results27 (by simp) ?_
    push_cast [f0, f1, f2, f3, f4, f5, f6, f7]
  have f7 : (109572 < s.due) = False := eq_false q7
  by_cases q8 : s.heard < 0
  · have f8 : (s.heard < 0) = True := eq_true q8
    rw [side_rng (by omega)]
    refine AFn.vc [] Tryd.func27 rfl Tryd.mixed (by kernel_rfl) Tryd.ntmps27 Tryd.results27 (by simp) ?_
    push_cast [f0, f1, f2, f3, f4, f5, f6, f7, f8]
  have f8 : (s.heard < 0) = False := eq_false q8
  by_cases q9 : 99 < s.heard
  · have f9 : (99 < s.heard) = True := eq_true q9
    rw [side_rng (by omega)]
    refine AFn.vc [] Tryd.func27 rfl Tryd.mixed (by kernel_rfl) Tryd.ntmps27 Tryd.results27 (by simp) ?_
    push_cast [f0, f1, f2, f3, f4, f5, f6, f7, f8, f9]
  have f9 : (99 < s.heard) = False := eq_false q9
  have er : (inB s.req 1 9999 && inB s.ptn 1 4 && inB s.rcd 0 9999 && inB s.due 0 109572 && inB s.heard 0 99) = true := by
    simp only [Bool.and_eq_true, inB_iff]; omega
  have e : sideF s = bif decide (s.role ≠ 2 ∧ s.role ≠ 1) || !inB s.state 0 9 then 1
      else bif decide (s.state = 0 ∧ (s.role ≠ 2 ∨ s.heard ≠ 0)) || decide (s.state ≠ 0 ∧ s.role = 2 ∧ s.heard = 0) then 1
      else bif decide (99 < s.sent.length ∨ 8 < s.early.length) then 13
      else bif !(sentL s 0 s.sent && earlyL s (s.heard + 1) s.early) then 3 else 0 := by unfold sideF; rw [er]; rfl
  rw [e]
  by_cases r : s.role ≠ 2 ∧ s.role ≠ 1
  · rw [decide_eq_true r]
    have e1 : (s.role = 2) = False := eq_false r.1
    have e2 : (s.role = 1) = False := eq_false r.2
    refine AFn.vc [] Tryd.func27 rfl Tryd.mixed (by kernel_rfl) Tryd.ntmps27 Tryd.results27 (by simp) ?_
    push_cast [f0, f1, f2, f3, f4, f5, f6, f7, f8, f9, e1, e2]
  rw [decide_eq_false r]
  by_cases t1 : s.state < 0
  · have e1 : (s.state < 0) = True := eq_true t1
    have e2 : inB s.state 0 9 = false := by rw [Bool.eq_false_iff, ne_eq, inB_iff]; omega
    rw [e2]
    by_cases r2 : s.role = 2 <;> by_cases r1 : s.role = 1
    all_goals try (exfalso; omega)
    all_goals
      first | have e3 : (s.role = 2) = True := eq_true r2 | have e3 : (s.role = 2) = False := eq_false r2
      first | have e4 : (s.role = 1) = True := eq_true r1 | have e4 : (s.role = 1) = False := eq_false r1
      refine AFn.vc [] Tryd.func27 rfl Tryd.mixed (by kernel_rfl) Tryd.ntmps27 Tryd.results27 (by simp) ?_
      push_cast [f0, f1, f2, f3, f4, f5, f6, f7, f8, f9, e1, e3, e4]
  have g1 : (s.state < 0) = False := eq_false t1
  by_cases t2 : 9 < s.state
  · have e1 : (9 < s.state) = True := eq_true t2
    have e2 : inB s.state 0 9 = false := by rw [Bool.eq_false_iff, ne_eq, inB_iff]; omega
    rw [e2]
    by_cases r2 : s.role = 2 <;> by_cases r1 : s.role = 1
    all_goals try (exfalso; omega)
    all_goals
      first | have e3 : (s.role = 2) = True := eq_true r2 | have e3 : (s.role = 2) = False := eq_false r2
      first | have e4 : (s.role = 1) = True := eq_true r1 | have e4 : (s.role = 1) = False := eq_false r1
      refine AFn.vc [] Tryd.func27 rfl Tryd.mixed (by kernel_rfl) Tryd.ntmps27 Tryd.results27 (by simp) ?_
      push_cast [f0, f1, f2, f3, f4, f5, f6, f7, f8, f9, g1, e1, e3, e4]
  have g2 : (9 < s.state) = False := eq_false t2
  have es : inB s.state 0 9 = true := inB_iff.2 ⟨by omega, by omega⟩
  rw [es]
  simp only [Bool.or_false, Bool.not_true, cond_false]
  by_cases hv : (s.state = 0 ∧ (s.role ≠ 2 ∨ s.heard ≠ 0)) ∨ (s.state ≠ 0 ∧ s.role = 2 ∧ s.heard = 0)
  · have hd : (decide (s.state = 0 ∧ (s.role ≠ 2 ∨ s.heard ≠ 0)) || decide (s.state ≠ 0 ∧ s.role = 2 ∧ s.heard = 0)) = true := by rw [Bool.or_eq_true, decide_eq_true_eq, decide_eq_true_eq]; exact hv
    rw [hd, cond_true]
    by_cases r2 : s.role = 2 <;> by_cases r1 : s.role = 1 <;> by_cases s0 : s.state = 0 <;> by_cases h0 : s.heard = 0
    all_goals try (exfalso; omega)
    all_goals
      first | have e1 : (s.role = 2) = True := eq_true r2 | have e1 : (s.role = 2) = False := eq_false r2
      first | have e2 : (s.role = 1) = True := eq_true r1 | have e2 : (s.role = 1) = False := eq_false r1
      first | have e3 : (s.state = 0) = True := eq_true s0 | have e3 : (s.state = 0) = False := eq_false s0
      first | have e4 : (s.heard = 0) = True := eq_true h0 | have e4 : (s.heard = 0) = False := eq_false h0
      refine AFn.vc [] Tryd.func27 rfl Tryd.mixed (by kernel_rfl) Tryd.ntmps27 Tryd.results27 (by simp) ?_
      push_cast [f0, f1, f2, f3, f4, f5, f6, f7, f8, f9, g1, g2, e1, e2, e3, e4]
  have hd : (decide (s.state = 0 ∧ (s.role ≠ 2 ∨ s.heard ≠ 0)) || decide (s.state ≠ 0 ∧ s.role = 2 ∧ s.heard = 0)) = false := by
    rw [Bool.or_eq_false_iff, decide_eq_false_iff_not, decide_eq_false_iff_not]; exact not_or.1 hv
  rw [hd, cond_false]
  clear hd
  by_cases r2 : s.role = 2 <;> by_cases r1 : s.role = 1 <;> by_cases s0 : s.state = 0 <;> by_cases h0 : s.heard = 0
  all_goals try (exfalso; omega)
  all_goals
    first | have e1 : (s.role = 2) = True := eq_true r2 | have e1 : (s.role = 2) = False := eq_false r2
    first | have e2 : (s.role = 1) = True := eq_true r1 | have e2 : (s.role = 1) = False := eq_false r1
    first | have e3 : (s.state = 0) = True := eq_true s0 | have e3 : (s.state = 0) = False := eq_false s0
    first | have e4 : (s.heard = 0) = True := eq_true h0 | have e4 : (s.heard = 0) = False := eq_false h0
    refine AFn.vc [] Tryd.func27 rfl Tryd.mixed (by kernel_rfl) Tryd.ntmps27 Tryd.results27 (by simp) ?_
    push_cast [f0, f1, f2, f3, f4, f5, f6, f7, f8, f9, g1, g2, e1, e2, e3, e4]
  all_goals
    have l1 := hs.l1
    have l2 := hs.l2
    have hrole : (if s.role = 2 then (1 : Int) else 2) = 3 - s.role := by split <;> omega
    refine ⟨fun a1 => ⟨fun a2 => ?_, fun a2 => ?_⟩, fun a1 => ?_⟩
    · rw [decide_eq_true (show 99 < s.sent.length ∨ 8 < s.early.length by omega)]; rfl
    · rw [decide_eq_false (show ¬ (99 < s.sent.length ∨ 8 < s.early.length) by omega)]
      simp only [cond_false]
      refine LoopV.cnt Tryd.mixed [1] s.sent.length (fun k => [(3, .c (.d (.int .i64 k)))]) (fun k => sentL s k (s.sent.drop k) = sentL s 0 s.sent) rfl ?_ (by push_cast)
      intro k hk hin
      push_cast
      refine ⟨fun h => ?_, fun h => ?_⟩
      · have hk' : k < s.sent.length := by omega
        rw [drop_cons hk', sentL] at hin
        have hm := hs.n1 _ (List.getElem_mem hk')
        refine ⟨hk', ?_⟩
        refine CallL.q (c61 s.sent[k] hm) ?_
        push_cast
        have hT : (msgF s.sent[k] = 0 ∧ s.sent[k].seq = (k : Int) + 1 ∧ s.sent[k].dst = s.ptn ∧ s.sent[k].req = s.req) → sentL s ((k : Int) + 1) (s.sent.drop (k + 1)) = sentL s 0 s.sent := fun c => by rw [decide_eq_true c, Bool.true_and] at hin; exact hin
        have hF : ¬ (msgF s.sent[k] = 0 ∧ s.sent[k].seq = (k : Int) + 1 ∧ s.sent[k].dst = s.ptn ∧ s.sent[k].req = s.req) → (3 : Int) = bif !(sentL s 0 s.sent && earlyL s (s.heard + 1) s.early) then 3 else 0 := fun c => by rw [decide_eq_false c, Bool.false_and] at hin; rw [← hin]; rfl
        refine ⟨fun a1 => ⟨⟨by omega, by omega⟩, fun a2 => ⟨fun a3 => ⟨fun a4 => hF fun q => a4 q.2.2.2, fun a4 => ⟨⟨by omega, by omega⟩, hk', hT ⟨a1, a2, a3, a4⟩⟩⟩, fun a3 => hF fun q => a3 q.2.2.1⟩, fun a2 => hF fun q => a2 q.2.1⟩, fun a1 => hF fun q => a1 q.1⟩
      · have hsent : sentL s 0 s.sent = true := by rw [← hin, List.drop_eq_nil_of_le (by omega)]; rfl
        rw [hsent, Bool.true_and]
        have hl0 : ∀ k, k ≤ s.early.length → s.heard + 1 ≤ lastQ s k → True := fun _ _ _ => trivial
        refine LoopV.cnt Tryd.mixed [1] s.early.length (fun k => [(5, .c (.d (.int .i64 k)))]) (fun k => earlyL s (lastQ s k) (s.early.drop k) = earlyL s (s.heard + 1) s.early ∧ s.heard + 1 ≤ lastQ s k) ⟨rfl, Int.le_refl _⟩ ?_ (by push_cast)
        intro k hk hin
        obtain ⟨hin, hin2⟩ := hin
        push_cast
        refine ⟨fun h => ?_, fun h => ?_⟩
        · have hk' : k < s.early.length := by omega
          have hm := hs.n2 _ (List.getElem_mem hk')
          have hlast : lastQ s (k + 1) = s.early[k].seq := by simp [lastQ, hk']
          rw [drop_cons hk', earlyL] at hin
          refine ⟨hk', ?_⟩
          refine CallX.q (c61 s.early[k] hm) ?_
          push_cast
          have hT : (msgF s.early[k] = 0 ∧ (ofF s.early[k].kind).role = 3 - s.role ∧ s.early[k].kind ≠ 1 ∧ s.early[k].frm = s.ptn ∧ s.early[k].req = s.req ∧ lastQ s k < s.early[k].seq) → earlyL s s.early[k].seq (s.early.drop (k + 1)) = earlyL s (s.heard + 1) s.early := fun c => by rw [decide_eq_true c, Bool.true_and] at hin; exact hin
          have hF : ¬ (msgF s.early[k] = 0 ∧ (ofF s.early[k].kind).role = 3 - s.role ∧ s.early[k].kind ≠ 1 ∧ s.early[k].frm = s.ptn ∧ s.early[k].req = s.req ∧ lastQ s k < s.early[k].seq) → (3 : Int) = bif !(earlyL s (s.heard + 1) s.early) then 3 else 0 := fun c => by rw [decide_eq_false c, Bool.false_and] at hin; rw [← hin]; rfl
          refine ⟨fun a1 => ?_, fun a1 => hF fun q => a1 q.1⟩
          refine CallX.q (c71' s.role (by omega)) ?_
          push_cast
          refine CallX.q (c70' s.role s.early[k].kind (by omega)) ?_
          push_cast
          have fin : s.early[k].seq > lastQ s k → (ofF s.early[k].kind).role = 3 - s.role → s.early[k].kind ≠ 1 → s.early[k].frm = s.ptn → s.early[k].req = s.req → ((-9223372036854775808 ≤ (k : Int) + 1 ∧ (k : Int) + 1 ≤ 9223372036854775807) ∧ k < s.early.length ∧ earlyL s (lastQ s (k + 1)) (s.early.drop (k + 1)) = earlyL s (s.heard + 1) s.early ∧ s.heard + 1 ≤ lastQ s (k + 1)) := fun b1 b2 b3 b4 b5 => ⟨⟨by omega, by omega⟩, hk', by rw [hlast]; exact hT ⟨a1, b2, b3, b4, b5, b1⟩, by rw [hlast]; omega⟩
          refine ⟨fun a2 => ⟨fun a3 => ⟨fun a4 => ⟨fun a5 => ⟨⟨by omega, by omega⟩, fun a6 => ⟨fun a7 => ?_, fun a7 => ?_⟩, fun a6 => hF fun q => by have := q.2.2.2.2.2; omega⟩, fun a5 => hF fun q => a5 q.2.2.2.2.1⟩, fun a4 => hF fun q => a4 q.2.2.2.1⟩, fun a3 => hF fun q => q.2.2.1 a3⟩, fun a2 => hF fun q => a2 q.2.1⟩
          · have hkm : ((k : Int) - 1).toNat = k - 1 := by omega
            have hk0 : lastQ s k = (s.early[k - 1]'(by omega)).seq := by
              unfold lastQ
              rw [if_neg (by omega), List.getElem?_eq_getElem (by omega)]; rfl
            simp only [hkm]
            exact ⟨⟨by omega, by omega⟩, by omega, by omega, fun a8 => hF fun q => by have := q.2.2.2.2.2; omega, fun a8 => fin (by omega) a2 a3 a4 a5⟩
          · have hk0 : lastQ s k = s.heard + 1 := by
              unfold lastQ
              rw [if_pos (by omega)]
            exact fin (by omega) a2 a3 a4 a5
        · have hend : earlyL s (s.heard + 1) s.early = true := by rw [← hin, List.drop_eq_nil_of_le (by omega)]; rfl
          rw [hend]; rfl
    · rw [decide_eq_true (show 99 < s.sent.length ∨ 8 < s.early.length by omega)]; rfl
end Go.Proofs

/- Walks of the chapters on loans between libraries, tenth part: requests. -/
namespace Go.Proofs
open Go Go.Ax Go.Tx Go.Il
set_option maxRecDepth 100000
variable {Γ : List (Nat × List D)}
theorem c74 (l : List Msg) (hl : l.length ≤ 1000000) : AFn Tryd.prog Γ 74 [.c (.bor 8 (l.map Msg.ds))] [.fresh 28 8 (l.map Msg.ds)] := by
  refine AFn.vc [] Tryd.func74 rfl Tryd.mixed (by kernel_rfl) Tryd.ntmps74 Tryd.results74 (by simp) ?_
  push_cast
  exact ⟨fun _ => ⟨by omega, by omega⟩, fun h b => ⟨fun _ => h, fun _ => ⟨by omega, by omega⟩⟩⟩
theorem c97 (x : Msg) (q : Int) (h : inK .i64 (x.seq - q)) : AFn Tryd.prog Γ 97 [.agg (x.ds.map C.d), .c (.d (.int .i64 q))] [.d (.int .i64 (x.seq - q))] := by
  refine AFn.vc [] Tryd.func97 rfl Tryd.mixed (by kernel_rfl) Tryd.ntmps97 Tryd.results97 (by simp) ?_
  push_cast
  exact ⟨h.1, h.2⟩
def cmpS : List AV → List RV → Prop := fun a r => ∃ (x : Msg) (q : Int), inK .i64 (x.seq - q) ∧ a = [.agg (x.ds.map C.d), .c (.d (.int .i64 q))] ∧ r = [.d (.int .i64 (x.seq - q))]
def lowN (l : List Msg) (q : Int) : Nat := (l.takeWhile fun m => decide (m.seq < q)).length
def atN (l : List Msg) (q : Int) : Bool := match l[lowN l q]? with | some m => decide (m.seq = q) | none => false
theorem lowN_le (q : Int) : ∀ l : List Msg, lowN l q ≤ l.length
  | [] => Nat.le_refl _
  | m :: r => by
    have := lowN_le q r
    unfold lowN at this ⊢
    rw [List.takeWhile_cons]
    split
    · simp; omega
    · simp
theorem lowN_eq (q : Int) : ∀ (l : List Msg) (i : Nat) (hi : i ≤ l.length), (∀ k (h : k < l.length), k < i → l[k].seq < q) → (∀ k (h : k < l.length), i ≤ k → q ≤ l[k].seq) → lowN l q = i
  | [], i, hi, _, _ => by simp at hi; subst hi; rfl
  | m :: r, 0, _, _, h2 => by
    have := h2 0 (by simp) (Nat.le_refl _)
    unfold lowN
    rw [List.takeWhile_cons, if_neg (by simpa using this)]; rfl
  | m :: r, i + 1, hi, h1, h2 => by
    have h0 := h1 0 (by simp) (by omega)
    have ih := lowN_eq q r i (by simpa using hi) (fun k h hk => h1 (k + 1) (by simpa using h) (by omega)) (fun k h hk => h2 (k + 1) (by simpa using h) (by omega))
    unfold lowN at ih ⊢
    rw [List.takeWhile_cons, if_pos (by simpa using h0), List.length_cons, ih]
def AscS (l : List Msg) : Prop := ∀ i j (hi : i < l.length) (hj : j < l.length), i < j → l[i].seq < l[j].seq
theorem c96 (l : List Msg) (q : Int) (hl : l.length ≤ 1000000) (hs : AscS l) (hq : ∀ m ∈ l, inK .i64 (m.seq - q)) :
    AFn Tryd.prog Γ 96 [.c (.bor 8 (l.map Msg.ds)), .c (.d (.int .i64 q)), .c (.fn (FnSpec Tryd.prog Γ cmpS))] [.d (.int .i64 (lowN l q)), .d (.bool (atN l q))] := by
  refine AFn.vc [] Tryd.func96 rfl Tryd.mixed (by kernel_rfl) Tryd.ntmps96 Tryd.results96 (by simp) ?_
  push_cast
  refine LoopV.of0 Tryd.mixed [0, 1, 2, 8] (fun s : Nat × Nat => [(9, .c (.d (.int .i64 s.1))), (10, .c (.d (.int .i64 s.2)))]) (fun s => s.1 ≤ s.2 ∧ s.2 ≤ l.length ∧ (∀ k (h : k < l.length), k < s.1 → l[k].seq < q) ∧ ∀ k (h : k < l.length), s.2 ≤ k → q ≤ l[k].seq) (fun s => s.2 - s.1) (0, l.length) ⟨by omega, Nat.le_refl _, fun k h hk => (by omega), fun k h hk => (by omega)⟩ ?_ (by push_cast)
  rintro ⟨i, j⟩ ⟨h1, h2, h3, h4⟩
  push_cast
  simp only at h1 h2 h3 h4
  refine ⟨fun hlt => ?_, fun hge => ?_⟩
  · have hlt' : i < j := by omega
    obtain ⟨h, hh⟩ : ∃ h : Nat, ((i : Int) + (j : Int)) / 2 = h := ⟨(i + j) / 2, by omega⟩
    have hi1 : i ≤ h := by omega
    have hi2 : h < j := by omega
    simp only [hh, Int.toNat_natCast]
    refine ⟨by omega, by omega, by omega, by omega, by omega, CallL.fn _ _ ⟨l[h]'(by omega), q, hq _ (List.getElem_mem _), rfl, rfl⟩ ?_⟩
    push_cast
    refine ⟨fun h5 => ⟨by omega, (h + 1, j), ⟨⟨by simp only; omega, by simp only; omega, fun k hk hk' => ?_, fun k hk hk' => h4 k hk hk'⟩, by simp only; omega⟩, by simp only; omega, rfl⟩, fun h5 => ⟨(i, h), ⟨⟨by simp only; omega, by simp only; omega, fun k hk hk' => h3 k hk hk', fun k hk hk' => ?_⟩, by simp only; omega⟩, rfl, rfl⟩⟩
    · simp only at hk'
      by_cases hkh : k = h
      · subst hkh; omega
      · have := hs k h hk (by omega) (by omega)
        omega
    · simp only at hk'
      by_cases hkh : k = h
      · subst hkh; omega
      · have := hs h k (by omega) hk (by omega)
        omega
  · have hij : i = j := by omega
    subst hij
    have hlow := lowN_eq q l i h2 h3 h4
    refine ⟨fun h5 => ⟨by omega, CallL.fn _ _ ⟨l[i]'(by omega), q, hq _ (List.getElem_mem _), rfl, rfl⟩ ?_⟩, fun h5 => ?_⟩
    · push_cast
      rw [hlow]
      refine ⟨rfl, ?_⟩
      unfold atN
      rw [hlow, List.getElem?_eq_getElem (by omega)]
      have e : (l[i].seq - q = 0) = (l[i].seq = q) := propext (by omega)
      simp only [e]
    · rw [hlow]
      unfold atN
      rw [hlow, List.getElem?_eq_none (by omega)]
      exact ⟨rfl, rfl⟩
end Go.Proofs

/- slices.Insert at elements of several cells: room for one more, i < len(s): in place. No condition. -/
namespace Go.Proofs
open Go Go.Ax Go.RowKit
set_option maxRecDepth 100000
theorem run_copy_rowK {P : Program} (w : World) (dT sT ty elem : TypeId) (k g o dLen dCap : Nat) (a : Addr) (sLen sCap : Nat) (cur : Array Value) (t : TypeId) (cs : List Value)
    (hu : P.underlying dT = some (.slice elem)) (hs : (P.info? elem).map (·.size) = some k)
    (hg : w.heap[g]? = some (.cells cur t (0, 0))) (hn : cs.length = Nat.min sLen dLen * k)
    (hsrc : ∀ j v, cs[j]? = some v → w.cell? (a.add j) = some v) (hfit : o + cs.length ≤ cur.size) (h1 : ∀ v ∈ cs, v.oneCell' = true) :
    (Builtin.copy_ #[dT, sT] ty #[.slice (some ⟨g, o, none⟩) dLen dCap, .slice (some a) sLen sCap]).run P w =
      .ok (goInt (Nat.min sLen dLen)) (w.setRow g (cur.toList.take o ++ cs ++ cur.toList.drop (o + cs.length)).toArray) := by
  have hl := run_loadCells_list (P := P) w a cs hsrc
  have hst := run_storeCells_at P g o t cs 0 cur w hg (by simpa using hfit) h1
  cases hq : P.info? elem with
  | none => simp [hq] at hs
  | some i =>
    have hi : i.size = k := by simpa [hq] using hs
    simp [Builtin.copy_, run_underlying hu, Builtin.lenOf, Builtin.firstCells, sizeOf, typeInfo, hq, hi, ← hn, hl, hst]
theorem run_overlaps_own {P : Program} (w : World) (tS tR e : TypeId) (ht : P.underlying tS = some (.slice e)) (size : Nat) (hz : ∀ w, (Go.sizeOf e).run P w = .ok size w)
    (a : Addr) (g o : Nat) (la ca lb cb : Nat) (hne : a.block ≠ g) (ha : ∃ c t fr, w.heap[a.block]? = some (.cells c t fr) ∧ c.size ≠ 0) (cur : Array Value) (t : TypeId) (hg : w.heap[g]? = some (.cells cur t (0, 0))) (hcur : cur.size ≠ 0) :
    (Extern.SlicesOverlaps.overlaps #[tS, tS] #[tR] #[.slice (some a) la ca, .slice (some ⟨g, o, none⟩) lb cb]).run P w = .ok (.bool false) w := by
  obtain ⟨ca', ta, fra, ha, hca⟩ := ha
  have hnb : (a.block != g) = true := by simpa using hne
  have hnb' : (a.block == g) = false := by simpa using hne
  have hfb : ∀ o, w.frozen? ⟨g, o, none⟩ = false := fun o => by simp [World.frozen?, hg]
  have hsb : w.shape? g = some (t, cur.size) := by simp [World.shape?, hg]
  have hsa : w.shape? a.block = some (ta, ca'.size) := by simp [World.shape?, ha]
  change Sem.run P (α := Value) (do
    let some t := (#[tS, tS] : Array TypeId)[0]? | stuck "slices.overlaps: no parameter types"
    let .slice elem ← underlying t | stuck "slices.overlaps: slice type expected"
    let size ← sizeOf elem
    match (some a : Option Addr), (some (⟨g, o, none⟩ : Addr) : Option Addr) with
    | some a, some b =>
      if la = 0 ∨ lb = 0 ∨ size = 0 then pure (Value.bool false)
      else if a.block != b.block && (← frozen a) && (← frozen b) then unsupported .addressObserved
      else do
        if a.block != b.block then do
          noView a; noView b
          if ← mayBeOne a b then return Value.bool ((← choose (.extern "sameAddr.stringBytes" 2)) == 1)
        pure (Value.bool (a.block == b.block && a.off < b.off + lb * size && b.off < a.off + la * size))
    | _, _ => pure (Value.bool false)) w = _
  by_cases h0 : la = 0 ∨ lb = 0 ∨ size = 0
  · simp [run_underlying ht, hz, h0]
  · obtain ⟨q, hq⟩ : ∃ q, cur.size = q + 1 := ⟨cur.size - 1, by omega⟩
    rw [hq] at hsb
    obtain ⟨q', hq'⟩ : ∃ q', ca'.size = q' + 1 := ⟨ca'.size - 1, by omega⟩
    rw [hq'] at hsa
    cases hfa : w.frozen? a <;> cases hfe : w.frozen? { block := a.block, off := q' + 1 } <;>
      simp [run_underlying ht, hz, h0, hnb, hnb', frozen, noView, viewAt, mayBeOne, stringish, shape, Sem.run, hsa, hsb, hfa, hfe, hfb]
theorem ins_list {α : Type} (l ys X : List α) (a b : Nat) (hb : b = a + 8) (hy : ys.length = 8) (hl : b + X.length ≤ l.length) :
    (((l.take b ++ X ++ l.drop (b + X.length)).take a ++ ys ++ (l.take b ++ X ++ l.drop (b + X.length)).drop (a + ys.length)).take (b + X.length)) = l.take a ++ ys ++ X := by
  subst hb
  have e1 : (l.take (a + 8) ++ X ++ l.drop (a + 8 + X.length)).take a = l.take a := by
    rw [List.append_assoc, List.take_append_of_le_length (by rw [List.length_take]; omega), List.take_take]; congr 1; omega
  have e2 : (l.take (a + 8) ++ X ++ l.drop (a + 8 + X.length)).drop (a + 8) = X ++ l.drop (a + 8 + X.length) := by
    rw [List.append_assoc, List.drop_append_of_le_length (by rw [List.length_take]; omega)]
    simp
  rw [hy, e1, e2, ← List.append_assoc]
  refine List.take_left' ?_
  simp only [List.length_append, List.length_take, hy]
  omega
set_option maxHeartbeats 4000000 in
theorem ins_shift (g n c i : Nat) (ad : Addr) (vc : Nat) (cur : Array Value) (ys : List Value) (w : World) (hi : i < n) (hroom : n + 1 ≤ c) (hm : c ≤ maxLen) (hg : w.heap[g]? = some (.cells cur 28 (0, 0))) (hsz : cur.size = c * 8)
    (h1 : ∀ v ∈ cur.toList.take (n * 8), v.oneCell' = true) (hy : ys.length = 8) (hyc : ∀ j u, ys[j]? = some u → w.cell? (ad.add j) = some u) (hy1 : ∀ v ∈ ys, v.oneCell' = true) (hne : ad.block ≠ g) (hab : ∃ c t fr, w.heap[ad.block]? = some (.cells c t fr) ∧ c.size ≠ 0) :
    Calls Tryd.prog 98 #[.slice (some ⟨g, 0, none⟩) n c, .int .i64 i, .slice (some ad) 1 vc] w fun e w' =>
      e = .returned (.slice (some ⟨g, 0, none⟩) (n + 1) c) ∧ w.grownBy w' (some g) ∧ ∃ cur', w'.heap[g]? = some (.cells cur' 28 (0, 0)) ∧ cur'.size = c * 8 ∧ cur'.toList.take ((n + 1) * 8) = (cur.toList.take (n * 8)).take (i * 8) ++ ys ++ (cur.toList.take (n * 8)).drop (i * 8) := by
  have hz2 : ¬ ((i : Int) = (n : Int)) := by omega
  have hov : ∀ lb cb, (callFunc 111 #[.slice (some ad) 1 vc, .slice (some ⟨g, (i + 1) * 8, none⟩) lb cb]).run Tryd.prog w = .ok (.value (.bool false)) w := fun lb cb => by
    rw [run_callFunc_extern Tryd.func111 (by kernel_rfl) (by kernel_rfl) (by kernel_rfl) (e := Extern.SlicesOverlaps.overlaps #[24, 24] #[4]) (by kernel_rfl),
      run_overlaps_own w 24 4 28 Tryd.underlying24 8 (fun _ => Tryd.sizeOf28 _) ad g _ 1 vc lb cb hne hab cur 28 hg (by omega)]
    rfl
  have hw1 : IntKind.i64.wrap ((i : Int) + 1) = (i : Int) + 1 := by rw [IntKind.wrap_i64]; unfold maxLen at hm; omega
  have hw2 : IntKind.i64.wrap ((n : Int) + 1) = (n : Int) + 1 := by rw [IntKind.wrap_i64]; unfold maxLen at hm; omega
  have hb1 : (0 : Int) ≤ (i : Int) + 1 := by omega
  have hin : i ≤ n := by omega
  have htn : ((i : Int) + 1).toNat = i + 1 := by omega
  have htn2 : ((n : Int) + 1).toNat = n + 1 := by omega
  have hb2 : ¬ (c = i + 1) := by omega
  have hb3 : (i : Int) ≤ (n : Int) + 1 := by omega
  have hb4 : ¬ (c = i) := by omega
  have hb5 : ¬ ((c : Int) < (n : Int) + 1) := by omega
  have hsl : (Tryd.prog.info? 28).map (·.size) = some 8 := by kernel_rfl
  have hcl : cur.toList.length = c * 8 := by simpa using hsz
  have hlt : g < w.heap.size := (Array.getElem?_eq_some_iff.1 hg).1
  obtain ⟨X1, hX1⟩ : ∃ X1, X1 = (cur.toList.take (n * 8)).drop (i * 8) := ⟨_, rfl⟩
  have hX1l : X1.length = (n - i) * 8 := by rw [hX1, List.length_drop, List.length_take, hcl]; omega
  obtain ⟨C1, hC1⟩ : ∃ C1 : Array Value, C1 = (cur.toList.take ((i + 1) * 8) ++ X1 ++ cur.toList.drop ((i + 1) * 8 + X1.length)).toArray := ⟨_, rfl⟩
  have hC1l : C1.size = c * 8 := by rw [hC1]; simp [hcl, hX1l, hsz]; omega
  obtain ⟨C2, hC2⟩ : ∃ C2 : Array Value, C2 = (C1.toList.take (i * 8) ++ ys ++ C1.toList.drop (i * 8 + ys.length)).toArray := ⟨_, rfl⟩
  have hcp1 : ∀ ty dc sc, (Builtin.copy_ #[24, 24] ty #[.slice (some ⟨g, (i + 1) * 8, none⟩) (n - i) dc, .slice (some ⟨g, i * 8, none⟩) (n + 1 - i) sc]).run Tryd.prog w.drew = .ok (goInt ((n - i : Nat) : Int)) (w.drew.setRow g C1) := fun ty dc sc => by
    have := run_copy_rowK (P := Tryd.prog) w.drew 24 24 ty 28 8 g ((i + 1) * 8) (n - i) dc ⟨g, i * 8, none⟩ (n + 1 - i) sc cur 28 X1 Tryd.underlying24 hsl hg (by rw [hX1l]; congr 1; simp only [Nat.min_def]; split <;> omega)
      (fun j v hj => by
        have e : w.drew.cell? ((⟨g, i * 8, none⟩ : Addr).add j) = cur[i * 8 + j]? := by
          rw [add_plain]
          show w.cell? _ = _
          simp [World.cell?, hg]
        rw [e]
        rw [hX1, List.getElem?_drop, List.getElem?_take] at hj
        split at hj
        · simpa using hj
        · cases hj)
      (by rw [hX1l, hsz]; omega) (fun v hv => h1 v (by rw [hX1] at hv; exact List.mem_of_mem_drop hv))
    rw [this, ← hC1]
    congr 2
    simp only [Nat.min_def]; split <;> omega
  have hcp2 : ∀ W : World, W.heap = (w.setRow g C1).heap → ∀ ty dc, (Builtin.copy_ #[24, 24] ty #[.slice (some ⟨g, i * 8, none⟩) (n + 1 - i) dc, .slice (some ad) 1 vc]).run Tryd.prog W = .ok (goInt 1) (W.setRow g C2) := fun W hW ty dc => by
    have hgW : W.heap[g]? = some (.cells C1 28 (0, 0)) := by rw [hW]; exact setRow_heap w g _ _ _ _ hg
    have := run_copy_rowK (P := Tryd.prog) W 24 24 ty 28 8 g (i * 8) (n + 1 - i) dc ad 1 vc C1 28 ys Tryd.underlying24 hsl hgW (by rw [hy]; simp only [Nat.min_def]; split <;> omega)
      (fun j v hj => by
        rw [← hyc j v hj]
        refine World.cell?_of_block ?_
        rw [hW, add_block]
        exact setRow_ne _ _ _ _ hne)
      (by rw [hy, hC1l]; omega) hy1
    rw [this, ← hC2]
    congr 2
    simp only [Nat.min_def]; split <;> omega
  have HH : Hid (C1 = (cur.toList.take ((i + 1) * 8) ++ X1 ++ cur.toList.drop ((i + 1) * 8 + X1.length)).toArray ∧ X1 = (cur.toList.take (n * 8)).drop (i * 8) ∧ C2 = (C1.toList.take (i * 8) ++ ys ++ C1.toList.drop (i * 8 + ys.length)).toArray ∧ ys.length = 8 ∧ cur.toList.length = c * 8) := ⟨hC1, hX1, hC2, hy, hcl⟩
  clear hX1l hsz hcl hC1l hC1 hX1 hC2 hy
  have hcp2' := hcp2 (w.drew.setRow g C1) rfl
  clear hcp2
  have mixed := Tryd.mixed
  go_enter Tryd.func98, Tryd.ntmps98
  go_wp2_with (simp only [hov])
  go_region_law_o (refine step_copy_runI rfl _ _ 24 24 rfl _ _ (by simp [Act.eval, Act.put]) (by simp [Act.eval, Act.put]) (hcp1 _ _ _) ?_)
  go_wp2
  go_ret
  obtain ⟨hC1, hX1, hC2, hy, hcl⟩ := HH.out
  have hX1l : X1.length = (n - i) * 8 := by rw [hX1, List.length_drop, List.length_take, hcl]; omega
  have hC1l : C1.size = c * 8 := by rw [hC1]; simp [hX1l]; rw [show cur.size = c * 8 by simpa using hcl]; omega
  have hC2l : C2.size = c * 8 := by rw [hC2]; simp [hC1l, hy]; omega
  refine ⟨rfl, ⟨rfl, rfl, rfl, by simp [World.setRow], fun k hk hne' => ?_⟩, C2, ?_, hC2l, ?_⟩
  · have hkg : k ≠ g := fun e => hne' (by rw [e])
    rw [setRow_ne _ _ _ _ hkg, setRow_ne _ _ _ _ hkg]; rfl
  · exact setRow_heap _ g _ _ _ _ (setRow_heap w.drew g _ _ _ _ hg)
  · have := ins_list cur.toList ys X1 (i * 8) ((i + 1) * 8) (by omega) hy (by rw [hX1l, hcl]; omega)
    rw [hC2, hC1, show (n + 1) * 8 = (i + 1) * 8 + X1.length by rw [hX1l]; omega]
    refine this.trans ?_
    rw [hX1, List.take_take, show min (i * 8) (n * 8) = i * 8 by omega]
end Go.Proofs

/- slices.Insert at elements of several cells: no room, i < len(s): a new row. No condition. -/
namespace Go.Proofs
open Go Go.Ax Go.RowKit
set_option maxRecDepth 100000
theorem zeroCells_size (cs : Array Value) (k : Nat) : (Builtin.zeroCells cs k).size = k * cs.size := by
  simp [Builtin.zeroCells]
set_option maxHeartbeats 4000000 in
theorem ins_grow (g n c i : Nat) (ad : Addr) (vc : Nat) (cur : Array Value) (ys : List Value) (w : World) (hi : i < n) (hnc : n ≤ c) (hroom : c < n + 1) (hbig : (n + 1) * 72 ≤ 140737488355328) (hg : w.heap[g]? = some (.cells cur 28 (0, 0))) (hsz : cur.size = c * 8)
    (h1 : ∀ v ∈ cur.toList.take (n * 8), v.oneCell' = true) (hy : ys.length = 8) (hyc : ∀ j u, ys[j]? = some u → w.cell? (ad.add j) = some u) (hy1 : ∀ v ∈ ys, v.oneCell' = true) :
    Calls Tryd.prog 98 #[.slice (some ⟨g, 0, none⟩) n c, .int .i64 i, .slice (some ad) 1 vc] w fun e w' =>
      ∃ G, e = .returned (.slice (some ⟨w.heap.size, 0, none⟩) (n + 1) G) ∧ w.grownBy w' (some g) ∧ n + 1 ≤ G ∧ G ≤ maxLen ∧ ∃ cur', w'.heap[w.heap.size]? = some (.cells cur' 28 (0, 0)) ∧ cur'.size = G * 8 ∧ cur'.toList.take ((n + 1) * 8) = (cur.toList.take (n * 8)).take (i * 8) ++ ys ++ (cur.toList.take (n * 8)).drop (i * 8) := by
  obtain ⟨hu, hpos, ii, z, hii, hz, hs, hb, hzc⟩ := apT_some Tryd.apT24
  have hz2 : ¬ ((i : Int) = (n : Int)) := by omega
  have hz3 : (c : Int) < (n : Int) + 1 := by omega
  have hcl : cur.toList.length = c * 8 := by simpa using hsz
  have hlt : g < w.heap.size := (Array.getElem?_eq_some_iff.1 hg).1
  have halt : ad.block < w.heap.size := by
    have := World.block_lt_of_cell? w (ad.add 0) (hyc 0 _ (List.getElem?_eq_getElem (by omega)))
    rwa [add_block] at this
  have hsl : (Tryd.prog.info? 28).map (·.size) = some 8 := by rw [hii]; simp [hs]
  have hkk : (n : Int) + 1 - (i : Int) = ((n + 1 - i : Nat) : Int) := by omega
  have hik : i + (n + 1 - i) = n + 1 := by omega
  obtain ⟨X0, hX0⟩ : ∃ X0, X0 = cur.toList.take (i * 8) := ⟨_, rfl⟩
  have hX0l : X0.length = i * 8 := by rw [hX0, List.length_take, hcl]; omega
  obtain ⟨X1, hX1⟩ : ∃ X1, X1 = (cur.toList.take (n * 8)).drop (i * 8) := ⟨_, rfl⟩
  have hX1l : X1.length = (n - i) * 8 := by rw [hX1, List.length_drop, List.length_take, hcl]; omega
  have hold : (Builtin.firstCells ii.size i (.slice (some ⟨g, 0, none⟩) i c)).run Tryd.prog w.drew = .ok X0.toArray w.drew := by
    rw [hs]
    exact run_firstCells_some w.drew 8 i ⟨g, 0, none⟩ i c X0 hX0l (fun j v hj => by
      have e : w.drew.cell? ((⟨g, 0, none⟩ : Addr).add j) = cur[j]? := by
        rw [add_plain]
        show w.cell? _ = _
        simp [World.cell?, hg]
      rw [e]
      rw [hX0, List.getElem?_take] at hj
      split at hj
      · simpa using hj
      · cases hj)
  obtain ⟨G, hG⟩ : ∃ G, G = grownCap w (n + 1) c 28 := ⟨_, rfl⟩
  obtain ⟨ROW, hROW⟩ : ∃ ROW : Array Value, ROW = X0.toArray ++ Builtin.zeroCells z.cells (n + 1 - i) ++ Builtin.zeroCells z.cells (G - (n + 1)) := ⟨_, rfl⟩
  have hrz : ∀ ty, (Builtin.append_ #[24, 3] ty #[.slice (some ⟨g, 0, none⟩) i c, .int .i64 ((n : Int) + 1 - (i : Int))]).run Tryd.prog w =
      .ok (.slice (some ⟨w.heap.size, 0, none⟩) (n + 1) G) (w.drew.alloc (.cells ROW 28)) := fun ty => by
    have h := Lib.run_append_grow_zeros w 24 3 ty 28 ii z .i64 .i64 hu Tryd.underlying3 hii hz (some ⟨g, 0, none⟩) i c X0 hold (n + 1 - i) (by omega) (by omega) (by omega) (by omega) (by rw [hb]; omega) (by rw [hb, hik]; exact growslice_fits hroom hbig)
    rw [hik] at h
    rw [hkk, hROW, hG]
    exact h
  have hGn : n + 1 ≤ G := by rw [hG]; exact grownCap_ge w _ _ _
  have hGm : G ≤ maxLen := by rw [hG]; exact grownCap_le_maxLen w (n + 1) c 28 (by unfold maxLen; omega)
  have hG63 : G ≤ 9223372036854775807 := by unfold maxLen at hGm; omega
  have hRl : ROW.size = G * 8 := by
    rw [hROW]
    simp only [Array.size_append, List.size_toArray, zeroCells_size, hzc, hX0l]
    omega
  obtain ⟨C1, hC1⟩ : ∃ C1 : Array Value, C1 = (ROW.toList.take (i * 8) ++ ys ++ ROW.toList.drop (i * 8 + ys.length)).toArray := ⟨_, rfl⟩
  have hC1l : C1.size = G * 8 := by rw [hC1]; simp [hRl, hy]; omega
  obtain ⟨C2, hC2⟩ : ∃ C2 : Array Value, C2 = (C1.toList.take ((i + 1) * 8) ++ X1 ++ C1.toList.drop ((i + 1) * 8 + X1.length)).toArray := ⟨_, rfl⟩
  have hGi : ¬ (G = i) := by omega
  have hGim : ¬ (G = i + 1) := by omega
  have hci : ¬ (c = i) := by omega
  have hw1 : IntKind.i64.wrap ((i : Int) + 1) = (i : Int) + 1 := by rw [IntKind.wrap_i64]; omega
  have hb1 : (0 : Int) ≤ (i : Int) + 1 := by omega
  have hin : i ≤ n := by omega
  have htn : ((i : Int) + 1).toNat = i + 1 := by omega
  have hb3 : (i : Int) ≤ (n : Int) := by omega
  have hNw : w.heap.size ≠ g := by omega
  have hcpA : ∀ W : World, W.heap = (w.alloc (.cells ROW 28)).heap → ∀ ty dc, (Builtin.copy_ #[24, 24] ty #[.slice (some ⟨w.heap.size, i * 8, none⟩) (n + 1 - i) dc, .slice (some ad) 1 vc]).run Tryd.prog W = .ok (goInt 1) (W.setRow w.heap.size C1) := fun W hW ty dc => by
    have hgW : W.heap[w.heap.size]? = some (.cells ROW 28 (0, 0)) := by rw [hW]; exact heap_alloc_new w _
    have := run_copy_rowK (P := Tryd.prog) W 24 24 ty 28 8 w.heap.size (i * 8) (n + 1 - i) dc ad 1 vc ROW 28 ys Tryd.underlying24 hsl hgW (by rw [hy]; simp only [Nat.min_def]; split <;> omega)
      (fun j v hj => by
        rw [← hyc j v hj]
        refine World.cell?_of_block ?_
        rw [hW, add_block]
        show (w.heap.push _)[_]? = _
        rw [Array.getElem?_push, if_neg (by omega)])
      (by rw [hy, hRl]; omega) hy1
    rw [this, ← hC1]
    congr 2
    simp only [Nat.min_def]; split <;> omega
  have hcpB : ∀ W : World, W.heap = ((w.alloc (.cells ROW 28)).setRow w.heap.size C1).heap → ∀ ty dc sc, (Builtin.copy_ #[24, 24] ty #[.slice (some ⟨w.heap.size, (i + 1) * 8, none⟩) (n - i) dc, .slice (some ⟨g, i * 8, none⟩) (n - i) sc]).run Tryd.prog W = .ok (goInt ((n - i : Nat) : Int)) (W.setRow w.heap.size C2) := fun W hW ty dc sc => by
    have hgW : W.heap[w.heap.size]? = some (.cells C1 28 (0, 0)) := by rw [hW]; exact setRow_heap _ _ ROW _ _ _ (heap_alloc_new w _)
    have := run_copy_rowK (P := Tryd.prog) W 24 24 ty 28 8 w.heap.size ((i + 1) * 8) (n - i) dc ⟨g, i * 8, none⟩ (n - i) sc C1 28 X1 Tryd.underlying24 hsl hgW (by rw [hX1l]; simp)
      (fun j v hj => by
        have e : W.cell? ((⟨g, i * 8, none⟩ : Addr).add j) = cur[i * 8 + j]? := by
          rw [add_plain]
          have e2 : W.heap[g]? = some (.cells cur 28 (0, 0)) := by
            rw [hW, setRow_ne _ _ _ _ (Ne.symm hNw)]
            show (w.heap.push _)[_]? = _
            rw [Array.getElem?_push, if_neg (by omega)]
            exact hg
          simp [World.cell?, e2]
        rw [e]
        rw [hX1, List.getElem?_drop, List.getElem?_take] at hj
        split at hj
        · simpa using hj
        · cases hj)
      (by rw [hX1l, hC1l]; omega) (fun v hv => h1 v (by rw [hX1] at hv; exact List.mem_of_mem_drop hv))
    rw [this, ← hC2]
    congr 2
    simp
  have HH : Hid (C1 = (ROW.toList.take (i * 8) ++ ys ++ ROW.toList.drop (i * 8 + ys.length)).toArray ∧ C2 = (C1.toList.take ((i + 1) * 8) ++ X1 ++ C1.toList.drop ((i + 1) * 8 + X1.length)).toArray ∧ ys.length = 8 ∧ X1.length = (n - i) * 8 ∧ X0.length = i * 8 ∧ ROW.size = G * 8 ∧ C1.size = G * 8 ∧ X0 = cur.toList.take (i * 8) ∧ X1 = (cur.toList.take (n * 8)).drop (i * 8) ∧ ROW = X0.toArray ++ Builtin.zeroCells z.cells (n + 1 - i) ++ Builtin.zeroCells z.cells (G - (n + 1))) := ⟨hC1, hC2, hy, hX1l, hX0l, hRl, hC1l, hX0, hX1, hROW⟩
  clear hX1l hX0l hsz hcl hC1l hC1 hX1 hX0 hC2 hy hRl hROW hG hik hkk hzc hb hs hz hii hu hsl hold
  have hcpA' := hcpA (w.alloc (.cells ROW 28)).drew rfl
  have hcpB' := hcpB ((w.alloc (.cells ROW 28)).drew.setRow w.heap.size C1).drew rfl
  have mixed := Tryd.mixed
  go_enter Tryd.func98, Tryd.ntmps98
  go_wp2_with (at_builtin; refine Lib.wpList_append_run _ rfl _ _ _ _ rfl _ _ rfl rfl _ _ (hrz _) ?_)
  go_region_law_o (refine step_copy_runI rfl _ _ 24 24 rfl _ _ (by simp [Act.eval, Act.put]) (by simp [Act.eval, Act.put]) (hcpB' _ _ _) ?_)
  go_wp2
  go_ret
  obtain ⟨hC1, hC2, hy, hX1l, hX0l, hRl, hC1l, hX0, hX1, hROW⟩ := HH.out
  have hC2l : C2.size = G * 8 := by rw [hC2]; simp [hC1l, hX1l]; omega
  refine ⟨G, rfl, ⟨rfl, rfl, rfl, by
    have e : ∀ (W : World) (k : Nat) (c : Array Value), (W.setRow k c).heap.size = W.heap.size := fun W k c => by simp [World.setRow]
    rw [e]
    show w.heap.size ≤ ((w.alloc (.cells ROW 28)).drew.setRow w.heap.size C1).heap.size
    rw [e]
    show w.heap.size ≤ (w.heap.push _).size
    rw [Array.size_push]; omega, fun k hk hne' => ?_⟩, hGn, hGm, C2, ?_, hC2l, ?_⟩
  · have hkg : k ≠ w.heap.size := by omega
    rw [setRow_ne _ _ _ _ hkg]
    show ((w.alloc (.cells ROW 28)).drew.setRow w.heap.size C1).heap[k]? = _
    rw [setRow_ne _ _ _ _ hkg]
    show (w.heap.push _)[k]? = _
    rw [Array.getElem?_push, if_neg (by omega)]
  · exact setRow_heap _ _ C1 _ _ _ (setRow_heap (w.alloc (.cells ROW 28)).drew _ ROW _ _ _ (heap_alloc_new w _))
  · rw [← hX1, List.take_take, show min (i * 8) (n * 8) = i * 8 by omega, ← hX0]
    have e1 : C1.toList.take ((i + 1) * 8) = X0 ++ ys := by
      have e0 : ROW.toList.take (i * 8) = X0 := by
        rw [hROW, Array.toList_append, Array.toList_append, List.append_assoc]
        exact List.take_left' hX0l
      rw [hC1, List.toList_toArray, e0]
      exact List.take_left' (by rw [List.length_append, hX0l, hy]; omega)
    rw [hC2, List.toList_toArray, e1]
    refine List.take_left' ?_
    simp [hX0l, hX1l, hy]; omega
theorem ins_own (base : Nat) (v : Value) (n i : Nat) (xs : List Value) (ad : Addr) (vc : Nat) (ys : List Value) (w : World) (how : w.ownsRow base 28 8 v n xs) (hi : i < n) (hbig : (n + 1) * 72 ≤ 140737488355328)
    (h1 : ∀ v ∈ xs, v.oneCell' = true) (hy : ys.length = 8) (hyc : ∀ j u, ys[j]? = some u → w.cell? (ad.add j) = some u) (hy1 : ∀ v ∈ ys, v.oneCell' = true) (hne : v.ownBlock ≠ some ad.block) (hbl : base ≤ w.heap.size) :
    Calls Tryd.prog 98 #[v, .int .i64 i, .slice (some ad) 1 vc] w fun e w' =>
      ∃ v', e = .returned v' ∧ w'.ownsRow base 28 8 v' (n + 1) (xs.take (i * 8) ++ ys ++ xs.drop (i * 8)) ∧ w.grownBy w' v.ownBlock ∧ (v'.ownBlock = v.ownBlock ∨ v'.ownBlock = some w.heap.size) := by
  obtain ⟨hl, ⟨rfl, rfl⟩ | ⟨g, c, cur, rfl, hbg, hg, hnc, hcm, hsz, rfl⟩⟩ := how
  · omega
  have hcl : cur.toList.length = c * 8 := by simpa using hsz
  have hll : ((cur.toList.take (n * 8)).take (i * 8) ++ ys ++ (cur.toList.take (n * 8)).drop (i * 8)).length = (n + 1) * 8 := by
    simp only [List.length_append, List.length_take, List.length_drop, hy, hcl]; omega
  by_cases hroom : n + 1 ≤ c
  · have hab : ∃ c t fr, w.heap[ad.block]? = some (.cells c t fr) ∧ c.size ≠ 0 := by
      have h0 := hyc 0 _ (List.getElem?_eq_getElem (by omega))
      rw [← cellIn_world] at h0
      unfold cellIn at h0
      rw [add_block] at h0
      split at h0
      · next cc t fr e =>
        refine ⟨cc, t, fr, e, fun hz => ?_⟩
        split at h0
        · cases h0
        · have : cc[(ad.add 0).off]? = none := by rw [Array.getElem?_eq_none]; omega
          rw [this] at h0; cases h0
      · cases h0
    refine (ins_shift g n c i ad vc cur ys w hi hroom hcm hg hsz h1 hy hyc hy1 (fun e => hne (by simp [Value.ownBlock, e])) hab).mono fun e w' h => ?_
    obtain ⟨rfl, hgr, cur', hg', hsz', ht⟩ := h
    exact ⟨_, rfl, ⟨hll, .inr ⟨g, c, cur', rfl, hbg, hg', hroom, hcm, hsz', ht⟩⟩, hgr, .inl rfl⟩
  · refine (ins_grow g n c i ad vc cur ys w hi hnc (by omega) hbig hg hsz h1 hy hyc hy1).mono fun e w' h => ?_
    obtain ⟨G, rfl, hgr, hG1, hG2, cur', hg', hsz', ht⟩ := h
    exact ⟨_, rfl, ⟨hll, .inr ⟨w.heap.size, G, cur', rfl, hbl, hg', hG1, hG2, hsz', ht⟩⟩, hgr, .inr rfl⟩
end Go.Proofs

/- slices.Insert at elements of several cells: at the end; and as a rule. No condition. -/
namespace Go.Proofs
open Go Go.Ax Go.RowKit
set_option maxRecDepth 100000
set_option maxHeartbeats 4000000 in
theorem ins_end0 (A : Option Addr) (n c : Nat) (ad : Addr) (vc : Nat) (w : World) (hA : A = none → n = 0 ∧ c = 0) (hnc : n ≤ c) (hm : c ≤ maxLen) (v' : Value) (w' : World) (hr : (Builtin.append_ #[24, 24] 24 #[.slice A n c, .slice (some ad) 1 vc]).run Tryd.prog w = .ok v' w') :
    Calls Tryd.prog 98 #[.slice A n c, .int .i64 n, .slice (some ad) 1 vc] w fun e W => e = .returned v' ∧ W = w' := by
  have mixed := Tryd.mixed
  cases A with
  | none =>
    obtain ⟨rfl, rfl⟩ := hA rfl
    clear hA
    go_enter Tryd.func98, Tryd.ntmps98
    go_wp2_with (at_builtin; refine Lib.wpList_append_run _ rfl _ _ _ _ rfl _ _ rfl rfl _ _ hr ?_)
    go_ret
    exact ⟨rfl, rfl⟩
  | some b =>
    clear hA
    by_cases h : c = n
    · subst h
      go_enter Tryd.func98, Tryd.ntmps98
      go_wp2_with (at_builtin; refine Lib.wpList_append_run _ rfl _ _ _ _ rfl _ _ rfl rfl _ _ hr ?_)
      go_ret
      exact ⟨rfl, rfl⟩
    · go_enter Tryd.func98, Tryd.ntmps98
      go_wp2_with (at_builtin; refine Lib.wpList_append_run _ rfl _ _ _ _ rfl _ _ rfl rfl _ _ hr ?_)
      go_ret
      exact ⟨rfl, rfl⟩
theorem ins_all (base : Nat) (v : Value) (n i : Nat) (xs : List Value) (ad : Addr) (vc : Nat) (ys : List Value) (w : World) (how : w.ownsRow base 28 8 v n xs) (hi : i ≤ n) (hbig : (n + 1) * 72 ≤ 140737488355328)
    (h1 : ∀ v ∈ xs, v.oneCell' = true) (hy : ys.length = 8) (hyc : ∀ j u, ys[j]? = some u → w.cell? (ad.add j) = some u) (hy1 : ∀ v ∈ ys, v.oneCell' = true) (hne : v.ownBlock ≠ some ad.block) (hbl : base ≤ w.heap.size) :
    Calls Tryd.prog 98 #[v, .int .i64 i, .slice (some ad) 1 vc] w fun e w' =>
      ∃ v', e = .returned v' ∧ w'.ownsRow base 28 8 v' (n + 1) (xs.take (i * 8) ++ ys ++ xs.drop (i * 8)) ∧ w.grownBy w' v.ownBlock ∧ (v'.ownBlock = v.ownBlock ∨ v'.ownBlock = some w.heap.size) := by
  by_cases h : i < n
  · exact ins_own base v n i xs ad vc ys w how h hbig h1 hy hyc hy1 hne hbl
  · obtain rfl : i = n := by omega
    obtain ⟨hu, hpos, ii, z, hii, hz, hs, hb, hzc⟩ := apT_some Tryd.apT24
    obtain ⟨v', w', q1, q2, q3, _, q5⟩ := run_append_own_at (P := Tryd.prog) w base 24 24 28 ii z 8 72 hu hii hz hs hb hzc hpos v i xs how ad 1 vc ys (by omega) hyc hy1 (by unfold maxLen; omega) hbig hbl
    have e1 : xs.take (i * 8) ++ ys ++ xs.drop (i * 8) = xs ++ ys := by
      rw [List.take_of_length_le (by rw [how.1]; omega), List.drop_eq_nil_of_le (by rw [how.1]; omega), List.append_nil]
    rw [e1]
    obtain ⟨hl, ⟨rfl, rfl⟩ | ⟨g, c, cur, rfl, hbg, hg, hnc, hcm, hsz, rfl⟩⟩ := how
    · exact (ins_end0 none 0 0 ad vc w (fun _ => ⟨rfl, rfl⟩) (Nat.le_refl _) (Nat.zero_le _) v' w' q1).mono fun e W h => by
        obtain ⟨rfl, rfl⟩ := h
        exact ⟨v', rfl, q2, q3, q5⟩
    · exact (ins_end0 (some ⟨g, 0, none⟩) i c ad vc w (fun e => by cases e) hnc hcm v' w' q1).mono fun e W h => by
        obtain ⟨rfl, rfl⟩ := h
        exact ⟨v', rfl, q2, q3, q5⟩
theorem flat_cut {α : Type} (els : List (List α)) (h : ∀ e ∈ els, e.length = 8) : ∀ p : Nat, (els.take p).flatten = els.flatten.take (p * 8) ∧ (els.drop p).flatten = els.flatten.drop (p * 8) := by
  induction els with
  | nil => intro p; simp
  | cons e r ih =>
    intro p
    cases p with
    | zero => simp
    | succ p =>
      have he := h e (by simp)
      obtain ⟨h1, h2⟩ := ih (fun x hx => h x (by simp [hx])) p
      simp only [List.take_succ_cons, List.drop_succ_cons, List.flatten_cons, h1, h2]
      rw [show (p + 1) * 8 = e.length + p * 8 by omega, List.take_length_add_append, List.drop_length_add_append]
      exact ⟨rfl, rfl⟩
section
variable {pm : Pm} {st : St} {o : Oper} {aas : List AV}
/-- slices.Insert of one element into a row of the call's own. -/
theorem CallL.insert {k : St → Prop} {t : Tok k} {x a1 a2 a3 : Operand} {ts : Array TypeId} {i ver p : Nat} {els : List (List D)} {m : List D} (hi : st.heap[i]? = some (.row 28 8 els ver)) (hp : p ≤ els.length) (hbig : (els.length + 1) * 72 ≤ 140737488355328)
    (hk : k (St.put ⟨st.env, st.heap.set i (.row 28 8 (els.take p ++ [m] ++ els.drop p) (ver + 1))⟩ o.dst (.c (.own i (ver + 1)))))
    (hop : o.op = .call { callee := .value x, args := #[a1, a2, a3], argTypes := ts } := by rfl) (hx : ev pm.Γ st.env x = .c (.clo 98 []) := by rfl) (h1 : ev pm.Γ st.env a1 = .c (.own i ver) := by rfl) (h2 : ev pm.Γ st.env a2 = .c (.d (.int .i64 p)) := by rfl) (h3 : ev pm.Γ st.env a3 = .c (.d (.lst 8 [m])) := by rfl) (hd : dstOk pm.N o.dst := by first | trivial | (show (_ : Nat) < _; exact Nat.le_of_ble_eq_true rfl)) :
    CallL Tryd.prog pm o st (.c (.clo 98 [])) aas k t := by
  refine .inr (.inr fun ops rest K hK => ?_)
  obtain ⟨dst, op, ty, pos, af, gd⟩ := o
  simp only at hop hd
  subst hop
  intro cx G a w Q hpm s hQ
  refine wpList_plain rfl fun K' hK' => ?_
  subst hpm
  obtain ⟨v, xs, hg, how, hob, hdr, hl⟩ := row_at s.h hi
  obtain ⟨_, v0, n', hg', _, hxx⟩ := (h1 ▸ s.ev a1 : Ar G (.c (.own i ver)) (a.eval a1))
  rw [hg] at hg'
  cases hg'
  have e1 := hxx rfl
  have e2 := ar_int (h2 ▸ s.ev a2 : Ar G (.c (.d (.int .i64 p))) (a.eval a2))
  obtain ⟨A, cap, u, e3, hc, hm, hm8, hA, hu⟩ := dr_lst (h3 ▸ s.ev a3 : Ar G (.c (.d (.lst 8 [m]))) (a.eval a3))
  obtain ⟨ad, rfl, hIb, hcell⟩ := hA (by simp)
  have hxv : Ar G (.c (.clo 98 [])) (a.eval x) := hx ▸ s.ev x
  obtain ⟨bs, hxe, hbs⟩ := hxv
  cases hbs
  have hml : m.length = 8 := hm8 m (by simp)
  let ys : List Value := (List.range 8).map fun j => u 0 j
  have hys : ∀ j v, ys[j]? = some v → j < 8 ∧ v = u 0 j := fun j v hj => by
    have hj8 : j < 8 := by have := getElem?_lt hj; simpa [ys] using this
    simp only [ys, List.getElem?_map, List.getElem?_range hj8, Option.map_some, Option.some.injEq] at hj
    exact ⟨hj8, hj.symm⟩
  have hyc : ∀ j v, ys[j]? = some v → w.cell? (ad.add j) = some v := fun j v hj => by
    obtain ⟨hj8, rfl⟩ := hys j v hj
    have := hcell 0 m j m[j] rfl (List.getElem?_eq_getElem (by omega))
    rw [Nat.zero_mul, Nat.zero_add] at this
    exact cell_of_view s.h.view this
  have hyd : All2 (Dr G.V) m ys := All2.of_get (by simp [ys, hml]) fun j c v h1 h2 => by
    obtain ⟨hj8, rfl⟩ := hys j v h2
    exact hu 0 m j c rfl h1
  have hy1 : ∀ v ∈ ys, v.oneCell' = true := fun v hv => by
    obtain ⟨j, hj, e⟩ := List.mem_iff_getElem.1 hv
    obtain ⟨d, _, hd⟩ := hyd.getR j v (by rw [List.getElem?_eq_getElem hj, e])
    exact hd.one
  have hx1 : ∀ v ∈ xs, v.oneCell' = true := fun v hv => by
    obtain ⟨j, hj, e⟩ := List.mem_iff_getElem.1 hv
    obtain ⟨d, _, hd⟩ := hdr.getR j v (by rw [List.getElem?_eq_getElem hj, e])
    exact hd.one
  have hne : v.ownBlock ≠ some ad.block := fun e => by
    have h0 := hob _ e
    have := hcell 0 m 0 m[0] rfl (List.getElem?_eq_getElem (by omega))
    unfold cellIn at this
    rw [add_block, h0] at this
    cases this
  have hr : (execOp a.eval ⟨dst, .call { callee := .value x, args := #[a1, a2, a3], argTypes := ts }, ty, pos, af, none⟩).run Tryd.prog w = .ok (.enter 98 #[v, .int .i64 p, .slice (some ad) 1 cap]) w := by
    simp [execOp, resolve, Deferred.ofValue, hxe, invoke, Tryd.call98, e1, e2, e3]
  unfold Oper.wp
  rw [hr]
  refine (ins_all cx.w0.heap.size v els.length p xs ad cap ys w how hp hbig hx1 (by simp [ys]) hyc hy1 hne s.h.below.size).mono fun e w' hafter => ?_
  obtain ⟨v', rfl, how', hgr, hat⟩ := hafter
  have f1 := row_form how
  have f2 := row_form how'
  have hHnone : G.V.H w.heap.size = none := by
    cases e : G.V.H w.heap.size with
    | none => rfl
    | some o => have := heap_lt (s.h.view _ _ e); omega
  have hL : ∀ G' : Gh, G'.V = G.V → Lr G' w' cx.w0.heap.size (.row 28 8 (els.take p ++ [m] ++ els.drop p) (ver + 1)) (v', ver + 1) := fun G' hV => by
    refine ⟨rfl, xs.take (p * 8) ++ ys ++ xs.drop (p * 8), by
        have e : (els.take p ++ [m] ++ els.drop p).length = els.length + 1 := by simp; omega
        rw [e]; exact how', fun b hb => ?_, ?_, fun e he => ?_⟩
    · rw [hV]
      rcases hat with e | e
      · exact hob b (by rw [← e]; exact hb)
      · simp only at hb
        rw [e] at hb; cases hb; exact hHnone
    · obtain ⟨q1, q2⟩ := flat_cut els hl p
      rw [hV, List.flatten_append, List.flatten_append, q1, q2]
      exact ((hdr.take _).append (by simpa using hyd)).append (hdr.drop _)
    · rcases List.mem_append.1 he with h | h
      · rcases List.mem_append.1 h with h | h
        · exact hl e (List.mem_of_mem_take h)
        · rw [List.mem_singleton.1 h]; exact hml
      · exact hl e (List.mem_of_mem_drop h)
  obtain ⟨hG, s'⟩ := s.h.move (w' := w') (v' := v') (n' := ver + 1) (lb' := .row 28 8 (els.take p ++ [m] ++ els.drop p) (ver + 1)) hi trivial hg (by omega) f1.1 f1.2.1 f2.2.1 hgr hat f1.2.2.1 hL
  exact hK' _ _ (hK _ hk cx _ _ w' Q rfl ((s.step hG s').put (α := .c (.own i (ver + 1))) ⟨f2.2.2.2, v', ver + 1, by simp [getElem?_lt hg], Nat.le_refl _, fun _ => rfl⟩ hd) hQ)
end
end Go.Proofs
