/- Part of a proof about this program; no condition of its own. -/
import Derived.Test.YticdcapnomageaaDoorIWh
set_option linter.all false
/- Walks of the chapters on loans between libraries, ninth part: the reference's Right. -/
namespace Go.Proofs
open Go Go.Ax Go.Tx Go.Il
set_option maxRecDepth 100000
variable {Γ : List (Nat × List D)}
theorem side_rng {s : Side} (h : s.req < 1 ∨ 9999 < s.req ∨ s.ptn < 1 ∨ 4 < s.ptn ∨ s.rcd < 0 ∨ 9999 < s.rcd ∨ s.due < 0 ∨ 109572 < s.due ∨ s.heard < 0 ∨ 99 < s.heard) : sideF s = 2 := by
  have e : (inB s.req 1 9999 && inB s.ptn 1 4 && inB s.rcd 0 9999 && inB s.due 0 109572 && inB s.heard 0 99) = false := by
    rw [Bool.eq_false_iff]
    simp only [Bool.and_eq_true, inB_iff, ne_eq]
    omega
  unfold sideF
  rw [e]; rfl
theorem c71' (r : Int) (h : r = 1 ∨ r = 2) : AFn Tryd.prog Γ 71 [.c (.d (.int .i64 r))] [.d (.int .i64 (3 - r))] := by
  have := c71 (Γ := Γ) r
  have e : (if r = 2 then (1 : Int) else 2) = 3 - r := by split <;> omega
  rwa [e] at this
theorem c70' (r kind : Int) (h : r = 1 ∨ r = 2) : AFn Tryd.prog Γ 70 [.c (.d (.int .i64 (3 - r))), .c (.d (.int .i64 kind))] [.d (.bool (decide ((ofF kind).role = 3 - r)))] := by
  rcases h with rfl | rfl
  · exact c70_2 kind
  · exact c70_1 kind
def lastQ (s : Side) (k : Nat) : Int := if k = 0 then s.heard + 1 else ((s.early[k - 1]?).map Msg.seq).getD 0
set_option maxHeartbeats 4000000 in
theorem c27 (s : Side) (hs : SmN s) : AFn Tryd.prog Γ 27 [.agg (s.ds.map C.d)] [.d (.int .i64 (sideF s))] := by
  by_cases q0 : s.req < 1
  · have f0 : (s.req < 1) = True := eq_true q0
    rw [side_rng (by omega)]
    refine AFn.vc [] Tryd.func27 rfl Tryd.mixed (by kernel_rfl) Tryd.ntmps27 Tryd.results27 (by simp) ?_
    push_cast [f0]
  have f0 : (s.req < 1) = False := eq_false q0
  by_cases q1 : 9999 < s.req
  · have f1 : (9999 < s.req) = True := eq_true q1
    rw [side_rng (by omega)]
    refine AFn.vc [] Tryd.func27 rfl Tryd.mixed (by kernel_rfl) Tryd.ntmps27 Tryd.results27 (by simp) ?_
    push_cast [f0, f1]
  have f1 : (9999 < s.req) = False := eq_false q1
  by_cases q2 : s.ptn < 1
  · have f2 : (s.ptn < 1) = True := eq_true q2
    rw [side_rng (by omega)]
    refine AFn.vc [] Tryd.func27 rfl Tryd.mixed (by kernel_rfl) Tryd.ntmps27 Tryd.results27 (by simp) ?_
    push_cast [f0, f1, f2]
  have f2 : (s.ptn < 1) = False := eq_false q2
  by_cases q3 : 4 < s.ptn
  · have f3 : (4 < s.ptn) = True := eq_true q3
    rw [side_rng (by omega)]
    refine AFn.vc [] Tryd.func27 rfl Tryd.mixed (by kernel_rfl) Tryd.ntmps27 Tryd.results27 (by simp) ?_
    push_cast [f0, f1, f2, f3]
  have f3 : (4 < s.ptn) = False := eq_false q3
  by_cases q4 : s.rcd < 0
  · have f4 : (s.rcd < 0) = True := eq_true q4
    rw [side_rng (by omega)]
    refine AFn.vc [] Tryd.func27 rfl Tryd.mixed (by kernel_rfl) Tryd.ntmps27 Tryd.results27 (by simp) ?_
    push_cast [f0, f1, f2, f3, f4]
  have f4 : (s.rcd < 0) = False := eq_false q4
  by_cases q5 : 9999 < s.rcd
  · have f5 : (9999 < s.rcd) = True := eq_true q5
    rw [side_rng (by omega)]
    refine AFn.vc [] Tryd.func27 rfl Tryd.mixed (by kernel_rfl) Tryd.ntmps27 Tryd.results27 (by simp) ?_
    push_cast [f0, f1, f2, f3, f4, f5]
  have f5 : (9999 < s.rcd) = False := eq_false q5
  by_cases q6 : s.due < 0
  · have f6 : (s.due < 0) = True := eq_true q6
    rw [side_rng (by omega)]
    refine AFn.vc [] Tryd.func27 rfl Tryd.mixed (by kernel_rfl) Tryd.ntmps27 Tryd.results27 (by simp) ?_
    push_cast [f0, f1, f2, f3, f4, f5, f6]
  have f6 : (s.due < 0) = False := eq_false q6
  by_cases q7 : 109572 < s.due
  · have f7 : (109572 < s.due) = True := eq_true q7
    rw [side_rng (by omega)]
    refine AFn.vc [] Tryd.func27 rfl Tryd.mixed (by kernel_rfl) Tryd.ntmps27 Tryd.results27 (by simp) ?_
    push_cast [f0, f1, f2, f3, f4, f5, f6, f7]
  have f7 : (109572 < s.due) = False := eq_false q7
  by_cases q8 : s.heard < 0
  · have f8 : (s.heard < 0) = True := eq_true q8
    rw [side_rng (by omega)]
    refine AFn.vc [] Tryd.func27 rfl Tryd.mixed (by kernel_rfl) Tryd.ntmps27 Tryd.results27 (by simp) ?_
    push_cast [f0, f1, f2, f3, f4, f5, f6, f7, f8]
  have f8 : (s.heard < 0) = False := eq_false q8
  by_cases q9 : 99 < s.heard
  · have f9 : (99 < s.heard) = True := eq_true q9
    rw [side_rng (by omega)]
    refine AFn.vc [] Tryd.func27 rfl Tryd.mixed (by kernel_rfl) Tryd.ntmps27 Tryd.results27 (by simp) ?_
    push_cast [f0, f1, f2, f3, f4, f5, f6, f7, f8, f9]
  have f9 : (99 < s.heard) = False := eq_false q9
  have er : (inB s.req 1 9999 && inB s.ptn 1 4 && inB s.rcd 0 9999 && inB s.due 0 109572 && inB s.heard 0 99) = true := by
    simp only [Bool.and_eq_true, inB_iff]; omega
  have e : sideF s = bif decide (s.role ≠ 2 ∧ s.role ≠ 1) || !inB s.state 0 9 then 1
      else bif decide (s.state = 0 ∧ (s.role ≠ 2 ∨ s.heard ≠ 0)) || decide (s.state ≠ 0 ∧ s.role = 2 ∧ s.heard = 0) then 1
      else bif decide (99 < s.sent.length ∨ 8 < s.early.length) then 13
      else bif !(sentL s 0 s.sent && earlyL s (s.heard + 1) s.early) then 3 else 0 := by unfold sideF; rw [er]; rfl
  rw [e]
  by_cases r : s.role ≠ 2 ∧ s.role ≠ 1
  · rw [decide_eq_true r]
    have e1 : (s.role = 2) = False := eq_false r.1
    have e2 : (s.role = 1) = False := eq_false r.2
    refine AFn.vc [] Tryd.func27 rfl Tryd.mixed (by kernel_rfl) Tryd.ntmps27 Tryd.results27 (by simp) ?_
    push_cast [f0, f1, f2, f3, f4, f5, f6, f7, f8, f9, e1, e2]
  rw [decide_eq_false r]
  by_cases t1 : s.state < 0
  · have e1 : (s.state < 0) = True := eq_true t1
    have e2 : inB s.state 0 9 = false := by rw [Bool.eq_false_iff, ne_eq, inB_iff]; omega
    rw [e2]
    by_cases r2 : s.role = 2 <;> by_cases r1 : s.role = 1
    all_goals try (exfalso; omega)
    all_goals
      first | have e3 : (s.role = 2) = True := eq_true r2 | have e3 : (s.role = 2) = False := eq_false r2
      first | have e4 : (s.role = 1) = True := eq_true r1 | have e4 : (s.role = 1) = False := eq_false r1
      refine AFn.vc [] Tryd.func27 rfl Tryd.mixed (by kernel_rfl) Tryd.ntmps27 Tryd.results27 (by simp) ?_
      push_cast [f0, f1, f2, f3, f4, f5, f6, f7, f8, f9, e1, e3, e4]
  have g1 : (s.state < 0) = False := eq_false t1
  by_cases t2 : 9 < s.state
  · have e1 : (9 < s.state) = True := eq_true t2
    have e2 : inB s.state 0 9 = false := by rw [Bool.eq_false_iff, ne_eq, inB_iff]; omega
    rw [e2]
    by_cases r2 : s.role = 2 <;> by_cases r1 : s.role = 1
    all_goals try (exfalso; omega)
    all_goals
      first | have e3 : (s.role = 2) = True := eq_true r2 | have e3 : (s.role = 2) = False := eq_false r2
      first | have e4 : (s.role = 1) = True := eq_true r1 | have e4 : (s.role = 1) = False := eq_false r1
      refine AFn.vc [] Tryd.func27 rfl Tryd.mixed (by kernel_rfl) Tryd.ntmps27 Tryd.results27 (by simp) ?_
      push_cast [f0, f1, f2, f3, f4, f5, f6, f7, f8, f9, g1, e1, e3, e4]
  have g2 : (9 < s.state) = False := eq_false t2
  have es : inB s.state 0 9 = true := inB_iff.2 ⟨by omega, by omega⟩
  rw [es]
  simp only [Bool.or_false, Bool.not_true, cond_false]
  by_cases hv : (s.state = 0 ∧ (s.role ≠ 2 ∨ s.heard ≠ 0)) ∨ (s.state ≠ 0 ∧ s.role = 2 ∧ s.heard = 0)
  · have hd : (decide (s.state = 0 ∧ (s.role ≠ 2 ∨ s.heard ≠ 0)) || decide (s.state ≠ 0 ∧ s.role = 2 ∧ s.heard = 0)) = true := by rw [Bool.or_eq_true, decide_eq_true_eq, decide_eq_true_eq]; exact hv
    rw [hd, cond_true]
    by_cases r2 : s.role = 2 <;> by_cases r1 : s.role = 1 <;> by_cases s0 : s.state = 0 <;> by_cases h0 : s.heard = 0
    all_goals try (exfalso; omega)
    all_goals
      first | have e1 : (s.role = 2) = True := eq_true r2 | have e1 : (s.role = 2) = False := eq_false r2
      first | have e2 : (s.role = 1) = True := eq_true r1 | have e2 : (s.role = 1) = False := eq_false r1
      first | have e3 : (s.state = 0) = True := eq_true s0 | have e3 : (s.state = 0) = False := eq_false s0
      first | have e4 : (s.heard = 0) = True := eq_true h0 | have e4 : (s.heard = 0) = False := eq_false h0
      refine AFn.vc [] Tryd.func27 rfl Tryd.mixed (by kernel_rfl) Tryd.ntmps27 Tryd.results27 (by simp) ?_
      push_cast [f0, f1, f2, f3, f4, f5, f6, f7, f8, f9, g1, g2, e1, e2, e3, e4]
  have hd : (decide (s.state = 0 ∧ (s.role ≠ 2 ∨ s.heard ≠ 0)) || decide (s.state ≠ 0 ∧ s.role = 2 ∧ s.heard = 0)) = false := by
    rw [Bool.or_eq_false_iff, decide_eq_false_iff_not, decide_eq_false_iff_not]; exact not_or.1 hv
  rw [hd, cond_false]
  clear hd
  by_cases r2 : s.role = 2 <;> by_cases r1 : s.role = 1 <;> by_cases s0 : s.state = 0 <;> by_cases h0 : s.heard = 0
  all_goals try (exfalso; omega)
  all_goals
    first | have e1 : (s.role = 2) = True := eq_true r2 | have e1 : (s.role = 2) = False := eq_false r2
    first | have e2 : (s.role = 1) = True := eq_true r1 | have e2 : (s.role = 1) = False := eq_false r1
    first | have e3 : (s.state = 0) = True := eq_true s0 | have e3 : (s.state = 0) = False := eq_false s0
    first | have e4 : (s.heard = 0) = True := eq_true h0 | have e4 : (s.heard = 0) = False := eq_false h0
    refine AFn.vc [] Tryd.func27 rfl Tryd.mixed (by kernel_rfl) Tryd.ntmps27 Tryd.results27 (by simp) ?_
    push_cast [f0, f1, f2, f3, f4, f5, f6, f7, f8, f9, g1, g2, e1, e2, e3, e4]
  all_goals
    have l1 := hs.l1
    have l2 := hs.l2
    have hrole : (if s.role = 2 then (1 : Int) else 2) = 3 - s.role := by split <;> omega
    refine ⟨fun a1 => ⟨fun a2 => ?_, fun a2 => ?_⟩, fun a1 => ?_⟩
    · rw [decide_eq_true (show 99 < s.sent.length ∨ 8 < s.early.length by omega)]; rfl
    · rw [decide_eq_false (show ¬ (99 < s.sent.length ∨ 8 < s.early.length) by omega)]
      simp only [cond_false]
      refine LoopV.cnt Tryd.mixed [1] s.sent.length (fun k => [(3, .c (.d (.int .i64 k)))]) (fun k => sentL s k (s.sent.drop k) = sentL s 0 s.sent) rfl ?_ (by push_cast)
      intro k hk hin
      push_cast
      refine ⟨fun h => ?_, fun h => ?_⟩
      · have hk' : k < s.sent.length := by omega
        rw [drop_cons hk', sentL] at hin
        have hm := hs.n1 _ (List.getElem_mem hk')
        refine ⟨hk', ?_⟩
        refine CallL.q (c61 s.sent[k] hm) ?_
        push_cast
        have hT : (msgF s.sent[k] = 0 ∧ s.sent[k].seq = (k : Int) + 1 ∧ s.sent[k].dst = s.ptn ∧ s.sent[k].req = s.req) → sentL s ((k : Int) + 1) (s.sent.drop (k + 1)) = sentL s 0 s.sent := fun c => by rw [decide_eq_true c, Bool.true_and] at hin; exact hin
        have hF : ¬ (msgF s.sent[k] = 0 ∧ s.sent[k].seq = (k : Int) + 1 ∧ s.sent[k].dst = s.ptn ∧ s.sent[k].req = s.req) → (3 : Int) = bif !(sentL s 0 s.sent && earlyL s (s.heard + 1) s.early) then 3 else 0 := fun c => by rw [decide_eq_false c, Bool.false_and] at hin; rw [← hin]; rfl
        refine ⟨fun a1 => ⟨⟨by omega, by omega⟩, fun a2 => ⟨fun a3 => ⟨fun a4 => hF fun q => a4 q.2.2.2, fun a4 => ⟨⟨by omega, by omega⟩, hk', hT ⟨a1, a2, a3, a4⟩⟩⟩, fun a3 => hF fun q => a3 q.2.2.1⟩, fun a2 => hF fun q => a2 q.2.1⟩, fun a1 => hF fun q => a1 q.1⟩
      · have hsent : sentL s 0 s.sent = true := by rw [← hin, List.drop_eq_nil_of_le (by omega)]; rfl
        rw [hsent, Bool.true_and]
        have hl0 : ∀ k, k ≤ s.early.length → s.heard + 1 ≤ lastQ s k → True := fun _ _ _ => trivial
        refine LoopV.cnt Tryd.mixed [1] s.early.length (fun k => [(5, .c (.d (.int .i64 k)))]) (fun k => earlyL s (lastQ s k) (s.early.drop k) = earlyL s (s.heard + 1) s.early ∧ s.heard + 1 ≤ lastQ s k) ⟨rfl, Int.le_refl _⟩ ?_ (by push_cast)
        intro k hk hin
        obtain ⟨hin, hin2⟩ := hin
        push_cast
        refine ⟨fun h => ?_, fun h => ?_⟩
        · have hk' : k < s.early.length := by omega
          have hm := hs.n2 _ (List.getElem_mem hk')
          have hlast : lastQ s (k + 1) = s.early[k].seq := by simp [lastQ, hk']
          rw [drop_cons hk', earlyL] at hin
          refine ⟨hk', ?_⟩
          refine CallX.q (c61 s.early[k] hm) ?_
          push_cast
          have hT : (msgF s.early[k] = 0 ∧ (ofF s.early[k].kind).role = 3 - s.role ∧ s.early[k].kind ≠ 1 ∧ s.early[k].frm = s.ptn ∧ s.early[k].req = s.req ∧ lastQ s k < s.early[k].seq) → earlyL s s.early[k].seq (s.early.drop (k + 1)) = earlyL s (s.heard + 1) s.early := fun c => by rw [decide_eq_true c, Bool.true_and] at hin; exact hin
          have hF : ¬ (msgF s.early[k] = 0 ∧ (ofF s.early[k].kind).role = 3 - s.role ∧ s.early[k].kind ≠ 1 ∧ s.early[k].frm = s.ptn ∧ s.early[k].req = s.req ∧ lastQ s k < s.early[k].seq) → (3 : Int) = bif !(earlyL s (s.heard + 1) s.early) then 3 else 0 := fun c => by rw [decide_eq_false c, Bool.false_and] at hin; rw [← hin]; rfl
          refine ⟨fun a1 => ?_, fun a1 => hF fun q => a1 q.1⟩
          refine CallX.q (c71' s.role (by omega)) ?_
          push_cast
          refine CallX.q (c70' s.role s.early[k].kind (by omega)) ?_
          push_cast
          have fin : s.early[k].seq > lastQ s k → (ofF s.early[k].kind).role = 3 - s.role → s.early[k].kind ≠ 1 → s.early[k].frm = s.ptn → s.early[k].req = s.req → ((-9223372036854775808 ≤ (k : Int) + 1 ∧ (k : Int) + 1 ≤ 9223372036854775807) ∧ k < s.early.length ∧ earlyL s (lastQ s (k + 1)) (s.early.drop (k + 1)) = earlyL s (s.heard + 1) s.early ∧ s.heard + 1 ≤ lastQ s (k + 1)) := fun b1 b2 b3 b4 b5 => ⟨⟨by omega, by omega⟩, hk', by rw [hlast]; exact hT ⟨a1, b2, b3, b4, b5, b1⟩, by rw [hlast]; omega⟩
          refine ⟨fun a2 => ⟨fun a3 => ⟨fun a4 => ⟨fun a5 => ⟨⟨by omega, by omega⟩, fun a6 => ⟨fun a7 => ?_, fun a7 => ?_⟩, fun a6 => hF fun q => by have := q.2.2.2.2.2; omega⟩, fun a5 => hF fun q => a5 q.2.2.2.2.1⟩, fun a4 => hF fun q => a4 q.2.2.2.1⟩, fun a3 => hF fun q => q.2.2.1 a3⟩, fun a2 => hF fun q => a2 q.2.1⟩
          · have hkm : ((k : Int) - 1).toNat = k - 1 := by omega
            have hk0 : lastQ s k = (s.early[k - 1]'(by omega)).seq := by
              unfold lastQ
              rw [if_neg (by omega), List.getElem?_eq_getElem (by omega)]; rfl
            simp only [hkm]
            exact ⟨⟨by omega, by omega⟩, by omega, by omega, fun a8 => hF fun q => by have := q.2.2.2.2.2; omega, fun a8 => fin (by omega) a2 a3 a4 a5⟩
          · have hk0 : lastQ s k = s.heard + 1 := by
              unfold lastQ
              rw [if_pos (by omega)]
            exact fin (by omega) a2 a3 a4 a5
        · have hend : earlyL s (s.heard + 1) s.early = true := by rw [← hin, List.drop_eq_nil_of_le (by omega)]; rfl
          rw [hend]; rfl
    · rw [decide_eq_true (show 99 < s.sent.length ∨ 8 < s.early.length by omega)]; rfl
end Go.Proofs
