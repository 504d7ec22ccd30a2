/- Part of a proof about this program; no condition of its own. -/
import Derived.Test.YticdcapnomageaaDoorIWc
set_option linter.all false
/- Walks of the chapters on loans between libraries, fourth part: messages. -/
namespace Go.Proofs
open Go Go.Ax Go.Tx Go.Il
set_option maxRecDepth 100000
variable {Γ : List (Nat × List D)}
theorem c61 (m : Msg) (hl : m.note.length ≤ 100000) : AFn Tryd.prog Γ 61 [.agg (m.ds.map C.d)] [.d (.int .i64 (msgF m))] := by
  refine AFn.vc [] Tryd.func61 rfl Tryd.mixed (by kernel_rfl) Tryd.ntmps61 Tryd.results61 (by simp) ?_
  push_cast
  refine CallL.q (c92 m.frm 1 4) ?_
  push_cast
  refine ⟨fun h1 => ?_, fun h1 => by simp [msgF, h1]⟩
  refine CallL.q (c92 m.dst 1 4) ?_
  push_cast
  refine ⟨fun h2 => by simp [msgF, h1, h2], fun h2 => ?_⟩
  refine ⟨fun h3 => by simp [msgF, h1, h2, h3], fun h3 => ?_⟩
  refine CallL.q (c92 m.req 1 9999) ?_
  push_cast
  refine ⟨fun h4 => ?_, fun h4 => by simp [msgF, h1, h2, h3, h4]⟩
  refine CallL.q (c92 m.seq 1 99) ?_
  push_cast
  refine ⟨fun h5 => by simp [msgF, h1, h2, h3, h4, h5], fun h5 => ?_⟩
  refine CallL.q (c92 m.kind 1 11) ?_
  push_cast
  refine ⟨fun h6 => by simp [msgF, h1, h2, h3, h4, h5, h6], fun h6 => ?_⟩
  refine CallL.q (c92 m.rcd 0 9999) ?_
  push_cast
  have hm : inB m.rcd (if m.kind = 1 then 1 else 0) 9999 = (inB m.rcd 0 9999 && !(decide (m.kind = 1) && decide (m.rcd = 0))) := by
    unfold inB
    rw [Bool.eq_iff_iff]
    split <;> simp <;> omega
  have e : msgF m = bif !(inB m.rcd 0 9999 && !(decide (m.kind = 1) && decide (m.rcd = 0)) && inB m.day 0 109572) then 2 else bif !noteF m.note then 3 else bif decide (40 < m.note.length) then 4 else 0 := by
    unfold msgF; rw [h1, h2, decide_eq_false h3, h4, h5, h6, hm]; rfl
  rw [e]
  refine ⟨fun h7 => ⟨fun hk => ⟨fun h8 => ?_, fun h8 => by simp [h7, hk, h8]⟩, fun hk => ?_⟩, fun h7 => by simp [h7]⟩
  all_goals
    refine CallL.q (c92 m.day 0 109572) ?_
    push_cast
    refine ⟨fun h9 => by simp [h9], fun h9 => ?_⟩
    refine CallL.q (c93 m.note hl) ?_
    push_cast
    refine ⟨fun h10 => by simp_all, fun h10 => ?_⟩
    refine ⟨fun h11 => ?_, fun h11 => ?_⟩
    · have h12 : 40 < m.note.length := by omega
      simp_all
    · have h12 : ¬ 40 < m.note.length := by omega
      simp only [decide_eq_false h12]
      simp_all
theorem c72 (m : Msg) (hl : m.note.length ≤ 100000) : AFn Tryd.prog Γ0 72 [.agg (m.ds.map C.d)] [.d (.int .i64 (msgF m))] := by
  refine AFn.vc [] Tryd.func72 rfl Tryd.mixed (by kernel_rfl) Tryd.ntmps72 Tryd.results72 (by simp) ?_
  push_cast
  have key : ∀ (lo : Int), lo = (if m.kind = 1 then 1 else 0) → True := fun _ _ => trivial
  refine ⟨fun hk => ?_, fun hk => ?_⟩
  all_goals
    refine CallL.q (c99 m.frm 1 4) ?_
    push_cast
    refine ⟨fun h1 => ?_, fun h1 => by simp [msgF, h1]⟩
    refine CallL.q (c99 m.dst 1 4) ?_
    push_cast
    refine ⟨fun h2 => by simp [msgF, h1, h2], fun h2 => ?_⟩
    refine ⟨fun h3 => by simp [msgF, h1, h2, h3], fun h3 => ?_⟩
    refine CallL.q (c99 m.req 1 9999) ?_
    push_cast
    refine ⟨fun h4 => ?_, fun h4 => by simp [msgF, h1, h2, h3, h4]⟩
    refine CallL.q (c99 m.seq 1 99) ?_
    push_cast
    refine ⟨fun h5 => by simp [msgF, h1, h2, h3, h4, h5], fun h5 => ?_⟩
    refine CallL.q (c99 m.kind 1 11) ?_
    push_cast
    refine ⟨fun h6 => by simp [msgF, h1, h2, h3, h4, h5, h6], fun h6 => ?_⟩
    have e : msgF m = bif !(inB m.rcd (if m.kind = 1 then 1 else 0) 9999 && inB m.day 0 109572) then 2 else bif !noteF m.note then 3 else bif decide (40 < m.note.length) then 4 else 0 := by
      unfold msgF; rw [h1, h2, decide_eq_false h3, h4, h5, h6]; rfl
    rw [e]
  · rw [if_pos hk]
    refine CallL.q (c99 m.rcd 1 9999) ?_
    push_cast
    refine ⟨fun h7 => ?_, fun h7 => by simp [h7]⟩
    refine CallL.q (c99 m.day 0 109572) ?_
    push_cast
    refine ⟨fun h9 => by simp [h9], fun h9 => ?_⟩
    refine CallL.q (c100 m.note hl) ?_
    push_cast
    refine ⟨fun h10 => by simp_all, fun h10 => ?_⟩
    refine ⟨fun h11 => ?_, fun h11 => ?_⟩
    · have h12 : 40 < m.note.length := by omega
      simp_all
    · have h12 : ¬ 40 < m.note.length := by omega
      simp only [decide_eq_false h12]
      simp_all
  · rw [if_neg hk]
    refine CallL.q (c99 m.rcd 0 9999) ?_
    push_cast
    refine ⟨fun h7 => ?_, fun h7 => by simp [h7]⟩
    refine CallL.q (c99 m.day 0 109572) ?_
    push_cast
    refine ⟨fun h9 => by simp [h9], fun h9 => ?_⟩
    refine CallL.q (c100 m.note hl) ?_
    push_cast
    refine ⟨fun h10 => by simp_all, fun h10 => ?_⟩
    refine ⟨fun h11 => ?_, fun h11 => ?_⟩
    · have h12 : 40 < m.note.length := by omega
      simp_all
    · have h12 : ¬ 40 < m.note.length := by omega
      simp only [decide_eq_false h12]
      simp_all
end Go.Proofs
