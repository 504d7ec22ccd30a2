/- Part of a proof about this program; no condition of its own. -/
import Derived.Test.YticdcapnomageaaDoorGyH
set_option linter.all false
/- Walks of the chapter on partners, twelfth part: Again, and two statements. No condition. -/
namespace Go.Proofs
open Go Go.Ax Go.Tx Go.Il
set_option maxRecDepth 100000
variable {Γ : List (Nat × List D)}
theorem again_le {l : List Side} (hs : ∀ s ∈ l, s.sent.length ≤ 1000) : (againF l).length ≤ 1000 * l.length := by
  induction l with
  | nil => exact Nat.zero_le _
  | cons x r ih =>
    have h1 := hs x (List.mem_cons_self ..)
    have h2 := ih fun s h => hs s (List.mem_cons_of_mem _ h)
    show (x.sent ++ againF r).length ≤ _
    rw [List.length_append, List.length_cons]; omega
theorem again_next (l : List Side) (k : Nat) (h : k < l.length) : againF (l.take (k + 1)) = againF (l.take k) ++ l[k].sent := by
  unfold againF
  rw [List.take_add_one, List.getElem?_eq_getElem h, List.flatMap_append]
  simp
theorem c50 (p : Partner) (hl : p.sides.length ≤ 1000) (hs : ∀ s ∈ p.sides, s.sent.length ≤ 1000) : AFn Tryd.prog Γ 50 [.agg (p.ds.map C.d)] [.d (.lst 8 ((againF p.sides).map Msg.ds))] := by
  refine AFn.vc [] Tryd.func50 rfl Tryd.mixed (by kernel_rfl) Tryd.ntmps50 Tryd.results50 (by simp) ?_
  push_cast
  refine LoopV.nilrow 3 28 8 ?_
  push_cast
  refine LoopV.cntH Tryd.mixed [7, 8] p.sides.length (fun k => [(3, .c (.own 1 k)), (9, .c (.d (.int .i64 k)))]) (fun k => [.box 53 (p.ds.map C.d), .row 28 8 ((againF (p.sides.take k)).map Msg.ds) k]) (fun _ => True) trivial ?_ (by push_cast; rfl)
  intro k hk _
  push_cast
  have hle : (againF (p.sides.take k)).length ≤ 1000 * k := by
    have := again_le (l := p.sides.take k) fun s h => hs s (List.mem_of_mem_take h)
    rw [List.length_take] at this
    omega
  refine ⟨fun h => ?_, fun h => by rw [List.take_of_length_le (by omega)]⟩
  have hk' : k < p.sides.length := by omega
  have h1 := hs _ (List.getElem_mem hk')
  refine ⟨hk', ⟨by omega, by omega⟩, ⟨by omega, by omega⟩, hk', ?_⟩
  rw [again_next _ k hk', List.map_append]
theorem c51 (p : Partner) (hl : p.sides.length ≤ 1000) (hs : ∀ s ∈ p.sides, s.sent.length ≤ 1000) : AFn Tryd.prog Γ 51 [.agg (p.ds.map C.d)] [.d (.lst 8 ((againF p.sides).map Msg.ds))] := by
  refine AFn.vc [] Tryd.func51 rfl Tryd.mixed (by kernel_rfl) Tryd.ntmps51 Tryd.results51 (by simp) ?_
  push_cast
  refine LoopV.nilrow 3 28 8 ?_
  push_cast
  refine LoopV.cntH Tryd.mixed [1] p.sides.length (fun k => [(3, .c (.own 1 (againF (p.sides.take k)).length)), (4, .c (.d (.int .i64 k)))]) (fun k => [.box 53 (p.ds.map C.d), .row 28 8 ((againF (p.sides.take k)).map Msg.ds) (againF (p.sides.take k)).length]) (fun _ => True) trivial ?_ (by push_cast; exact ⟨rfl, rfl, rfl⟩)
  intro k hk _
  push_cast
  have hle : (againF (p.sides.take k)).length ≤ 1000 * k := by
    have := again_le (l := p.sides.take k) fun s h => hs s (List.mem_of_mem_take h)
    rw [List.length_take] at this
    omega
  refine ⟨fun h => ?_, fun h => by rw [List.take_of_length_le (by omega)]⟩
  have hk' : k < p.sides.length := by omega
  have h1 := hs _ (List.getElem_mem hk')
  refine LoopV.cntH Tryd.mixed [1, 4] p.sides[k].sent.length (fun j => [(3, .c (.own 1 ((againF (p.sides.take k)).length + j))), (5, .c (.d (.int .i64 j)))]) (fun j => [.box 53 (p.ds.map C.d), .row 28 8 ((againF (p.sides.take k) ++ p.sides[k].sent.take j).map Msg.ds) ((againF (p.sides.take k)).length + j)]) (fun _ => True) trivial ?_ (by push_cast)
  intro j hj _
  push_cast
  refine ⟨hk', fun h2 => ?_, fun h2 => ?_⟩
  · have hj' : j < p.sides[k].sent.length := by omega
    refine ⟨hk', hj', ⟨by omega, by omega⟩, ⟨by omega, by omega⟩, hj', by omega, ?_, by omega⟩
    rw [← take_next _ j hj' _ rfl, ← List.append_assoc, List.map_append (l₂ := [p.sides[k].sent[j]])]; rfl
  · obtain rfl : j = p.sides[k].sent.length := by omega
    rw [again_next _ k hk', List.take_length, List.length_append]
    exact ⟨⟨by omega, by omega⟩, hk', rfl, rfl, rfl⟩
theorem c14 (p : Partner) (ot req kind dy : Int) (note : List UInt8) : AFn Tryd.prog Γ0 14 [.agg (p.ds.map C.d), .c (.d (.int .i64 ot)), .c (.d (.int .i64 req)), .c (.d (.int .i64 kind)), .c (.d (.int .i64 dy)), .c (.d (.str note))] [.d (.bool true)] := by
  refine AFn.vc [] Tryd.func14 rfl Tryd.mixed (by kernel_rfl) Tryd.ntmps14 Tryd.results14 (by simp) ?_
  push_cast
  refine CallL.q c38 ?_
  push_cast
  refine CallL.q (c39 p) ?_
  push_cast
  rintro ⟨h1, h2⟩ h3
  have hv := val_of h1 h2
  have hl := hv.pv.len
  have hsent : ∀ s ∈ p.sides, s.sent.length ≤ 1000 := fun s hs => by have := hv.msg s hs; omega
  refine CallL.q (c47 p ot req kind dy note (by omega) hsent (by omega)) ?_
  push_cast
  refine CallL.q (c48 p ot req kind dy note (by omega) hsent (by omega)) ?_
  push_cast
  refine CallX.q (c42s (pSayP p ot req kind dy note) (psay_ok hv.pv hv.ok (by omega))) ?_
  push_cast
  refine CallX.q (c50 p (by omega) hsent) ?_
  push_cast
  refine CallX.q (c51 p (by omega) hsent) ?_
  push_cast
  have hag := again_le hsent
  refine CallX.q (c49 (againF p.sides) (againF p.sides) (by omega) (by omega)) ?_
  push_cast
theorem c17 (p : Partner) (m : Msg) (ot rc dy : Int) : AFn Tryd.prog Γ0 17 [.agg (p.ds.map C.d), .agg (m.ds.map C.d), .c (.d (.int .i64 ot)), .c (.d (.int .i64 rc)), .c (.d (.int .i64 dy))] [.d (.bool true)] := by
  refine AFn.vc [] Tryd.func17 rfl Tryd.mixed (by kernel_rfl) Tryd.ntmps17 Tryd.results17 (by simp) ?_
  push_cast
  refine CallL.q c38 ?_
  push_cast
  refine CallL.q (c56 p) ?_
  push_cast
  intro h1 h2
  obtain ⟨s1, s2⟩ := smallP_val h1
  refine CallL.q (c59 p (by omega) fun s hs => (s2 s hs).2) ?_
  push_cast
  intro h3
  have hv := val_of h1 h3
  have hl := hv.pv.len
  have hnx := hv.pv.next
  have hmn : m.note.length ≤ 100 := by omega
  have hsent : ∀ {q : Partner}, PV q → ∀ s ∈ q.sides, s.sent.length ≤ 1000 := fun {q} h s hs => by
    obtain ⟨_, _, _, _, _, _, _, _, a, _⟩ := side_val (h.side s hs)
    omega
  refine CallL.q (c40 p ot rc dy (by omega) (by omega) (by omega)) ?_
  push_cast
  refine ⟨fun e => ?_, fun e => ?_⟩
  obtain ⟨q1, q2, q3, _⟩ := pask_right hv.pv e
  have qo := pask_ok (ot := ot) (rc := rc) (dy := dy) hv.pv hv.ok
  have qn : (pAskP p ot rc dy).next = p.next + 1 := by rw [q3]
  have qm : (pAskM p ot rc dy).note.length ≤ 100000 := by
    have := (pask_right hv.pv e).2.2.2
    rw [this]; exact Nat.zero_le _
  refine CallL.q (c59 (pAskP p ot rc dy) (by have := qo.len; omega) qo.sm) ?_
  rw [(pright_iff _).2 q1]
  push_cast
  refine CallL.q (c61 (pAskM p ot rc dy) qm) ?_
  rw [q2]
  push_cast [qn]
  refine ⟨⟨by omega, by omega⟩, ?_⟩
  all_goals
    refine CallL.q (c47 p m.frm m.req m.kind dy m.note (by omega) (hsent hv.pv) (by omega)) ?_
    push_cast
    refine ⟨fun e2 => ?_, fun e2 => ?_⟩
    have r1 := (psay_right hv.pv hv.ok.sm hmn e2).1
    have ro := psay_ok (ot := m.frm) (req := m.req) (kind := m.kind) (dy := dy) hv.pv hv.ok hmn
    have ra := psay_again e2
    refine CallX.q (c59 (pSayP p m.frm m.req m.kind dy m.note) (by have := ro.len; omega) ro.sm) ?_
    rw [(pright_iff _).2 r1]
    push_cast
    refine CallX.q (c50 (pSayP p m.frm m.req m.kind dy m.note) ro.len (hsent r1)) ?_
    push_cast
    refine CallX.q (c50 p (by omega) (hsent hv.pv)) ?_
    push_cast [ra]
    have hag := again_le (hsent hv.pv)
    refine ⟨⟨by omega, by omega⟩, ?_⟩
    all_goals
      refine CallL.q (c43 p m (by omega) hv.pv.hearK (by omega)) ?_
      push_cast
      intro e3
      have t1 := (phear_right hv.pv hv.ok.sm hmn e3).1
      have tok := phear_ok hv.pv hv.ok hmn
      obtain ⟨t2, t3⟩ := phear_twice hv.pv hv.ok.sm hmn e3
      refine CallL.q (c43 (pHearP p m) m tok.len t1.hearK (by omega)) ?_
      rw [t2, t3]
      push_cast
      refine CallL.q (c59 (pHearP p m) (by have := tok.len; omega) tok.sm) ?_
      rw [(pright_iff _).2 t1]
      push_cast
      refine CallL.q (c42s (pHearP p m) tok) ?_
      push_cast
end Go.Proofs
