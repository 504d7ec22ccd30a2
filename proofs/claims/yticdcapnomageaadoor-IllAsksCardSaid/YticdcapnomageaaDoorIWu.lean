/- Part of a proof about this program; no condition of its own. -/
import Derived.Test.YticdcapnomageaaDoorIWt
set_option linter.all false
/- Walks of the chapters on loans between libraries, twenty-first part: the reference's Hear. No condition. -/
namespace Go.Proofs
open Go Go.Ax Go.Tx Go.Il
set_option maxRecDepth 100000
variable {Γ : List (Nat × List D)}
theorem msg_kind {m : Msg} (h : msgF m = 0) : 1 ≤ m.kind ∧ m.kind ≤ 11 := by
  unfold msgF at h
  cases h1 : (inB m.frm 1 4 && inB m.dst 1 4) <;> rw [h1] at h
  · cases h
  · cases h2 : decide (m.frm = m.dst) <;> rw [h2] at h
    · cases h3 : (inB m.req 1 9999 && inB m.seq 1 99) <;> rw [h3] at h
      · cases h
      · cases h4 : inB m.kind 1 11 <;> rw [h4] at h
        · cases h
        · exact inB_iff.1 h4
    · cases h
theorem of_role (kind : Int) (h : (ofF kind).role = 2) : kind ≠ 1 := fun e => by subst e; revert h; decide
set_option maxHeartbeats 40000000 in
theorem c34 (id : Int) (s : Side) (m : Msg) (hK : hearK s) (hkd : ∀ x ∈ s.early, 1 ≤ x.kind ∧ x.kind ≤ 11) (hm : m.note.length ≤ 100000) :
    AFn Tryd.prog Γ 34 [.c (.d (.int .i64 id)), .agg (s.ds.map C.d), .agg (m.ds.map C.d)] [.agg (hearS id s m).ds, .d (.int .i64 (hearE id s m))] := by
  obtain ⟨k1, k2, k3, k4, k5, k6⟩ := hK
  refine AFn.vc [1000015] Tryd.func34 rfl Tryd.mixed (by kernel_rfl) Tryd.ntmps34 Tryd.results34 (by simp) ?_
  push_cast
  refine CallX.q (c61 m hm) ?_
  push_cast
  have hbad : fitsF id s m = false → hearS id s m = side0 ∧ hearE id s m = 1 := fun h1 => ⟨by simp [hearS, h1], by simp [hearE, h1]⟩
  have hN : ¬ (msgF m = 0 ∧ m.dst = id ∧ m.frm = s.ptn ∧ m.req = s.req ∧ (ofF m.kind).role = 3 - s.role) → fitsF id s m = false := fun c => by unfold fitsF; rw [decide_eq_false c]; rfl
  have bad : fitsF id s m = false → (((0 = (hearS id s m).req ∧ 0 = (hearS id s m).ptn ∧ 0 = (hearS id s m).role ∧ 0 = (hearS id s m).state ∧ 0 = (hearS id s m).rcd ∧ 0 = (hearS id s m).due ∧ 0 = (hearS id s m).heard ∧ (hearS id s m).sent = [] ∧ (hearS id s m).early = []) ∧ 1 = hearE id s m)) := fun h => by
    rw [(hbad h).1, (hbad h).2]; exact ⟨⟨rfl, rfl, rfl, rfl, rfl, rfl, rfl, rfl, rfl⟩, rfl⟩
  refine ⟨fun a1 => ⟨fun a2 => ⟨fun a3 => ⟨fun a4 => ?_, fun h => bad (hN fun q => h q.2.2.2.1)⟩, fun h => bad (hN fun q => h q.2.2.1)⟩, fun h => bad (hN fun q => h q.2.1)⟩, fun h => bad (hN fun q => h q.1)⟩
  refine CallX.q (c71' s.role k6) ?_
  push_cast
  refine CallX.q (c70' s.role m.kind k6) ?_
  by_cases a5 : (ofF m.kind).role = 3 - s.role
  · have e5 : ((ofF m.kind).role = 3 - s.role) = True := eq_true a5
    have hfit : fitsF id s m = (decide (s.role = 1) || (decide (m.seq = 1) == decide (m.kind = 1))) := by
      unfold fitsF; rw [decide_eq_true (p := msgF m = 0 ∧ m.dst = id ∧ m.frm = s.ptn ∧ m.req = s.req ∧ (ofF m.kind).role = 3 - s.role) ⟨a1, a2, a3, a4, a5⟩, Bool.true_and]
    have good : fitsF id s m = true → (s.role = 1 ∧ m.kind ≠ 1) ∨ (s.role = 2 ∧ m.seq = 1 ∧ m.kind = 1) ∨ (s.role = 2 ∧ m.seq ≠ 1 ∧ m.kind ≠ 1) := fun h => by
      rw [hfit] at h
      rcases k6 with r | r
      · exact .inl ⟨r, of_role m.kind (by rw [a5, r]; rfl)⟩
      · by_cases q : m.seq = 1 <;> by_cases f : m.kind = 1 <;> simp [r, q, f] at h ⊢
    cases hf : fitsF id s m with
    | false =>
      rcases k6 with r | r
      · rw [hfit, decide_eq_true r] at hf; cases hf
      · have e1 : (s.role = 2) = True := eq_true r
        by_cases q : m.seq = 1 <;> by_cases f : m.kind = 1
        all_goals
          first | have e2 : (m.seq = 1) = True := eq_true q | have e2 : (m.seq = 1) = False := eq_false q
          first | have e3 : (m.kind = 1) = True := eq_true f | have e3 : (m.kind = 1) = False := eq_false f
          first
            | (exfalso; rw [hfit] at hf; simp [r, q, f] at hf; done)
            | (push_cast [e5, e1, e2, e3]; exact bad hf)
    | true =>
      have hq : 1 ≤ m.seq ∧ m.seq ≤ 99 := msg_seq a1
      have hA : m.seq ≤ s.heard → hearS id s m = s ∧ hearE id s m = 0 := fun h => ⟨by simp [hearS, hf, h], by simp [hearE, hf, h]⟩
      have hB : s.heard + 1 < m.seq → hearS id s m = keepS s m ∧ hearE id s m = keepE s m := fun h => ⟨by simp [hearS, hf, h, show ¬ m.seq ≤ s.heard by omega], by simp [hearE, hf, h, show ¬ m.seq ≤ s.heard by omega]⟩
      have hC : s.heard < m.seq → m.seq ≤ s.heard + 1 → hearS id s m = drain (takeF s m) s.early ∧ hearE id s m = 0 := fun h h' => ⟨by simp [hearS, hf, show ¬ m.seq ≤ s.heard by omega, show ¬ s.heard + 1 < m.seq by omega], by simp [hearE, hf, show ¬ m.seq ≤ s.heard by omega, show ¬ s.heard + 1 < m.seq by omega]⟩
      rcases good hf with ⟨r, q⟩ | ⟨r, q, f⟩ | ⟨r, q, f⟩
      rotate_left
      rotate_left
      all_goals
        first | have e1 : (s.role = 2) = True := eq_true r | have e1 : (s.role = 2) = False := eq_false (by omega)
        first | have e2 : (m.seq = 1) = True := eq_true q | have e2 : (m.seq = 1) = False := eq_false q | have e2 : (m.kind = 1) = False := eq_false q
        first | have e3 : (m.kind = 1) = True := eq_true f | have e3 : (m.kind = 1) = False := eq_false f | have e3 : (m.kind = 1) = False := eq_false q
        push_cast [e5, e1, e2, e3]
        refine ⟨fun h2 => ?_, fun h2 => ⟨⟨by omega, by omega⟩, ⟨by omega, by omega⟩, fun h3 => ?_, fun h3 => ?_⟩⟩
        · rw [(hA h2).1, (hA h2).2]
          exact ⟨⟨rfl, rfl, rfl, rfl, rfl, rfl, rfl, rfl, rfl⟩, rfl⟩
        · rw [(hB h3).1, (hB h3).2]
          refine LoopV.cnt Tryd.mixed [4, 5, 6, 9] s.early.length (fun k => [(10, .c (.d (.int .i64 k)))]) (fun k => ∀ j (hj : j < s.early.length), j < k → s.early[j].seq < m.seq) (fun j hj h => by omega) ?_ (by push_cast)
          intro k hk hin
          have hlow := lowN_le m.seq s.early
          have c9 : (k + (s.early.length - k) ≤ s.early.length) = True := eq_true (by omega)
          have c10 : List.take (s.early.length - k) (List.drop k (List.map Msg.ds s.early)) = List.drop k (List.map Msg.ds s.early) := List.take_of_length_le (by simp)
          by_cases b1 : (k : Int) < s.early.length
          · have c1 : ((k : Int) < s.early.length) = True := eq_true b1
            have hk' : k < s.early.length := by omega
            by_cases b2 : s.early[k].seq < m.seq
            · have c2 : (s.early[k].seq < m.seq) = True := eq_true b2
              push_cast [c1, c2]
              refine ⟨hk', ⟨by omega, by omega⟩, hk', fun j hj h => ?_⟩
              by_cases hjk : j = k
              · subst hjk; exact b2
              · exact hin j hj (by omega)
            · have c2 : (s.early[k].seq < m.seq) = False := eq_false b2
              have hl : lowN s.early m.seq = k := lowN_eq m.seq s.early k hk hin fun j hj h => by
                by_cases hjk : j = k
                · subst hjk; omega
                · have := k1 k j hk' hj (by omega); omega
              have hat : atN s.early m.seq = decide (s.early[k].seq = m.seq) := by unfold atN; rw [hl, List.getElem?_eq_getElem hk']
              by_cases b3 : s.early[k].seq = m.seq
              · have c3 : (s.early[k].seq = m.seq) = True := eq_true b3
                rw [decide_eq_true b3] at hat
                push_cast [c1, c2, c3]
                rw [show keepS s m = s by simp [keepS, hat], show keepE s m = 0 by simp [keepE, hat]]
                exact ⟨hk', hk', ⟨rfl, rfl, rfl, rfl, rfl, rfl, rfl, rfl, rfl⟩, rfl⟩
              · have c3 : (s.early[k].seq = m.seq) = False := eq_false b3
                rw [decide_eq_false b3] at hat
                push_cast [c1, c2, c3]
                have hK : s.early.length < 8 → keepS s m = { s with early := insL s.early m } ∧ keepE s m = 0 := fun h => ⟨by simp [keepS, hat, show ¬ 8 ≤ s.early.length by omega], by simp [keepE, hat, show ¬ 8 ≤ s.early.length by omega]⟩
                refine ⟨hk', hk', fun b4 => ?_, fun b4 => ?_⟩
                · rw [show keepS s m = side0 by simp [keepS, hat, show 8 ≤ s.early.length by omega], show keepE s m = 13 by simp [keepE, hat, show 8 ≤ s.early.length by omega]]
                  exact ⟨⟨rfl, rfl, rfl, rfl, rfl, rfl, rfl, rfl, rfl⟩, rfl⟩
                · have hK := hK (by omega)
                  refine RegV.tab (E := [1000015]) Tryd.mixed tab34 [some (120, .c (.own 4 0)), some (121, .c (.own 3 1)), some (122, .c (.d (.int .i64 k))), some (123, .c (.sub 3 1 8 0 k)), some (124, .c (.own 4 1)), some (125, .agg (m.ds.map C.d)), some (126, .c (.d (.lst 8 [m.ds]))), some (127, .c (.own 4 2)), some (128, .c (.own 3 1)), some (129, .c (.d (.int .i64 k))), some (130, .c (.sub 3 1 8 k (s.early.length - k))), some (131, .c (.own 4 3)), some (132, .c (.loc 0 8)), none] [some [.box 26 (s.ds.map C.d), .box 28 (m.ds.map C.d), .box 26 (Side.ds0 side0), .row 28 8 (s.early.map Msg.ds) 1, .row 28 8 [] 0], none, none, none, some [.box 26 (s.ds.map C.d), .box 28 (m.ds.map C.d), .box 26 (Side.ds0 side0), .row 28 8 (s.early.map Msg.ds) 1, .row 28 8 ((s.early.map Msg.ds).take k) 1], none, none, some [.box 26 (s.ds.map C.d), .box 28 (m.ds.map C.d), .box 26 (Side.ds0 side0), .row 28 8 (s.early.map Msg.ds) 1, .row 28 8 ((s.early.map Msg.ds).take k ++ [m.ds]) 2], none, none, none, some [.box 26 (s.ds.map C.d), .box 28 (m.ds.map C.d), .box 26 (Side.ds0 side0), .row 28 8 (s.early.map Msg.ds) 1, .row 28 8 ((s.early.map Msg.ds).take k ++ [m.ds] ++ (s.early.map Msg.ds).drop k) 3], none, some [.box 26 ((s.ds.map C.d).set 8 (.own 4 3)), .box 28 (m.ds.map C.d), .box 26 (Side.ds0 side0), .row 28 8 (s.early.map Msg.ds) 1, .row 28 8 ((s.early.map Msg.ds).take k ++ [m.ds] ++ (s.early.map Msg.ds).drop k) 3]] (by kernel_rfl) (by kernel_rfl) rfl ?_ ?_
                  · push_cast [tab34, eq_true hk, c9, c10]
                    repeat' (first | refine And.intro ?_ ?_ | omega)
                  · push_cast
                    rw [hK.1, hK.2]
                    refine ⟨⟨rfl, rfl, rfl, rfl, rfl, rfl, rfl, rfl, ?_⟩, rfl⟩
                    show _ = List.map Msg.ds (insL s.early m)
                    simp only [insL, hl, List.map_append, List.map_take, List.map_drop, List.map_cons, List.map_nil]
                    rfl
          · have c1 : ((k : Int) < s.early.length) = False := eq_false b1
            have hkl : k = s.early.length := by omega
            have hl : lowN s.early m.seq = k := lowN_eq m.seq s.early k hk hin fun j hj h => by omega
            have hat : atN s.early m.seq = false := by unfold atN; rw [hl, List.getElem?_eq_none (by omega)]
            push_cast [c1]
            have hK : s.early.length < 8 → keepS s m = { s with early := insL s.early m } ∧ keepE s m = 0 := fun h => ⟨by simp [keepS, hat, show ¬ 8 ≤ s.early.length by omega], by simp [keepE, hat, show ¬ 8 ≤ s.early.length by omega]⟩
            refine ⟨fun b4 => ?_, fun b4 => ?_⟩
            · rw [show keepS s m = side0 by simp [keepS, hat, show 8 ≤ s.early.length by omega], show keepE s m = 13 by simp [keepE, hat, show 8 ≤ s.early.length by omega]]
              exact ⟨⟨rfl, rfl, rfl, rfl, rfl, rfl, rfl, rfl, rfl⟩, rfl⟩
            · have hK := hK (by omega)
              refine RegV.tab (E := [1000015]) Tryd.mixed tab34 [some (120, .c (.own 4 0)), some (121, .c (.own 3 1)), some (122, .c (.d (.int .i64 k))), some (123, .c (.sub 3 1 8 0 k)), some (124, .c (.own 4 1)), some (125, .agg (m.ds.map C.d)), some (126, .c (.d (.lst 8 [m.ds]))), some (127, .c (.own 4 2)), some (128, .c (.own 3 1)), some (129, .c (.d (.int .i64 k))), some (130, .c (.sub 3 1 8 k (s.early.length - k))), some (131, .c (.own 4 3)), some (132, .c (.loc 0 8)), none] [some [.box 26 (s.ds.map C.d), .box 28 (m.ds.map C.d), .box 26 (Side.ds0 side0), .row 28 8 (s.early.map Msg.ds) 1, .row 28 8 [] 0], none, none, none, some [.box 26 (s.ds.map C.d), .box 28 (m.ds.map C.d), .box 26 (Side.ds0 side0), .row 28 8 (s.early.map Msg.ds) 1, .row 28 8 ((s.early.map Msg.ds).take k) 1], none, none, some [.box 26 (s.ds.map C.d), .box 28 (m.ds.map C.d), .box 26 (Side.ds0 side0), .row 28 8 (s.early.map Msg.ds) 1, .row 28 8 ((s.early.map Msg.ds).take k ++ [m.ds]) 2], none, none, none, some [.box 26 (s.ds.map C.d), .box 28 (m.ds.map C.d), .box 26 (Side.ds0 side0), .row 28 8 (s.early.map Msg.ds) 1, .row 28 8 ((s.early.map Msg.ds).take k ++ [m.ds] ++ (s.early.map Msg.ds).drop k) 3], none, some [.box 26 ((s.ds.map C.d).set 8 (.own 4 3)), .box 28 (m.ds.map C.d), .box 26 (Side.ds0 side0), .row 28 8 (s.early.map Msg.ds) 1, .row 28 8 ((s.early.map Msg.ds).take k ++ [m.ds] ++ (s.early.map Msg.ds).drop k) 3]] (by kernel_rfl) (by kernel_rfl) rfl ?_ ?_
              · push_cast [tab34, eq_true hk, c9, c10]
                repeat' (first | refine And.intro ?_ ?_ | omega)
              · push_cast
                rw [hK.1, hK.2]
                refine ⟨⟨rfl, rfl, rfl, rfl, rfl, rfl, rfl, rfl, ?_⟩, rfl⟩
                show _ = List.map Msg.ds (insL s.early m)
                simp only [insL, hl, List.map_append, List.map_take, List.map_drop, List.map_cons, List.map_nil]
                rfl
        · rw [(hC h2 h3).1, (hC h2 h3).2]
          have hkind := msg_kind a1
          refine CallL.q (c76 s m (by omega) (by omega) hkind.1 hkind.2) ?_
          push_cast
          refine LoopV.of Tryd.mixed [4, 6] (fun s' : Side => [(9, .c (.d (.lst 8 (s'.early.map Msg.ds))))]) (fun s' => [.box 26 ({ s' with early := s.early }.ds.map C.d), .box 28 (m.ds.map C.d), .box 26 (Side.ds0 side0)]) (fun s' => drain s' s'.early = drain (takeF s m) s.early ∧ 0 ≤ s'.heard ∧ s'.heard + s'.early.length ≤ 200 ∧ s'.early.length ≤ 8 ∧ ∀ x ∈ s'.early, 1 ≤ x.kind ∧ x.kind ≤ 11) (fun s' => s'.early.length) (takeF s m) ?_ (by push_cast; rw [(take_heard s m).2.1]; exact ⟨rfl, rfl⟩) ?_
          · obtain ⟨t1, t2, _⟩ := take_heard s m
            rw [t1, t2]
            exact ⟨rfl, by omega, by omega, by omega, hkd⟩
          · rintro s' ⟨i1, i2, i3, i4, i5⟩
            push_cast
            have hend : (∀ h : 0 < s'.early.length, ¬ s'.early[0].seq = s'.heard + 1) → drain s' s'.early = s' := fun h => by
              cases he : s'.early with
              | nil => show ({ s' with early := [] } : Side) = s'; rw [← he]
              | cons x r =>
                have := h (by rw [he]; simp)
                simp only [he, List.getElem_cons_zero] at this
                show (if x.seq = s'.heard + 1 then drain (takeF s' x) r else { s' with early := x :: r }) = s'
                rw [if_neg this, ← he]
            refine ⟨fun h5 => ⟨by omega, ⟨by omega, by omega⟩, fun h6 => ⟨by omega, ?_⟩, fun h6 => ?_⟩, fun h5 => ?_⟩
            · have hk0 := i5 _ (List.getElem_mem (show 0 < s'.early.length by omega))
              refine CallX.q (c76 { s' with early := s.early } (s'.early[0]'(by omega)) (by show _ ≤ s'.heard; omega) (by show s'.heard ≤ _; omega) hk0.1 hk0.2) ?_
              rw [take_early]
              push_cast
              obtain ⟨t1, t2, _⟩ := take_heard s' (s'.early[0]'(by omega))
              refine ⟨⟨by omega, by omega⟩, { takeF s' (s'.early[0]'(by omega)) with early := s'.early.drop 1 }, ⟨⟨?_, by show 0 ≤ (takeF s' _).heard; omega, ?_, by simp; omega, fun x hx => i5 x (List.mem_of_mem_drop hx)⟩, by simp; omega⟩, ?_, rfl, rfl, rfl, rfl, rfl, rfl, rfl, rfl⟩
              · rw [← i1]
                show drain { takeF s' _ with early := _ } (s'.early.drop 1) = _
                rw [drain_early]
                have hc : s'.early = (s'.early[0]'(by omega)) :: s'.early.drop 1 := by
                  have := List.drop_eq_getElem_cons (show 0 < s'.early.length by omega)
                  simpa using this
                conv => rhs; rw [hc]
                show _ = (if (s'.early[0]'(by omega)).seq = s'.heard + 1 then drain (takeF s' _) (s'.early.drop 1) else _)
                rw [if_pos h6]
              · show (takeF s' _).heard + ((s'.early.drop 1).length : Int) ≤ 200
                rw [t1, List.length_drop]; omega
              · show List.map Msg.ds (s'.early.drop 1) = _
                rw [List.map_drop]
                exact (List.take_of_length_le (by simp)).symm
            · rw [← i1, hend fun _ => h6]
              exact ⟨rfl, rfl, rfl, rfl, rfl, rfl, rfl, rfl, rfl⟩
            · rw [← i1, hend fun h => by omega]
              exact ⟨rfl, rfl, rfl, rfl, rfl, rfl, rfl, rfl, rfl⟩
  · have e5 : ((ofF m.kind).role = 3 - s.role) = False := eq_false a5
    push_cast [e5]
    exact bad (hN fun q => a5 q.2.2.2.2)
end Go.Proofs
