/- Part of a proof about this program; no condition of its own. -/
import Derived.Test.YtanbfhnmklhjiaaGreatDoorZWl
set_option linter.all false
/- The counts of a facet: the reference. No condition. -/
namespace Go.Proofs
open Go Go.Ax Go.Tx Go.Lib Go.Shelf Go.RowKit Go.Fc
set_option maxRecDepth 100000
set_option maxHeartbeats 0
variable {Γ : List (Nat × List D)}
theorem sel_next {l : List Rec} (ids : List Int) {k : Nat} (h : k < l.length) : selR (l.take (k + 1)) ids = if l[k].id ∈ ids then selR (l.take k) ids ++ [l[k]] else selR (l.take k) ids := by
  unfold selR
  rw [filter_next h]
  simp
theorem vs_app (kind : Int) (a : List Rec) (r : Rec) : vsF kind (a ++ [r]) = vsF kind a ++ valuesF kind r := by
  unfold vsF
  rw [List.flatMap_append]; simp
theorem puts_app (a : List Str) (b : List Str) (k : Nat) (h : k < b.length) : putsS (a ++ b.take (k + 1)) = putS (putsS (a ++ b.take k)) b[k] := by
  unfold putsS
  rw [Fc.take_next h, ← List.append_assoc, List.foldl_append]; rfl
theorem sel_len (l : List Rec) (ids : List Int) : (selR l ids).length ≤ l.length := List.length_filter_le _ _
theorem cnt_next (kind : Int) (ids : List Int) (v : Str) {l : List Rec} {k : Nat} (h : k < l.length) : cntR kind (selR (l.take (k + 1)) ids) v = if l[k].id ∈ ids ∧ v ∈ valuesF kind l[k] then cntR kind (selR (l.take k) ids) v + 1 else cntR kind (selR (l.take k) ids) v := by
  rw [sel_next ids h]
  unfold cntR
  by_cases h1 : l[k].id ∈ ids
  · rw [if_pos h1, List.countP_append]
    by_cases h2 : v ∈ valuesF kind l[k]
    · rw [if_pos ⟨h1, h2⟩]; simp [h2]
    · rw [if_neg (fun h => h2 h.2)]; simp [h2]
  · rw [if_neg h1, if_neg (fun h => h1 h.1)]
theorem c50 (l : List Rec) (ids : List Int) (kind : Int) (hl : l.length ≤ 100) (hi : ids.length ≤ 1000000) (hok : ∀ r ∈ l, r.ok) : AFn Tryz.prog Γ 50 [.c (.d (.lst 5 (l.map Rec.ds))), .c (.d (.lst 1 (ids.map Fc.iD))), .c (.d (.int .i64 kind))] [.d (.lst 2 ((countF l ids kind).map Bk.ds))] := by
  refine AFn.vc [] Tryz.func50 rfl Tryz.mixed (by kernel_rfl) Tryz.ntmps50 Tryz.results50 (by simp) ?_
  push_cast
  have hfit : ∀ k, ∀ r ∈ selR (l.take k) ids, r.fit := fun k r hr => (hok r (List.mem_of_mem_take (List.mem_filter.1 hr).1)).fit
  have hvl : ∀ k, (vsF kind (selR (l.take k) ids)).length ≤ 200100 := fun k => by
    have h1 := vs_len kind _ (hfit k)
    have h2 := sel_len (l.take k) ids
    rw [List.length_take] at h2
    omega
  refine LoopV.cnt Tryz.mixed [0, 1, 2] l.length (fun k => [(7, .c (.d (.lst 1 ((putsS (vsF kind (selR (l.take k) ids))).map Fc.sD)))), (8, .c (.d (.int .i64 k)))]) (fun _ => True) trivial ?_ (by push_cast; rfl)
  intro k hk _
  push_cast
  refine ⟨fun h => ?_, fun h => ?_⟩
  · have hlt : k < l.length := by omega
    refine ⟨hlt, ?_⟩
    refine CallL.q (c109 ids l[k].id (by omega)) ?_
    push_cast
    have hn := sel_next ids hlt
    refine ⟨fun e => ?_, fun e => ?_⟩
    · rw [if_pos e] at hn
      have h3 := (hok _ (List.getElem_mem hlt)).fit
      refine ⟨hlt, ?_⟩
      refine CallL.q (c47 kind l[k] h3) ?_
      push_cast
      have hv := values_len kind l[k] h3
      have hv0 := hvl k
      have hnv : vsF kind (selR (l.take (k + 1)) ids) = vsF kind (selR (l.take k) ids) ++ valuesF kind l[k] := by rw [hn, vs_app]
      rw [hnv]
      have hnl := hvl (k + 1)
      rw [hnv, List.length_append] at hnl
      generalize vsF kind (selR (l.take k) ids) = V0 at *
      generalize valuesF kind l[k] = vs at *
      refine LoopV.cnt Tryz.mixed [0, 1, 2, 8, 9] vs.length (fun j => [(7, .c (.d (.lst 1 ((putsS (V0 ++ vs.take j)).map Fc.sD)))), (10, .c (.d (.int .i64 j)))]) (fun _ => True) trivial ?_ (by push_cast)
      intro j hj _
      push_cast
      refine ⟨fun h => ?_, fun h => ?_⟩
      · have hjl : j < vs.length := by omega
        refine ⟨hjl, ?_⟩
        have hb := putsS_len (V0 ++ vs.take j)
        rw [List.length_append, List.length_take] at hb
        refine CallL.q (c101 (putsS (V0 ++ vs.take j)) vs[j] (by omega)) ?_
        push_cast
        exact ⟨by omega, hjl, by rw [puts_app V0 vs j hjl]⟩
      · rw [List.take_of_length_le (by omega)]
        exact ⟨by omega, hlt, rfl⟩
    · rw [if_neg e] at hn
      exact ⟨by omega, hlt, by rw [hn]⟩
  · have hvl := hvl l.length
    rw [List.take_of_length_le (Nat.le_refl _)] at hvl
    rw [List.take_of_length_le (by omega)]
    have hcf : countF l ids kind = (putsS (vsF kind (selR l ids))).map fun v => ⟨v, cntR kind (selR l ids) v⟩ := rfl
    have hvb := putsS_len (vsF kind (selR l ids))
    rw [hcf]
    generalize hV : putsS (vsF kind (selR l ids)) = vs at *
    refine LoopV.nilrow 11 79 2 ?_
    push_cast
    refine LoopV.cntH Tryz.mixed [0, 1, 2, 7] vs.length (fun k => [(11, .c (.own 0 k)), (12, .c (.d (.int .i64 k)))]) (fun k => [.row 79 2 (((vs.take k).map fun v => (⟨v, cntR kind (selR l ids) v⟩ : Bk)).map Bk.ds) k]) (fun _ => True) trivial ?_ (by push_cast)
    intro k hk _
    push_cast
    refine ⟨fun h => ?_, fun h => ?_⟩
    · have hlt : k < vs.length := by omega
      refine ⟨hlt, ?_⟩
      refine LoopV.cntH Tryz.mixed [0, 1, 2, 7, 11, 12, 13] l.length (fun j => [(14, .c (.d (.int .i64 j)))]) (fun j => [.row 79 2 (((vs.take k).map fun v => (⟨v, cntR kind (selR l ids) v⟩ : Bk)).map Bk.ds) k, .box 79 [.d (.str vs[k]), .d (.int .i64 (cntR kind (selR (l.take j) ids) vs[k]))]]) (fun _ => True) trivial ?_ (by push_cast; rfl)
      intro j hj _
      push_cast
      refine ⟨fun h => ?_, fun h => ?_⟩
      · have hjl : j < l.length := by omega
        have hn := cnt_next kind ids vs[k] hjl
        have hb := cnt_bd kind (selR (l.take j) ids) vs[k]
        have hb2 := sel_len (l.take j) ids
        rw [List.length_take] at hb2
        generalize cntR kind (selR (l.take (j + 1)) ids) vs[k] = n1 at *
        generalize cntR kind (selR (l.take j) ids) vs[k] = n0 at *
        refine ⟨hjl, ?_⟩
        refine CallX.q (c109 ids l[j].id (by omega)) ?_
        push_cast
        refine ⟨fun e1 => ?_, fun e1 => ?_⟩
        · have h3 := (hok _ (List.getElem_mem hjl)).fit
          have hv := values_len kind l[j] h3
          refine ⟨hjl, ?_⟩
          refine CallX.q (c47 kind l[j] h3) ?_
          push_cast
          refine ⟨hlt, ?_⟩
          refine CallX.q (c110 (valuesF kind l[j]) vs[k] (by omega)) ?_
          push_cast
          refine ⟨fun e2 => ?_, fun e2 => ?_⟩
          · rw [if_pos ⟨e1, e2⟩] at hn
            exact ⟨by omega, by omega, hjl, hn.symm⟩
          · rw [if_neg (fun h => e2 h.2)] at hn
            exact ⟨by omega, hjl, hn.symm⟩
        · rw [if_neg (fun h => e1 h.1)] at hn
          exact ⟨by omega, hjl, hn.symm⟩
      · have hle : l.take j = l := List.take_of_length_le (by omega)
        rw [hle]
        have hn := map_next (fun v => (⟨v, cntR kind (selR l ids) v⟩ : Bk)) hlt
        exact ⟨by omega, by omega, hlt, by rw [hn]; simp [Bk.ds]⟩
    · rw [List.take_of_length_le (by omega)]
end Go.Proofs
