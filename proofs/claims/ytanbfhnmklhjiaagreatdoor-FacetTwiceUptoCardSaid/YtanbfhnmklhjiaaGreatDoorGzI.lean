/- Part of a proof about this program; no condition of its own. -/
import Derived.Test.YtanbfhnmklhjiaaGreatDoorZWk
import Derived.Test.YtanbfhnmklhjiaaGreatDoorGzH
set_option linter.all false
/- The narrowing of a facet, of the reference and of the program. No condition. -/
namespace Go.Proofs
open Go Go.Ax Go.Tx Go.Lib Go.Shelf Go.RowKit Go.Fc
set_option maxRecDepth 100000
set_option maxHeartbeats 0
variable {Γ : List (Nat × List D)}
theorem c147 (l : List Int) (v : Int) (hl : l.length ≤ 2000000) : AFn Tryz.prog Γ 147 [.c (.bor 1 (l.map Fc.iD)), .c (.d (.int .i64 v))] [.d (.int .i64 (Ax.fI (fun x => decide (x = v)) 0 l))] := by
  refine AFn.vc [] Tryz.func147 rfl Tryz.mixed (by kernel_rfl) Tryz.ntmps147 Tryz.results147 (by simp) ?_
  push_cast
  refine LoopV.cnt Tryz.mixed [0, 1, 7] l.length (fun k => [(8, .c (.d (.int .i64 k)))]) (fun k => Ax.fI (fun x => decide (x = v)) k (l.drop k) = Ax.fI (fun x => decide (x = v)) 0 l) (by simp) ?_ (by push_cast)
  intro k hk hinv
  push_cast
  refine ⟨fun h => ?_, fun h => ?_⟩
  · have hlt : k < l.length := by omega
    rw [Fc.drop_cons hlt, Ax.fI] at hinv
    refine ⟨hlt, fun e => ?_, fun e => ⟨by omega, hlt, ?_⟩⟩
    · rw [← hinv, if_pos (by simp [e])]
    · rw [← hinv, if_neg (by simpa using fun h => e h.symm)]
  · rw [← hinv, List.drop_eq_nil_of_le (by omega)]; rfl
theorem c85 (l : List Int) (v : Int) (hl : l.length ≤ 2000000) : AFn Tryz.prog Γ 85 [.c (.bor 1 (l.map Fc.iD)), .c (.d (.int .i64 v))] [.d (.bool (decide (v ∈ l)))] := by
  refine AFn.vc [] Tryz.func85 rfl Tryz.mixed (by kernel_rfl) Tryz.ntmps85 Tryz.results85 (by simp) ?_
  push_cast
  refine CallL.q (c147 l v hl) ?_
  push_cast
  rw [Ax.fI_ge]
  rw [List.any_eq]; exact decide_eq_decide.2 (by simp)
/-- What the search for a record answers. -/
theorem find_fI (l : List Rec) (id : Int) : (Ax.fI (fun r : Rec => decide (r.id = id)) 0 l < 0 ∧ l.find? (fun r => decide (r.id = id)) = none) ∨ (0 ≤ Ax.fI (fun r : Rec => decide (r.id = id)) 0 l ∧ ∃ h : (Ax.fI (fun r : Rec => decide (r.id = id)) 0 l).toNat < l.length, l.find? (fun r => decide (r.id = id)) = some l[(Ax.fI (fun r : Rec => decide (r.id = id)) 0 l).toNat]) := by
  rcases fI_spec (fun r : Rec => decide (r.id = id)) l 0 with ⟨h1, h2⟩ | ⟨j, hj, h1, h2⟩
  · exact .inl ⟨by omega, h2⟩
  · have e : (Ax.fI (fun r : Rec => decide (r.id = id)) 0 l).toNat = j := by omega
    refine .inr ⟨by omega, by omega, ?_⟩
    rw [h2]
    simp only [e]
theorem c52 (hΓ : (4, powD) ∈ Γ) (l : List Rec) (ids : List Int) (kind : Int) (value : Str) (hl : l.length ≤ 1000) (hi : ids.length ≤ 1000000) (hok : ∀ r ∈ l, r.ok) : AFn Tryz.prog Γ 52 [.c (.d (.lst 5 (l.map Rec.ds))), .c (.d (.lst 1 (ids.map Fc.iD))), .c (.d (.int .i64 kind)), .c (.d (.str value))] [.d (.lst 1 ((narrowF l ids kind value).map Fc.iD))] := by
  refine AFn.vc [] Tryz.func52 rfl Tryz.mixed (by kernel_rfl) Tryz.ntmps52 Tryz.results52 (by simp) ?_
  push_cast
  refine LoopV.nilrow 9 3 1 ?_
  push_cast
  refine LoopV.cntH Tryz.mixed [0, 2, 3, 13, 14] ids.length (fun k => [(9, .c (.own 0 (narrowF l (ids.take k) kind value).length)), (15, .c (.d (.int .i64 k)))]) (fun k => [.row 3 1 ((narrowF l (ids.take k) kind value).map Fc.iD) (narrowF l (ids.take k) kind value).length]) (fun _ => True) trivial ?_ (by push_cast; exact ⟨rfl, rfl, rfl⟩)
  intro k hk _
  push_cast
  refine ⟨fun h => ?_, fun h => by rw [List.take_of_length_le (by omega)]⟩
  have hlt : k < ids.length := by omega
  refine ⟨hlt, ?_⟩
  have hn := narrow_next l kind value hlt
  have hb := narrow_len l kind value (ids.take k) []
  have hb : (narrowF l (ids.take k) kind value).length ≤ 1000000 := by
    have : (ids.take k).length ≤ ids.length := by rw [List.length_take]; omega
    unfold narrowF; simp only [List.length_nil] at hb; omega
  generalize narrowF l (ids.take (k + 1)) kind value = X1 at *
  generalize narrowF l (ids.take k) kind value = X0 at *
  unfold stepN at hn
  have kf := find_fI l ids[k]
  refine CallL.q (c111 l (fun r => decide (r.id = ids[k])) (by omega)) ?_ (.cons (ArgOk.bor rfl) (.cons (ArgOk.clo (dss := [[.int .i64 ids[k]]]) (c112 (Γ := []) ⟨0, 0, 0, [], []⟩ 0).call rfl (fun a r h => by obtain ⟨x, rfl, rfl⟩ := h; exact c112 x _)) .nil))
  push_cast
  have hno : (∀ r, l.find? (fun r => decide (r.id = ids[k])) = some r → value ∉ valuesF kind r) → X1 = X0 := fun h => by
    rw [hn]
    split
    · rfl
    · cases hf : l.find? (fun r => decide (r.id = ids[k])) with
      | none => rfl
      | some r => simp only [if_neg (h r hf)]
  refine ⟨fun g0 => ⟨g0, ?_⟩, fun g0 => ?_⟩
  · rcases kf with ⟨h1, h2⟩ | ⟨h1, hj, h2⟩
    · omega
    · refine ⟨hj, ?_⟩
      have hm := List.getElem_mem hj
      have h3 := hok _ hm
      generalize l[(Ax.fI (fun r : Rec => decide (r.id = ids[k])) 0 l).toNat] = r at *
      have hv := values_len kind r h3.fit
      refine CallL.q (c46 hΓ kind r h3.fit h3.cd) ?_
      push_cast
      refine CallL.q (c113 (valuesF kind r) value (by omega)) ?_
      push_cast
      refine ⟨fun e1 => ?_, fun e1 => ?_⟩
      · refine CallL.q (c85 X0 ids[k] (by omega)) ?_
        push_cast
        refine ⟨fun e2 => ?_, fun e2 => ?_⟩
        · rw [if_neg e2, h2] at hn
          simp only [if_pos e1] at hn
          exact ⟨by omega, by omega, hlt, by rw [hn]; simp, by rw [hn]; simp [Fc.iD], by rw [hn]; simp⟩
        · rw [if_pos e2] at hn
          exact ⟨by omega, hlt, by rw [hn], by rw [hn], by rw [hn]⟩
      · have hX := hno fun r' h' => by rw [h2] at h'; cases h'; exact e1
        exact ⟨by omega, hlt, by rw [hX], by rw [hX], by rw [hX]⟩
  · have hX := hno fun r' h' => by
      rcases kf with ⟨h1, h2⟩ | ⟨h1, hj, h2⟩
      · rw [h2] at h'; cases h'
      · omega
    exact ⟨by omega, hlt, by rw [hX], by rw [hX], by rw [hX]⟩
theorem c109b (l : List Int) (n : Int) (hl : l.length ≤ 2000000) : AFn Tryz.prog Γ 109 [.c (.bor 1 (l.map iD)), .c (.d (.int .i64 n))] [.d (.bool (decide (n ∈ l)))] := by
  refine AFn.vc [] Tryz.func109 rfl Tryz.mixed (by kernel_rfl) Tryz.ntmps109 Tryz.results109 (by simp) ?_
  push_cast
  refine LoopV.cnt Tryz.mixed [0, 1] l.length (fun k => [(5, .c (.d (.int .i64 k)))]) (fun k => n ∈ l ↔ n ∈ l.drop k) (by simp) ?_
  intro k hk hinv
  push_cast
  refine ⟨fun h => ?_, fun h => ?_⟩
  · have hlt : k < l.length := by omega
    rw [mem_step hlt] at hinv
    refine ⟨hlt, fun e => (decide_eq_true (hinv.2 (.inl e))).symm, fun e => ⟨by omega, hlt, ?_⟩⟩
    rw [hinv]; exact ⟨fun h => h.resolve_left e, .inr⟩
  · exact (decide_eq_false fun hm => mem_end (by omega) (hinv.1 hm)).symm
theorem find_drop {l : List Rec} {id : Int} {k : Nat} (h : k < l.length) : (l.drop k).find? (fun r => decide (r.id = id)) = if l[k].id = id then some l[k] else (l.drop (k + 1)).find? (fun r => decide (r.id = id)) := by
  rw [Fc.drop_cons h, List.find?_cons]
  by_cases e : l[k].id = id
  · simp [e]
  · simp [e]
theorem c53 (l : List Rec) (ids : List Int) (kind : Int) (value : Str) (hl : l.length ≤ 1000) (hi : ids.length ≤ 1000000) (hok : ∀ r ∈ l, r.ok) : AFn Tryz.prog Γ 53 [.c (.d (.lst 5 (l.map Rec.ds))), .c (.d (.lst 1 (ids.map Fc.iD))), .c (.d (.int .i64 kind)), .c (.d (.str value))] [.d (.lst 1 ((narrowF l ids kind value).map Fc.iD))] := by
  refine AFn.vc [] Tryz.func53 rfl Tryz.mixed (by kernel_rfl) Tryz.ntmps53 Tryz.results53 (by simp) ?_
  push_cast
  refine LoopV.nilrow 9 3 1 ?_
  push_cast
  refine LoopV.cntH Tryz.mixed [0, 1, 2, 3] ids.length (fun k => [(9, .c (.own 0 (narrowF l (ids.take k) kind value).length)), (10, .c (.d (.int .i64 k)))]) (fun k => [.row 3 1 ((narrowF l (ids.take k) kind value).map Fc.iD) (narrowF l (ids.take k) kind value).length]) (fun _ => True) trivial ?_ (by push_cast; exact ⟨rfl, rfl, rfl⟩)
  intro k hk _
  push_cast
  refine ⟨fun h => ?_, fun h => by rw [List.take_of_length_le (by omega)]⟩
  have hlt : k < ids.length := by omega
  refine ⟨hlt, ?_⟩
  have hn := narrow_next l kind value hlt
  have hb := narrow_len l kind value (ids.take k) []
  have hb : (narrowF l (ids.take k) kind value).length ≤ 1000000 := by
    have : (ids.take k).length ≤ ids.length := by rw [List.length_take]; omega
    unfold narrowF; simp only [List.length_nil] at hb; omega
  generalize narrowF l (ids.take (k + 1)) kind value = X1 at *
  generalize narrowF l (ids.take k) kind value = X0 at *
  unfold stepN at hn
  refine CallL.q (c109b X0 ids[k] (by omega)) ?_
  push_cast
  refine ⟨fun e => ?_, fun e => ?_⟩
  · rw [if_pos e] at hn
    exact ⟨by omega, hlt, by rw [hn], by rw [hn], by rw [hn]⟩
  · rw [if_neg e] at hn
    refine LoopV.cntH Tryz.mixed [0, 1, 2, 3, 10] l.length (fun j => [(9, .c (.own 0 X0.length)), (11, .c (.d (.int .i64 j)))]) (fun _ => [.row 3 1 (X0.map Fc.iD) X0.length]) (fun j => l.find? (fun r => decide (r.id = ids[k])) = (l.drop j).find? (fun r => decide (r.id = ids[k]))) (by simp) ?_ (by push_cast)
    intro j hj hjv
    push_cast
    refine ⟨fun h5 => ?_, fun h5 => ?_⟩
    · have hjl : j < l.length := by omega
      rw [find_drop hjl] at hjv
      refine ⟨hjl, hlt, fun e1 => ?_, fun e1 => ⟨by omega, hjl, by rw [hjv, if_neg e1]⟩⟩
      rw [if_pos e1] at hjv
      rw [hjv] at hn
      simp only at hn
      refine ⟨hjl, ?_⟩
      have h3 := hok _ (List.getElem_mem hjl)
      generalize l[j] = r at *
      have hv := values_len kind r h3.fit
      refine CallL.q (c47 kind r h3.fit) ?_
      push_cast
      refine CallL.q (c110 (valuesF kind r) value (by omega)) ?_
      push_cast
      refine ⟨fun e2 => ?_, fun e2 => ?_⟩
      · rw [if_pos e2] at hn
        exact ⟨hlt, by omega, by omega, hlt, by rw [hn]; simp, by rw [hn]; simp [Fc.iD], by rw [hn]; simp⟩
      · rw [if_neg e2] at hn
        exact ⟨by omega, hlt, by rw [hn], by rw [hn], by rw [hn]⟩
    · rw [List.drop_eq_nil_of_le (by omega)] at hjv
      rw [hjv] at hn
      simp only [List.find?_nil] at hn
      exact ⟨by omega, hlt, by rw [hn], by rw [hn], by rw [hn]⟩
end Go.Proofs

/- The counts of a facet: the reference. No condition. -/
namespace Go.Proofs
open Go Go.Ax Go.Tx Go.Lib Go.Shelf Go.RowKit Go.Fc
set_option maxRecDepth 100000
set_option maxHeartbeats 0
variable {Γ : List (Nat × List D)}
theorem sel_next {l : List Rec} (ids : List Int) {k : Nat} (h : k < l.length) : selR (l.take (k + 1)) ids = if l[k].id ∈ ids then selR (l.take k) ids ++ [l[k]] else selR (l.take k) ids := by
  unfold selR
  rw [filter_next h]
  simp
theorem vs_app (kind : Int) (a : List Rec) (r : Rec) : vsF kind (a ++ [r]) = vsF kind a ++ valuesF kind r := by
  unfold vsF
  rw [List.flatMap_append]; simp
theorem puts_app (a : List Str) (b : List Str) (k : Nat) (h : k < b.length) : putsS (a ++ b.take (k + 1)) = putS (putsS (a ++ b.take k)) b[k] := by
  unfold putsS
  rw [Fc.take_next h, ← List.append_assoc, List.foldl_append]; rfl
theorem sel_len (l : List Rec) (ids : List Int) : (selR l ids).length ≤ l.length := List.length_filter_le _ _
theorem cnt_next (kind : Int) (ids : List Int) (v : Str) {l : List Rec} {k : Nat} (h : k < l.length) : cntR kind (selR (l.take (k + 1)) ids) v = if l[k].id ∈ ids ∧ v ∈ valuesF kind l[k] then cntR kind (selR (l.take k) ids) v + 1 else cntR kind (selR (l.take k) ids) v := by
  rw [sel_next ids h]
  unfold cntR
  by_cases h1 : l[k].id ∈ ids
  · rw [if_pos h1, List.countP_append]
    by_cases h2 : v ∈ valuesF kind l[k]
    · rw [if_pos ⟨h1, h2⟩]; simp [h2]
    · rw [if_neg (fun h => h2 h.2)]; simp [h2]
  · rw [if_neg h1, if_neg (fun h => h1 h.1)]
theorem c50 (l : List Rec) (ids : List Int) (kind : Int) (hl : l.length ≤ 100) (hi : ids.length ≤ 1000000) (hok : ∀ r ∈ l, r.ok) : AFn Tryz.prog Γ 50 [.c (.d (.lst 5 (l.map Rec.ds))), .c (.d (.lst 1 (ids.map Fc.iD))), .c (.d (.int .i64 kind))] [.d (.lst 2 ((countF l ids kind).map Bk.ds))] := by
  refine AFn.vc [] Tryz.func50 rfl Tryz.mixed (by kernel_rfl) Tryz.ntmps50 Tryz.results50 (by simp) ?_
  push_cast
  have hfit : ∀ k, ∀ r ∈ selR (l.take k) ids, r.fit := fun k r hr => (hok r (List.mem_of_mem_take (List.mem_filter.1 hr).1)).fit
  have hvl : ∀ k, (vsF kind (selR (l.take k) ids)).length ≤ 200100 := fun k => by
    have h1 := vs_len kind _ (hfit k)
    have h2 := sel_len (l.take k) ids
    rw [List.length_take] at h2
    omega
  refine LoopV.cnt Tryz.mixed [0, 1, 2] l.length (fun k => [(7, .c (.d (.lst 1 ((putsS (vsF kind (selR (l.take k) ids))).map Fc.sD)))), (8, .c (.d (.int .i64 k)))]) (fun _ => True) trivial ?_ (by push_cast; rfl)
  intro k hk _
  push_cast
  refine ⟨fun h => ?_, fun h => ?_⟩
  · have hlt : k < l.length := by omega
    refine ⟨hlt, ?_⟩
    refine CallL.q (c109 ids l[k].id (by omega)) ?_
    push_cast
    have hn := sel_next ids hlt
    refine ⟨fun e => ?_, fun e => ?_⟩
    · rw [if_pos e] at hn
      have h3 := (hok _ (List.getElem_mem hlt)).fit
      refine ⟨hlt, ?_⟩
      refine CallL.q (c47 kind l[k] h3) ?_
      push_cast
      have hv := values_len kind l[k] h3
      have hv0 := hvl k
      have hnv : vsF kind (selR (l.take (k + 1)) ids) = vsF kind (selR (l.take k) ids) ++ valuesF kind l[k] := by rw [hn, vs_app]
      rw [hnv]
      have hnl := hvl (k + 1)
      rw [hnv, List.length_append] at hnl
      generalize vsF kind (selR (l.take k) ids) = V0 at *
      generalize valuesF kind l[k] = vs at *
      refine LoopV.cnt Tryz.mixed [0, 1, 2, 8, 9] vs.length (fun j => [(7, .c (.d (.lst 1 ((putsS (V0 ++ vs.take j)).map Fc.sD)))), (10, .c (.d (.int .i64 j)))]) (fun _ => True) trivial ?_ (by push_cast)
      intro j hj _
      push_cast
      refine ⟨fun h => ?_, fun h => ?_⟩
      · have hjl : j < vs.length := by omega
        refine ⟨hjl, ?_⟩
        have hb := putsS_len (V0 ++ vs.take j)
        rw [List.length_append, List.length_take] at hb
        refine CallL.q (c101 (putsS (V0 ++ vs.take j)) vs[j] (by omega)) ?_
        push_cast
        exact ⟨by omega, hjl, by rw [puts_app V0 vs j hjl]⟩
      · rw [List.take_of_length_le (by omega)]
        exact ⟨by omega, hlt, rfl⟩
    · rw [if_neg e] at hn
      exact ⟨by omega, hlt, by rw [hn]⟩
  · have hvl := hvl l.length
    rw [List.take_of_length_le (Nat.le_refl _)] at hvl
    rw [List.take_of_length_le (by omega)]
    have hcf : countF l ids kind = (putsS (vsF kind (selR l ids))).map fun v => ⟨v, cntR kind (selR l ids) v⟩ := rfl
    have hvb := putsS_len (vsF kind (selR l ids))
    rw [hcf]
    generalize hV : putsS (vsF kind (selR l ids)) = vs at *
    refine LoopV.nilrow 11 79 2 ?_
    push_cast
    refine LoopV.cntH Tryz.mixed [0, 1, 2, 7] vs.length (fun k => [(11, .c (.own 0 k)), (12, .c (.d (.int .i64 k)))]) (fun k => [.row 79 2 (((vs.take k).map fun v => (⟨v, cntR kind (selR l ids) v⟩ : Bk)).map Bk.ds) k]) (fun _ => True) trivial ?_ (by push_cast)
    intro k hk _
    push_cast
    refine ⟨fun h => ?_, fun h => ?_⟩
    · have hlt : k < vs.length := by omega
      refine ⟨hlt, ?_⟩
      refine LoopV.cntH Tryz.mixed [0, 1, 2, 7, 11, 12, 13] l.length (fun j => [(14, .c (.d (.int .i64 j)))]) (fun j => [.row 79 2 (((vs.take k).map fun v => (⟨v, cntR kind (selR l ids) v⟩ : Bk)).map Bk.ds) k, .box 79 [.d (.str vs[k]), .d (.int .i64 (cntR kind (selR (l.take j) ids) vs[k]))]]) (fun _ => True) trivial ?_ (by push_cast; rfl)
      intro j hj _
      push_cast
      refine ⟨fun h => ?_, fun h => ?_⟩
      · have hjl : j < l.length := by omega
        have hn := cnt_next kind ids vs[k] hjl
        have hb := cnt_bd kind (selR (l.take j) ids) vs[k]
        have hb2 := sel_len (l.take j) ids
        rw [List.length_take] at hb2
        generalize cntR kind (selR (l.take (j + 1)) ids) vs[k] = n1 at *
        generalize cntR kind (selR (l.take j) ids) vs[k] = n0 at *
        refine ⟨hjl, ?_⟩
        refine CallX.q (c109 ids l[j].id (by omega)) ?_
        push_cast
        refine ⟨fun e1 => ?_, fun e1 => ?_⟩
        · have h3 := (hok _ (List.getElem_mem hjl)).fit
          have hv := values_len kind l[j] h3
          refine ⟨hjl, ?_⟩
          refine CallX.q (c47 kind l[j] h3) ?_
          push_cast
          refine ⟨hlt, ?_⟩
          refine CallX.q (c110 (valuesF kind l[j]) vs[k] (by omega)) ?_
          push_cast
          refine ⟨fun e2 => ?_, fun e2 => ?_⟩
          · rw [if_pos ⟨e1, e2⟩] at hn
            exact ⟨by omega, by omega, hjl, hn.symm⟩
          · rw [if_neg (fun h => e2 h.2)] at hn
            exact ⟨by omega, hjl, hn.symm⟩
        · rw [if_neg (fun h => e1 h.1)] at hn
          exact ⟨by omega, hjl, hn.symm⟩
      · have hle : l.take j = l := List.take_of_length_le (by omega)
        rw [hle]
        have hn := map_next (fun v => (⟨v, cntR kind (selR l ids) v⟩ : Bk)) hlt
        exact ⟨by omega, by omega, hlt, by rw [hn]; simp [Bk.ds]⟩
    · rw [List.take_of_length_le (by omega)]
end Go.Proofs
