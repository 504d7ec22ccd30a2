/- Part of a proof about this program; no condition of its own. -/
import Derived.Test.YtanbfhnmklhjiaaGreatDoorFcD
set_option linter.all false
/- Counting and narrowing agree, in plain data. No condition. -/
namespace Go.Fc
open Go Go.Ax Go.Or Go.Tx
def DistR (l : List Rec) : Prop := l.Pairwise fun a b => a.id ≠ b.id
theorem find_dist {l : List Rec} (h : DistR l) {r : Rec} (hr : r ∈ l) : l.find? (fun x => decide (x.id = r.id)) = some r := by
  induction l with
  | nil => cases hr
  | cons x t ih =>
    rw [List.find?_cons]
    obtain ⟨h1, h2⟩ := List.pairwise_cons.1 h
    rcases List.mem_cons.1 hr with rfl | hr
    · simp
    · have := h1 r hr
      simp only [this, decide_false]
      exact ih h2 hr
theorem narrow_spec (l : List Rec) (kind : Int) (v : Str) (ids : List Int) : (narrowF l ids kind v).Nodup ∧ ∀ x, x ∈ narrowF l ids kind v ↔ (x ∈ ids ∧ ∃ r, l.find? (fun y => decide (y.id = x)) = some r ∧ v ∈ valuesF kind r) := by
  have key : ∀ (ids done out : List Int), out.Nodup → (∀ x, x ∈ out ↔ (x ∈ done ∧ ∃ r, l.find? (fun y => decide (y.id = x)) = some r ∧ v ∈ valuesF kind r)) → (ids.foldl (stepN l kind v) out).Nodup ∧ ∀ x, x ∈ ids.foldl (stepN l kind v) out ↔ (x ∈ done ++ ids ∧ ∃ r, l.find? (fun y => decide (y.id = x)) = some r ∧ v ∈ valuesF kind r) := by
    intro ids
    induction ids with
    | nil => intro done out h1 h2; simpa using ⟨h1, h2⟩
    | cons i t ih =>
      intro done out h1 h2
      have hstep : (stepN l kind v out i).Nodup ∧ ∀ x, x ∈ stepN l kind v out i ↔ (x ∈ done ++ [i] ∧ ∃ r, l.find? (fun y => decide (y.id = x)) = some r ∧ v ∈ valuesF kind r) := by
        unfold stepN
        by_cases hi : i ∈ out
        · rw [if_pos hi]
          refine ⟨h1, fun x => ?_⟩
          rw [h2, List.mem_append, List.mem_singleton]
          constructor
          · rintro ⟨a, b⟩; exact ⟨.inl a, b⟩
          · rintro ⟨a | a, b⟩
            · exact ⟨a, b⟩
            · subst a; exact (h2 x).1 hi
        · rw [if_neg hi]
          cases hf : l.find? (fun r => decide (r.id = i)) with
          | none =>
            refine ⟨h1, fun x => ?_⟩
            rw [h2, List.mem_append, List.mem_singleton]
            constructor
            · rintro ⟨a, b⟩; exact ⟨.inl a, b⟩
            · rintro ⟨a | a, b⟩
              · exact ⟨a, b⟩
              · subst a; obtain ⟨r, b1, _⟩ := b; rw [hf] at b1; cases b1
          | some r =>
            simp only
            by_cases hv : v ∈ valuesF kind r
            · rw [if_pos hv]
              refine ⟨List.nodup_append.2 ⟨h1, by simp, fun a ha b hb => ?_⟩, fun x => ?_⟩
              · rw [List.mem_singleton.1 hb]; intro e; subst e; exact hi ha
              · rw [List.mem_append, List.mem_append, List.mem_singleton, h2]
                constructor
                · rintro (⟨a, b⟩ | a)
                  · exact ⟨.inl a, b⟩
                  · subst a; exact ⟨.inr rfl, r, hf, hv⟩
                · rintro ⟨a | a, b⟩
                  · exact .inl ⟨a, b⟩
                  · exact .inr a
            · rw [if_neg hv]
              refine ⟨h1, fun x => ?_⟩
              rw [h2, List.mem_append, List.mem_singleton]
              constructor
              · rintro ⟨a, b⟩; exact ⟨.inl a, b⟩
              · rintro ⟨a | a, b⟩
                · exact ⟨a, b⟩
                · subst a; obtain ⟨r', b1, b2⟩ := b; rw [hf] at b1; cases b1; exact absurd b2 hv
      have := ih (done ++ [i]) (stepN l kind v out i) hstep.1 hstep.2
      rw [List.append_assoc] at this
      exact this
  have := key ids [] [] (by simp) (by simp)
  simpa [narrowF] using this
theorem narrow_count {l : List Rec} (h : DistR l) (kind : Int) (v : Str) (ids : List Int) : ((narrowF l ids kind v).length : Int) = cntR kind (selR l ids) v := by
  obtain ⟨h1, h2⟩ := narrow_spec l kind v ids
  have h3 : (((selR l ids).filter fun r => decide (v ∈ valuesF kind r)).map Rec.id).Nodup := by
    rw [List.nodup_iff_pairwise_ne, List.pairwise_map]
    exact ((h.filter _).filter _)
  have hp : (narrowF l ids kind v).Perm (((selR l ids).filter fun r => decide (v ∈ valuesF kind r)).map Rec.id) := by
    rw [List.perm_ext_iff_of_nodup h1 h3]
    intro x
    rw [h2, List.mem_map]
    constructor
    · rintro ⟨a, r, b, c⟩
      have hr := List.mem_of_find?_eq_some b
      have hid : r.id = x := by have := List.find?_some b; simpa using this
      refine ⟨r, List.mem_filter.2 ⟨List.mem_filter.2 ⟨hr, by simpa [hid] using a⟩, by simpa using c⟩, hid⟩
    · rintro ⟨r, hr, rfl⟩
      obtain ⟨a, b⟩ := List.mem_filter.1 hr
      obtain ⟨a1, a2⟩ := List.mem_filter.1 a
      exact ⟨by simpa using a2, r, find_dist h a1, by simpa using b⟩
  rw [hp.length_eq, List.length_map, ← List.countP_eq_length_filter]
  rfl
theorem cnt_pos {kind : Int} {l : List Rec} {v : Str} (h : v ∈ vsF kind l) : 1 ≤ cntR kind l v := by
  unfold vsF at h
  obtain ⟨r, hr, hv⟩ := List.mem_flatMap.1 h
  have : 0 < l.countP fun r => decide (v ∈ valuesF kind r) := List.countP_pos_iff.2 ⟨r, hr, by simpa using hv⟩
  unfold cntR
  omega
theorem cnt_zero {kind : Int} {l : List Rec} {v : Str} (h : v ∉ putsS (vsF kind l)) : cntR kind l v = 0 := by
  unfold cntR
  have : l.countP (fun r => decide (v ∈ valuesF kind r)) = 0 := by
    rw [List.countP_eq_zero]
    intro r hr hv
    simp only [decide_eq_true_eq] at hv
    refine h (((putsS_spec _).2 v).2 ⟨(((putsS_spec (rawV kind r)).2 v).1 hv).1, ?_⟩)
    unfold vsF
    exact List.mem_flatMap.2 ⟨r, hr, hv⟩
  omega
end Go.Fc
