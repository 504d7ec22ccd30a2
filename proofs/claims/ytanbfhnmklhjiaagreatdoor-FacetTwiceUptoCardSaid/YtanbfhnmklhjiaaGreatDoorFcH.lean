/- Part of a proof about this program; no condition of its own. -/
import Derived.Test.YtanbfhnmklhjiaaGreatDoorGzK
import Derived.Test.YtanbfhnmklhjiaaGreatDoorGzJ
set_option linter.all false
/- Narrowing twice, and Top, in plain data. No condition. -/
namespace Go.Fc
open Go Go.Ax Go.Or Go.Tx
def ddI (xs : List Int) : List Int := xs.foldl (fun o x => if x ∈ o then o else o ++ [x]) []
def inN (l : List Rec) (kind : Int) (v : Str) (x : Int) : Bool := match l.find? (fun r => decide (r.id = x)) with
  | some r => decide (v ∈ valuesF kind r)
  | none => false
theorem stepN_eq (l : List Rec) (kind : Int) (v : Str) (o : List Int) (x : Int) : stepN l kind v o x = if inN l kind v x = true then (if x ∈ o then o else o ++ [x]) else o := by
  unfold stepN inN
  by_cases hx : x ∈ o
  · rw [if_pos hx, if_pos hx]; split <;> simp
  · rw [if_neg hx, if_neg hx]
    cases l.find? (fun r => decide (r.id = x)) with
    | none => simp
    | some r => simp
theorem narrow_dd (l : List Rec) (kind : Int) (v : Str) (ids : List Int) : narrowF l ids kind v = ddI (ids.filter fun x => inN l kind v x) := by
  unfold narrowF ddI
  have key : ∀ (ids o : List Int), ids.foldl (stepN l kind v) o = (ids.filter fun x => inN l kind v x).foldl (fun o x => if x ∈ o then o else o ++ [x]) o := by
    intro ids
    induction ids with
    | nil => intro o; rfl
    | cons i t ih =>
      intro o
      rw [List.foldl_cons, ih, stepN_eq, List.filter_cons]
      split <;> rfl
  exact key ids []
theorem dd_from : ∀ (xs o : List Int), o.Nodup → xs.Nodup → (∀ x ∈ xs, x ∉ o) → xs.foldl (fun o x => if x ∈ o then o else o ++ [x]) o = o ++ xs
  | [], o, _, _, _ => by simp
  | x :: r, o, h1, h2, h3 => by
    have hx := h3 x (by simp)
    obtain ⟨h4, h5⟩ := List.nodup_cons.1 h2
    rw [List.foldl_cons, if_neg hx, dd_from r (o ++ [x]) (List.nodup_append.2 ⟨h1, by simp, fun a ha b hb => by rw [List.mem_singleton.1 hb]; intro e; subst e; exact hx ha⟩) h5 (fun y hy hm => by
      rcases List.mem_append.1 hm with hm | hm
      · exact h3 y (by simp [hy]) hm
      · rw [List.mem_singleton.1 hm] at hy; exact h4 hy)]
    simp
theorem dd_nodup {xs : List Int} (h : xs.Nodup) : ddI xs = xs := by
  unfold ddI
  rw [dd_from xs [] (by simp) h (by simp)]; rfl
theorem dd_filter (p : Int → Bool) : ∀ (xs o : List Int), (xs.foldl (fun o x => if x ∈ o then o else o ++ [x]) o).filter p = (xs.filter p).foldl (fun o x => if x ∈ o then o else o ++ [x]) (o.filter p)
  | [], o => rfl
  | x :: r, o => by
    rw [List.foldl_cons, dd_filter p r, List.filter_cons]
    by_cases hp : p x = true
    · rw [if_pos hp, List.foldl_cons]
      by_cases hx : x ∈ o
      · rw [if_pos hx, if_pos (List.mem_filter.2 ⟨hx, hp⟩)]
      · rw [if_neg hx, if_neg (fun h => hx (List.mem_filter.1 h).1), List.filter_append]
        simp [List.filter_cons, hp]
    · rw [if_neg hp]
      by_cases hx : x ∈ o
      · rw [if_pos hx]
      · rw [if_neg hx, List.filter_append]
        simp [List.filter_cons, hp]
theorem narrow_twice (l : List Rec) (k1 k2 : Int) (v1 v2 : Str) (ids : List Int) : narrowF l (narrowF l ids k1 v1) k2 v2 = narrowF l (narrowF l ids k2 v2) k1 v1 := by
  have key : ∀ (k1 k2 : Int) (v1 v2 : Str), narrowF l (narrowF l ids k1 v1) k2 v2 = ddI (ids.filter fun x => inN l k1 v1 x && inN l k2 v2 x) := by
    intro k1 k2 v1 v2
    have hn := (narrow_spec l k1 v1 ids).1
    rw [narrow_dd l k2 v2, dd_nodup (hn.filter _), narrow_dd l k1 v1]
    have := dd_filter (fun x => inN l k2 v2 x) (ids.filter fun x => inN l k1 v1 x) []
    unfold ddI
    rw [this, List.filter_filter]
    simp only [List.filter_nil]
    congr 1
    apply List.filter_congr
    intro x _
    rw [Bool.and_comm]
  rw [key k1 k2, key k2 k1]
  congr 1
  apply List.filter_congr
  intro x _
  rw [Bool.and_comm]
theorem sortT_idem (l : List Bk) : sortT (sortT l) = sortT l := by
  refine Or.sort_perm_eq Proofs.sto_T (List.mergeSort_perm _ _) (Proofs.sortT_sorted _) (Proofs.sortT_sorted _)
theorem sortT_len' (l : List Bk) : (sortT l).length = l.length := (List.mergeSort_perm _ _).length_eq
theorem top_all (l : List Bk) : topF l l.length = sortT l := by
  unfold topF
  have := sortT_len' l
  rw [List.take_of_length_le (by omega)]
theorem top_top (l : List Bk) (n : Int) : topF (topF l l.length) n = topF l n := by
  rw [top_all]
  unfold topF
  rw [sortT_idem, sortT_len']
end Go.Fc
