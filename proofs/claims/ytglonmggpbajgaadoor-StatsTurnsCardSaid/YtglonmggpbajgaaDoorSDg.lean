/- Part of a proof about this program; no condition of its own. -/
import Derived.Test.YtglonmggpbajgaaDoorGyF
set_option linter.all false
/- Sums of tallies, of tables' rows and columns. No condition. -/
namespace Go.Sd
open Go Go.Ax
theorem sum_add (f g : Int → Int) : ∀ vs : List Int, (vs.map fun v => f v + g v).sum = (vs.map f).sum + (vs.map g).sum
  | [] => rfl
  | v :: r => by simp only [List.map_cons, List.sum_cons, sum_add f g r]; omega
theorem sum_zero : ∀ vs : List Int, (vs.map fun _ => (0 : Int)).sum = 0
  | [] => rfl
  | v :: r => by simp only [List.map_cons, List.sum_cons, sum_zero r]; rfl
theorem sum_delta (a : Int) : ∀ vs : List Int, vs.Pairwise (· < ·) → (vs.map fun v => if a = v then (1 : Int) else 0).sum = if a ∈ vs then 1 else 0
  | [], _ => rfl
  | v :: r, h => by
    rw [List.pairwise_cons] at h
    simp only [List.map_cons, List.sum_cons, sum_delta a r h.2, List.mem_cons]
    by_cases h1 : a = v
    · subst h1
      have : a ∉ r := fun hm => by have := h.1 a hm; omega
      simp [this]
    · simp [h1]
theorem sum_count (p : Ev → Bool) (g : Ev → Int) (vs : List Int) (hn : vs.Pairwise (· < ·)) : ∀ l : List Ev, (∀ x ∈ l, p x = true → g x ∈ vs) → (vs.map fun v => ((l.countP fun x => p x && g x == v : Nat) : Int)).sum = (l.countP p : Nat)
  | [], _ => by simp only [List.countP_nil]; exact sum_zero vs
  | x :: r, h => by
    have ih := sum_count p g vs hn r fun y hy => h y (List.mem_cons_of_mem _ hy)
    have e : (vs.map fun v => (((x :: r).countP fun x => p x && g x == v : Nat) : Int)) = vs.map fun v => ((r.countP fun x => p x && g x == v : Nat) : Int) + if p x = true ∧ g x = v then 1 else 0 := by
      refine List.map_congr_left fun v _ => ?_
      rw [List.countP_cons]
      by_cases hc : p x = true ∧ g x = v
      · simp [hc.1, hc.2]
      · rw [if_neg hc, if_neg (by simpa using hc)]; simp
    rw [e, sum_add, ih, List.countP_cons]
    cases hp : p x with
    | false => simp [sum_zero]
    | true =>
      have hm := h x (List.mem_cons_self ..) hp
      have := sum_delta (g x) vs hn
      rw [if_pos hm] at this
      simp [this]
theorem sum_take_le : ∀ (xs : List Int) (k : Nat), (∀ x ∈ xs, 0 ≤ x) → 0 ≤ (xs.take k).sum ∧ (xs.take k).sum ≤ xs.sum
  | [], k, _ => by simp
  | x :: r, 0, h => by
    have := sum_take_le r r.length fun y hy => h y (List.mem_cons_of_mem _ hy)
    have hx := h x (List.mem_cons_self ..)
    rw [List.take_length] at this
    simp only [List.take_zero, List.sum_nil, List.sum_cons]; omega
  | x :: r, k + 1, h => by
    have := sum_take_le r k fun y hy => h y (List.mem_cons_of_mem _ hy)
    have hx := h x (List.mem_cons_self ..)
    simp only [List.take_succ_cons, List.sum_cons]; omega
theorem sum_take_next {xs : List Int} {k : Nat} (h : k < xs.length) : (xs.take (k + 1)).sum = (xs.take k).sum + xs[k] := by
  rw [take_next h, List.sum_append]; simp
/-! ### tallies -/
theorem vals_len (l : List Ev) (f t b : Int) : (tallyF l f t b).length = (valsF l f t b).length := by unfold tallyF; rw [List.length_map]
theorem cntF_nn (l : List Ev) (f t b v : Int) : 0 ≤ cntF l f t b v := by unfold cntF; omega
theorem cntF_pos {l : List Ev} {f t b v : Int} (hb : inB b = true) (hv : v ∈ valsF l f t b) : 1 ≤ cntF l f t b v := by
  obtain ⟨x, hx, hw, hk⟩ := ((valsF_spec l f t b hb).2 v).1 hv
  unfold cntF
  have : 0 < l.countP (fun x => isW f t x && keyF x b == v) := List.countP_pos_iff.2 ⟨x, hx, by simp [hw, hk]⟩
  omega
theorem cntF_zero {l : List Ev} {f t b v : Int} (hb : inB b = true) (hv : v ∉ valsF l f t b) : cntF l f t b v = 0 := by
  unfold cntF
  have : l.countP (fun x => isW f t x && keyF x b == v) = 0 := List.countP_eq_zero.2 fun x hx hc => by
    simp only [Bool.and_eq_true, beq_iff_eq] at hc
    exact hv (((valsF_spec l f t b hb).2 v).2 ⟨x, hx, hc.1, hc.2⟩)
  omega
theorem numF_map (g : Int → Int) (v : Int) : ∀ vs : List Int, numF (vs.map fun u => (u, g u)) v = if v ∈ vs then g v else 0
  | [] => rfl
  | u :: r => by
    simp only [List.map_cons, numF, numF_map g v r, List.mem_cons]
    by_cases h : u = v
    · subst h; simp
    · rw [if_neg h]; simp [Ne.symm h]
theorem numF_tally {l : List Ev} {f t b : Int} (hb : inB b = true) (v : Int) : numF (tallyF l f t b) v = cntF l f t b v := by
  unfold tallyF
  rw [numF_map]
  split
  · rfl
  · next h => exact (cntF_zero hb h).symm
theorem cntF_split (l : List Ev) {f m t : Int} (b v : Int) (h1 : f ≤ m) (h2 : m < t) : cntF l f t b v = cntF l f m b v + cntF l (m + 1) t b v := by
  unfold cntF
  induction l with
  | nil => rfl
  | cons x r ih =>
    simp only [List.countP_cons]
    have hw : isW f t x = (isW f m x || isW (m + 1) t x) ∧ (isW f m x && isW (m + 1) t x) = false := by
      unfold isW
      constructor
      · rw [← Bool.decide_or]; exact decide_eq_decide.2 (by omega)
      · rw [← Bool.decide_and]; exact decide_eq_false (by omega)
    rw [hw.1]
    have h3 := hw.2
    generalize isW f m x = p1 at h3 ⊢
    generalize isW (m + 1) t x = p2 at h3 ⊢
    generalize (keyF x b == v) = p3
    cases p1 <;> cases p2 <;> cases p3 <;> first | (cases h3; done) | (simp only [Bool.or_false, Bool.or_true, Bool.false_or, Bool.or_self, Bool.and_true, Bool.and_false, Bool.and_self, Bool.true_and, Bool.false_and, if_true, if_false, reduceCtorEq, Bool.false_eq_true]; omega)
theorem tally_sum {l : List Ev} {f t b : Int} (hb : inB b = true) : ((valsF l f t b).map (cntF l f t b)).sum = winF l f t := by
  obtain ⟨h1, h2⟩ := valsF_spec l f t b hb
  exact sum_count (isW f t) (fun x => keyF x b) _ h1 l fun x hx hw => (h2 _).2 ⟨x, hx, hw, rfl⟩
theorem winF_le (l : List Ev) (f t : Int) : 0 ≤ winF l f t ∧ winF l f t ≤ l.length := by
  unfold winF
  have := List.countP_le_length (p := isW f t) (l := l)
  omega
theorem tally_rev (l : List Ev) (f t b : Int) : tallyF l.reverse f t b = tallyF l f t b := by
  unfold tallyF
  have hc : ∀ v, cntF l.reverse f t b v = cntF l f t b v := fun v => by unfold cntF; rw [List.countP_reverse]
  have hv : valsF l.reverse f t b = valsF l f t b := by
    cases hb : inB b with
    | false => unfold valsF; rw [hb]; rfl
    | true =>
      obtain ⟨h1, h2⟩ := valsF_spec l f t b hb
      obtain ⟨h3, h4⟩ := valsF_spec l.reverse f t b hb
      refine asc_eq h3 h1 fun v => ?_
      rw [h2, h4]
      simp
  rw [hv]
  exact List.map_congr_left fun v _ => by rw [hc]
/-! ### tables -/
theorem row_sum {l : List Ev} {f t w : Int} (b u : Int) (hw : inB w = true) : ((valsF l f t w).map (cnt2F l f t b w u)).sum = cntF l f t b u := by
  obtain ⟨h1, h2⟩ := valsF_spec l f t w hw
  exact sum_count (fun x => isW f t x && keyF x b == u) (fun x => keyF x w) _ h1 l fun x hx hp => (h2 _).2 ⟨x, hx, by simp only [Bool.and_eq_true] at hp; exact hp.1, rfl⟩
theorem cnt2F_swap (l : List Ev) (f t b w u v : Int) : cnt2F l f t b w u v = cnt2F l f t w b v u := by
  unfold cnt2F
  congr 1
  exact congrArg (fun p => l.countP p) (funext fun x => by cases isW f t x <;> cases keyF x b == u <;> cases keyF x w == v <;> rfl)
theorem col_sum {l : List Ev} {f t b : Int} (w v : Int) (hb : inB b = true) : ((valsF l f t b).map fun u => cnt2F l f t b w u v).sum = cntF l f t w v := by
  rw [← row_sum (l := l) (f := f) (t := t) w v hb]
  congr 1
  exact List.map_congr_left fun u _ => cnt2F_swap ..
theorem cells_get (g : Int → Int → Int) (cols : List Int) : ∀ (rows : List Int) (i j : Nat) (hi : i < rows.length) (hj : j < cols.length), (rows.flatMap fun u => cols.map (g u))[i * cols.length + j]? = some (g rows[i] cols[j])
  | u :: r, 0, j, _, hj => by
    rw [List.flatMap_cons, List.getElem?_append_left (by simp; omega)]
    simp [hj]
  | u :: r, i + 1, j, hi, hj => by
    rw [List.flatMap_cons, List.getElem?_append_right (by rw [List.length_map, Nat.succ_mul]; omega), List.length_map, show (i + 1) * cols.length + j - cols.length = i * cols.length + j by rw [Nat.succ_mul]; omega]
    exact cells_get g cols r i j (Nat.lt_of_succ_lt_succ hi) hj
theorem cells_length (g : Int → Int → Int) (cols : List Int) : ∀ rows : List Int, (rows.flatMap fun u => cols.map (g u)).length = rows.length * cols.length
  | [] => by simp
  | u :: r => by rw [List.flatMap_cons, List.length_append, cells_length g cols r, List.length_map, List.length_cons, Nat.succ_mul]; omega
end Go.Sd
