/- Cycles of hidden cells: what 'cycle' computes. Plain Lean. -/
import Derived.Test.YtjnljbimandmcaaPGa
set_option linter.all false
namespace Go.Pv
open Go Go.Ax Go.Proofs
section
variable (R C : Nat) (cs : List Int) (c : Nat)
def frStep (fr : List Int) (x : Nat) : List Int :=
  bif hidB cs c x then
    (bif decide (0 ≤ fr.getD (x / C) 0) && decide (fr.getD (R + x % C) 0 < 0) then fr.set (R + x % C) (x : Int)
     else bif decide (0 ≤ fr.getD (R + x % C) 0) && decide (fr.getD (x / C) 0 < 0) then fr.set (x / C) (x : Int) else fr)
  else fr
def fr0 : List Int := (List.replicate (R + C) (-1)).set (c / C) (c : Int)
def frN : Nat → List Int
  | 0 => fr0 R C c
  | n + 1 => (List.range cs.length).foldl (frStep R C cs c) (frN n)
def oth (v x : Nat) : Nat := if v = x / C then R + x % C else x / C
def back (fr : List Int) : Nat → Nat → Int → List Int → List Int
  | 0, _, _, add => List.replicate add.length 0
  | m + 1, v, s, add => if fr.getD v 0 = c then add else back fr m (oth R C v (fr.getD v 0).toNat) (-s) (add.set (fr.getD v 0).toNat (add.getD (fr.getD v 0).toNat 0 + s))
def cycF : List Int := if (frN R C cs c (R + C)).getD (R + c % C) 0 < 0 then List.replicate cs.length 0 else back R C c (frN R C cs c (R + C)) (R + C) (R + c % C) (-1) ((List.replicate cs.length 0).set c 1)
def cnt (fr : List Int) : Nat := fr.countP fun v => decide (0 ≤ v)
structure Tree (fr : List Int) (d : Nat → Nat) : Prop where
  len : fr.length = R + C
  root : fr.getD (c / C) 0 = c
  par : ∀ v, v < R + C → 0 ≤ fr.getD v 0 → v ≠ c / C → ∃ x : Nat, fr.getD v 0 = x ∧ x < cs.length ∧ hidB cs c x = true ∧ (v = x / C ∨ v = R + x % C) ∧ 0 ≤ fr.getD (oth R C v x) 0 ∧ d (oth R C v x) < d v
  bd : ∀ v, v < R + C → 0 ≤ fr.getD v 0 → d v + 1 ≤ cnt fr
end
theorem getD_set' {l : List Int} {i j : Nat} {a : Int} (hi : i < l.length) : (l.set i a).getD j 0 = if i = j then a else l.getD j 0 := by
  simp only [List.getD_eq_getElem?_getD, List.getElem?_set]
  by_cases h : i = j
  · subst h; simp [hi]
  · simp [h]
theorem cnt_set : ∀ (fr : List Int) (i : Nat) (x : Nat), i < fr.length → fr.getD i 0 < 0 → cnt (fr.set i (x : Int)) = cnt fr + 1
  | [], _, _, h, _ => by simp at h
  | a :: fr, 0, x, _, h => by
    have h : a < 0 := by simpa using h
    have h1 : (0 : Int) ≤ x := by omega
    simp [cnt, List.countP_cons, h1, h]
  | a :: fr, i + 1, x, hl, h => by
    have := cnt_set fr i x (by simpa using hl) (by simpa using h)
    simp only [cnt, List.set_cons_succ, List.countP_cons] at this ⊢; omega
section
variable {R C : Nat} {cs : List Int} {c : Nat}
theorem Tree.add {fr : List Int} {d : Nat → Nat} (hO : Okn R C cs) (h : Tree R C cs c fr d) {v x : Nat} (hv : v < R + C) (hneg : fr.getD v 0 < 0) (hx : x < cs.length) (hh : hidB cs c x = true) (he : v = x / C ∨ v = R + x % C) (hp : 0 ≤ fr.getD (oth R C v x) 0) (hc : c / C < R) : ∃ d', Tree R C cs c (fr.set v (x : Int)) d' := by
  have hd := hO.div hx
  have hm := hO.mod x
  have ho : oth R C v x < R + C := by unfold oth; split <;> omega
  have hov : oth R C v x ≠ v := fun e => by rw [e] at hp; omega
  have hl := h.len
  have hg : ∀ j, (fr.set v (x : Int)).getD j 0 = if v = j then (x : Int) else fr.getD j 0 := fun j => getD_set' (by omega)
  have hr : v ≠ c / C := fun e => by rw [e, h.root] at hneg; omega
  have hcn := cnt_set fr v x (by omega) hneg
  refine ⟨fun w => if w = v then d (oth R C v x) + 1 else d w, by simp [hl], ?_, ?_, ?_⟩
  · rw [hg, if_neg hr]; exact h.root
  · intro w hw h0 hwr
    rw [hg] at h0 ⊢
    by_cases e : v = w
    · subst e
      rw [if_pos rfl]
      refine ⟨x, rfl, hx, hh, he, ?_, ?_⟩
      · rw [hg, if_neg (fun e => hov e.symm)]; exact hp
      · simp only [if_neg hov, if_pos]; omega
    · rw [if_neg e] at h0 ⊢
      obtain ⟨y, h1, h2, h3, h4, h5, h6⟩ := h.par w hw h0 hwr
      have hne : v ≠ oth R C w y := fun e => by rw [← e] at h5; omega
      refine ⟨y, h1, h2, h3, h4, ?_, ?_⟩
      · rw [hg, if_neg hne]; exact h5
      · simp only [if_neg (fun e => hne e.symm : ¬ oth R C w y = v), if_neg (fun e' => e e'.symm : ¬ w = v)]; exact h6
  · intro w hw h0
    rw [hg] at h0
    rw [hcn]
    by_cases e : v = w
    · subst e
      simp only [if_pos]
      have := h.bd _ ho hp
      omega
    · rw [if_neg e] at h0
      simp only [if_neg (fun e' => e e'.symm : ¬ w = v)]
      have := h.bd w hw h0
      omega
theorem Tree.step {fr : List Int} {d : Nat → Nat} (hO : Okn R C cs) (h : Tree R C cs c fr d) (hc : c / C < R) {x : Nat} (hx : x < cs.length) : ∃ d', Tree R C cs c (frStep R C cs c fr x) d' := by
  have hd := hO.div hx
  have hm := hO.mod x
  unfold frStep
  cases hh : hidB cs c x
  · exact ⟨d, h⟩
  · simp only [cond_true]
    cases h1 : (decide (0 ≤ fr.getD (x / C) 0) && decide (fr.getD (R + x % C) 0 < 0))
    · simp only [cond_false]
      cases h2 : (decide (0 ≤ fr.getD (R + x % C) 0) && decide (fr.getD (x / C) 0 < 0))
      · exact ⟨d, h⟩
      · simp only [cond_true]
        simp only [Bool.and_eq_true, decide_eq_true_eq] at h2
        exact h.add hO (by omega) h2.2 hx hh (.inl rfl) (by unfold oth; rw [if_pos rfl]; exact h2.1) hc
    · simp only [cond_true]
      simp only [Bool.and_eq_true, decide_eq_true_eq] at h1
      exact h.add hO (by omega) h1.2 hx hh (.inr rfl) (by unfold oth; rw [if_neg (by omega)]; exact h1.1) hc
theorem Tree.fold (hO : Okn R C cs) (hc : c / C < R) : ∀ (l : List Nat) (fr : List Int) (d : Nat → Nat), (∀ x ∈ l, x < cs.length) → Tree R C cs c fr d → ∃ d', Tree R C cs c (l.foldl (frStep R C cs c) fr) d'
  | [], fr, d, _, h => ⟨d, h⟩
  | x :: l, fr, d, hl, h => by
    obtain ⟨d', h'⟩ := h.step hO hc (hl x (by simp))
    exact Tree.fold hO hc l _ d' (fun y hy => hl y (by simp [hy])) h'
theorem Tree.zero (hO : Okn R C cs) (hc : c / C < R) : Tree R C cs c (fr0 R C c) fun _ => 0 := by
  have hC := hO.c1
  have hg : ∀ j, j < R + C → (fr0 R C c).getD j 0 = if c / C = j then (c : Int) else -1 := fun j hj => by
    unfold fr0
    rw [getD_set' (by simp; omega)]
    simp [hj]
  refine ⟨by simp [fr0], by rw [hg _ (by omega), if_pos rfl], fun v hv h0 hne => ?_, fun v hv h0 => ?_⟩
  · rw [hg v hv, if_neg (fun e => hne e.symm)] at h0; omega
  · have : cnt (fr0 R C c) = cnt (List.replicate (R + C) (-1)) + 1 := cnt_set _ _ _ (by simp; omega) (by
      have hl : c / C < R + C := by omega
      simp [hl])
    omega
theorem tree_n (hO : Okn R C cs) (hc : c / C < R) : ∀ n, ∃ d, Tree R C cs c (frN R C cs c n) d
  | 0 => ⟨_, Tree.zero hO hc⟩
  | n + 1 => by
    obtain ⟨d, h⟩ := tree_n hO hc n
    exact Tree.fold hO hc _ _ d (fun x hx => List.mem_range.1 hx) h
theorem step_keep {fr : List Int} {x v : Nat} (h : 0 ≤ fr.getD v 0) (hl : fr.length = R + C) (hv : v < R + C) : 0 ≤ (frStep R C cs c fr x).getD v 0 := by
  unfold frStep
  cases hidB cs c x
  · exact h
  · simp only [cond_true]
    cases h1 : (decide (0 ≤ fr.getD (x / C) 0) && decide (fr.getD (R + x % C) 0 < 0))
    · simp only [cond_false]
      cases h2 : (decide (0 ≤ fr.getD (R + x % C) 0) && decide (fr.getD (x / C) 0 < 0))
      · exact h
      · simp only [cond_true]
        by_cases e : x / C = v
        · simp only [List.getD_eq_getElem?_getD, e, List.getElem?_set, if_pos, hl, hv, Option.getD_some]; omega
        · simpa [List.getElem?_set_ne e] using h
    · simp only [cond_true]
      by_cases e : R + x % C = v
      · simp only [List.getD_eq_getElem?_getD, e, List.getElem?_set, if_pos, hl, hv, Option.getD_some]; omega
      · simpa [List.getElem?_set_ne e] using h
theorem step_len (fr : List Int) (x : Nat) : (frStep R C cs c fr x).length = fr.length := by
  unfold frStep
  cases hidB cs c x
  · rfl
  · simp only [cond_true]
    cases (decide (0 ≤ fr.getD (x / C) 0) && decide (fr.getD (R + x % C) 0 < 0))
    · simp only [cond_false]
      cases (decide (0 ≤ fr.getD (R + x % C) 0) && decide (fr.getD (x / C) 0 < 0)) <;> simp
    · simp
theorem fold_len : ∀ (l : List Nat) (fr : List Int), (l.foldl (frStep R C cs c) fr).length = fr.length
  | [], _ => rfl
  | x :: l, fr => by rw [List.foldl_cons, fold_len l, step_len]
theorem frN_len : ∀ n, (frN R C cs c n).length = R + C
  | 0 => by simp [frN, fr0]
  | n + 1 => by simp only [frN]; rw [fold_len, frN_len n]
theorem fold_keep {v : Nat} (hv : v < R + C) : ∀ (l : List Nat) (fr : List Int), fr.length = R + C → 0 ≤ fr.getD v 0 → 0 ≤ (l.foldl (frStep R C cs c) fr).getD v 0
  | [], _, _, h => h
  | x :: l, fr, hl, h => by rw [List.foldl_cons]; exact fold_keep hv l _ (by rw [step_len, hl]) (step_keep h hl hv)
/-- Behind the step of a hidden cell both its ends are found, if one was. -/
theorem step_both {fr : List Int} {x : Nat} (hO : Okn R C cs) (hx : x < cs.length) (hl : fr.length = R + C) (hh : hidB cs c x = true) (h : 0 ≤ fr.getD (x / C) 0 ∨ 0 ≤ fr.getD (R + x % C) 0) : 0 ≤ (frStep R C cs c fr x).getD (x / C) 0 ∧ 0 ≤ (frStep R C cs c fr x).getD (R + x % C) 0 := by
  have hd := hO.div hx
  have hm := hO.mod x
  by_cases h1 : 0 ≤ fr.getD (x / C) 0
  · refine ⟨step_keep h1 hl (by omega), ?_⟩
    by_cases h2 : 0 ≤ fr.getD (R + x % C) 0
    · exact step_keep h2 hl (by omega)
    · unfold frStep
      rw [hh, decide_eq_true h1, decide_eq_true (by omega : fr.getD (R + x % C) 0 < 0)]
      simp only [cond_true, Bool.and_self]
      rw [getD_set' (by omega), if_pos rfl]; omega
  · have h2 : 0 ≤ fr.getD (R + x % C) 0 := h.resolve_left h1
    refine ⟨?_, step_keep h2 hl (by omega)⟩
    unfold frStep
    rw [hh, decide_eq_false h1, decide_eq_true h2, decide_eq_true (by omega : fr.getD (x / C) 0 < 0)]
    simp only [cond_true, Bool.false_and, cond_false, Bool.and_self]
    rw [getD_set' (by omega), if_pos rfl]; omega
theorem fold_both (hO : Okn R C cs) {x : Nat} (hx : x < cs.length) (hh : hidB cs c x = true) : ∀ (l : List Nat) (fr : List Int), fr.length = R + C → x ∈ l → (0 ≤ fr.getD (x / C) 0 ∨ 0 ≤ fr.getD (R + x % C) 0) → 0 ≤ (l.foldl (frStep R C cs c) fr).getD (x / C) 0 ∧ 0 ≤ (l.foldl (frStep R C cs c) fr).getD (R + x % C) 0
  | [], _, _, hm, _ => by cases hm
  | y :: l, fr, hl, hm, h => by
    have hd := hO.div hx
    have hmm := hO.mod x
    rw [List.foldl_cons]
    have hl' : (frStep R C cs c fr y).length = R + C := by rw [step_len, hl]
    rcases List.mem_cons.1 hm with rfl | hm
    · have := step_both hO hx hl hh h
      exact ⟨fold_keep (by omega) l _ hl' this.1, fold_keep (by omega) l _ hl' this.2⟩
    · refine fold_both hO hx hh l _ hl' hm ?_
      rcases h with h | h
      · exact .inl (step_keep h hl (by omega))
      · exact .inr (step_keep h hl (by omega))
theorem fr_covers (hO : Okn R C cs) (hc : c / C < R) : ∀ (n v : Nat), (connN R C cs (c / C) c n).getD v false = true → 0 ≤ (frN R C cs c n).getD v 0
  | 0, v, h => by
    have hv := getD_out h
    rw [connN_len] at hv
    simp [connN, conn0, hv] at h
    subst h
    have := (Tree.zero (c := c) hO hc).root
    simp only [frN]
    rw [this]; omega
  | n + 1, v, h => by
    have hv := getD_out h
    rw [connN_len] at hv
    simp only [connN] at h
    rw [step_get _ _ _ _ _ _ (by rw [connN_len]; exact hv), Bool.or_eq_true] at h
    simp only [frN]
    rcases h with h | h
    · exact fold_keep hv _ _ (frN_len n) (fr_covers hO hc n v h)
    · obtain ⟨k, hk, hh, he⟩ := (reached_iff ..).1 h
      have hd := hO.div hk
      have hm := hO.mod k
      rcases (edg_iff ..).1 he with ⟨rfl, h2⟩ | ⟨rfl, h2⟩
      · exact (fold_both hO hk hh _ _ (frN_len n) (List.mem_range.2 hk) (.inr (fr_covers hO hc n _ h2))).1
      · exact (fold_both hO hk hh _ _ (frN_len n) (List.mem_range.2 hk) (.inl (fr_covers hO hc n _ h2))).2
end
end Go.Pv
