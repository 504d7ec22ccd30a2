/- The way back along a cycle: its sums are 0. Plain Lean. -/
import Derived.Test.YtjnljbimandmcaaPGb
set_option linter.all false
namespace Go.Pv
open Go Go.Ax Go.Proofs
def tS (q : Nat → Nat) (add : List Int) (k i : Nat) : Int := ((List.range k).map fun x => if q x = i then add.getD x 0 else 0).sum
theorem tS_succ (q : Nat → Nat) (add : List Int) (k i : Nat) : tS q add (k + 1) i = tS q add k i + if q k = i then add.getD k 0 else 0 := by
  unfold tS; rw [List.range_succ, List.map_append, List.sum_append]; simp
theorem tS_set (q : Nat → Nat) (add : List Int) (x : Nat) (s : Int) (hx : x < add.length) (i : Nat) : ∀ k, tS q (add.set x (add.getD x 0 + s)) k i = tS q add k i + if x < k ∧ q x = i then s else 0
  | 0 => by simp [tS]
  | k + 1 => by
    rw [tS_succ, tS_succ, tS_set q add x s hx i k, getD_set' hx]
    by_cases e : x = k
    · subst e
      by_cases h : q x = i
      · simp [h]; omega
      · simp [h]
    · by_cases h : x < k
      · have h' : x < k + 1 := by omega
        simp [e, h, h']; omega
      · have h' : ¬ x < k + 1 := by omega
        simp [e, h, h']
theorem tS_zero (q : Nat → Nat) (n i : Nat) : ∀ k, tS q (List.replicate n 0) k i = 0
  | 0 => rfl
  | k + 1 => by
    rw [tS_succ, tS_zero q n i k]
    have : (List.replicate n (0 : Int)).getD k 0 = 0 := by
      simp only [List.getD_eq_getElem?_getD, List.getElem?_replicate]; split <;> rfl
    rw [this]; simp
structure Good (R C : Nat) (cs : List Int) (c : Nat) (add : List Int) : Prop where
  len : add.length = cs.length
  one : add.getD c 0 = 1
  hid : ∀ x, x < cs.length → add.getD x 0 ≠ 0 → cs.getD x 0 = -1
  bd : ∀ x, -20 ≤ add.getD x 0 ∧ add.getD x 0 ≤ 20
  row : ∀ i, i < R → tS (· / C) add cs.length i = 0
  col : ∀ j, j < C → tS (· % C) add cs.length j = 0
structure Walk (R C : Nat) (cs : List Int) (c : Nat) (n v : Nat) (s : Int) (add : List Int) : Prop where
  len : add.length = cs.length
  one : add.getD c 0 = 1
  hid : ∀ x, x < cs.length → add.getD x 0 ≠ 0 → cs.getD x 0 = -1
  bd : ∀ x, -(n + 1 : Int) ≤ add.getD x 0 ∧ add.getD x 0 ≤ n + 1
  row : ∀ i, i < R → tS (· / C) add cs.length i = (if i = c / C then 1 else 0) - (if i = v then s else 0)
  col : ∀ j, j < C → tS (· % C) add cs.length j = - (if R + j = v then s else 0)
  lt : v < R + C
  pr : v < R → s = 1
  pc : R ≤ v → s = -1
theorem Walk.next {R C : Nat} {cs : List Int} {c n v x : Nat} {s : Int} {add : List Int} (hO : Okn R C cs) (h : Walk R C cs c n v s add) (hx : x < cs.length) (hh : hidB cs c x = true) (he : v = x / C ∨ v = R + x % C) : Walk R C cs c (n + 1) (oth R C v x) (-s) (add.set x (add.getD x 0 + s)) := by
  have hd := hO.div hx
  have hm := hO.mod x
  have hxl : x < add.length := by rw [h.len]; exact hx
  have hxc : x ≠ c := fun e => by subst e; simp [hidB] at hh
  have hx1 : cs.getD x 0 = -1 := by
    unfold hidB at hh
    rw [Bool.and_eq_true] at hh
    exact eq_of_beq hh.1
  have hs : s = 1 ∨ s = -1 := by
    by_cases a : v < R
    · exact .inl (h.pr a)
    · exact .inr (h.pc (by omega))
  refine ⟨by simp [h.len], ?_, fun y hy h0 => ?_, fun y => ?_, fun i hi => ?_, fun j hj => ?_, by unfold oth; split <;> omega, fun ho => ?_, fun ho => ?_⟩
  · rw [getD_set' hxl, if_neg hxc]; exact h.one
  · rw [getD_set' hxl] at h0
    by_cases e : x = y
    · subst e; exact hx1
    · rw [if_neg e] at h0; exact h.hid y hy h0
  · rw [getD_set' hxl]
    have h1 := h.bd y
    have h2 := h.bd x
    split <;> rcases hs with hs | hs <;> rw [hs] at * <;> push_cast <;> omega
  · rw [tS_set _ _ _ _ hxl, h.row i hi]
    unfold oth
    rcases he with he | he
    · have a : v < R := by omega
      rw [if_pos he, h.pr a, if_neg (by omega : ¬ i = R + x % C)]
      by_cases e : i = v
      · rw [if_pos e, if_pos (show x < cs.length ∧ x / C = i from ⟨hx, by omega⟩)]; omega
      · rw [if_neg e, if_neg (show ¬ (x < cs.length ∧ x / C = i) from fun h => e (by omega))]; omega
    · rw [if_neg (by omega : ¬ v = x / C), h.pc (by omega), if_neg (by omega : ¬ i = v)]
      by_cases e : i = x / C
      · rw [if_pos (show x < cs.length ∧ x / C = i from ⟨hx, e.symm⟩), if_pos e]; omega
      · rw [if_neg (show ¬ (x < cs.length ∧ x / C = i) from fun h => e h.2.symm), if_neg e]; omega
  · rw [tS_set _ _ _ _ hxl, h.col j hj]
    unfold oth
    rcases he with he | he
    · rw [if_pos he, h.pr (by omega), if_neg (by omega : ¬ R + j = v)]
      by_cases e : x % C = j
      · rw [if_pos (show x < cs.length ∧ x % C = j from ⟨hx, e⟩), if_pos (show R + j = R + x % C by omega)]; omega
      · rw [if_neg (show ¬ (x < cs.length ∧ x % C = j) from fun h => e h.2), if_neg (show ¬ R + j = R + x % C by omega)]; omega
    · rw [if_neg (by omega : ¬ v = x / C), h.pc (by omega), if_neg (by omega : ¬ R + j = x / C)]
      by_cases e : x % C = j
      · rw [if_pos (show R + j = v by omega), if_pos (show x < cs.length ∧ x % C = j from ⟨hx, e⟩)]; omega
      · rw [if_neg (show ¬ R + j = v by omega), if_neg (show ¬ (x < cs.length ∧ x % C = j) from fun h => e h.2)]; omega
  · unfold oth at ho
    split at ho
    · omega
    · rename_i a; rw [h.pc (by omega)]; rfl
  · unfold oth at ho
    split at ho
    · rename_i a; rw [h.pr (by omega)]
    · omega
theorem Walk.good {R C : Nat} {cs : List Int} {c n : Nat} {s : Int} {add : List Int} (h : Walk R C cs c n (c / C) s add) (hc : c / C < R) (hn : n ≤ 19) : Good R C cs c add := by
  have hs := h.pr hc
  refine ⟨h.len, h.one, h.hid, fun x => by have := h.bd x; omega, fun i hi => ?_, fun j hj => ?_⟩
  · rw [h.row i hi, hs]; split <;> omega
  · rw [h.col j hj, if_neg (by omega)]; rfl
/-- What the way back needs at each vertex. -/
theorem Tree.at {R C : Nat} {cs : List Int} {c : Nat} {fr : List Int} {d : Nat → Nat} (h : Tree R C cs c fr d) {v : Nat} (hv : v < R + C) (h0 : 0 ≤ fr.getD v 0) (hne : fr.getD v 0 ≠ c) : ∃ x : Nat, fr.getD v 0 = x ∧ x < cs.length ∧ hidB cs c x = true ∧ (v = x / C ∨ v = R + x % C) ∧ 0 ≤ fr.getD (oth R C v x) 0 ∧ d (oth R C v x) < d v :=
  h.par v hv h0 fun e => hne (by rw [e, h.root])
theorem at_root {R C : Nat} {cs : List Int} {c : Nat} {fr : List Int} {d : Nat → Nat} (h : Tree R C cs c fr d) {v : Nat} (hv : v < R + C) (h0 : 0 ≤ fr.getD v 0) (he : fr.getD v 0 = c) : v = c / C := by
  apply Classical.byContradiction
  intro hn
  obtain ⟨x, h1, _, h3, _⟩ := h.par v hv h0 hn
  have : x = c := by omega
  subst this
  simp [hidB] at h3
theorem back_good {R C : Nat} {cs : List Int} {c : Nat} {fr : List Int} {d : Nat → Nat} (hO : Okn R C cs) (hc : c / C < R) (h : Tree R C cs c fr d) : ∀ (m n v : Nat) (s : Int) (add : List Int), Walk R C cs c n v s add → 0 ≤ fr.getD v 0 → d v < m → n + m ≤ 19 → Good R C cs c (back R C c fr m v s add)
  | 0, _, _, _, _, _, _, hd, _ => by omega
  | m + 1, n, v, s, add, hw, h0, hd, hn => by
    unfold back
    split
    · next e =>
      have := at_root h hw.lt h0 e
      subst this
      exact hw.good hc (by omega)
    · next e =>
      obtain ⟨x, h1, h2, h3, h4, h5, h6⟩ := h.at hw.lt h0 e
      rw [h1, Int.toNat_natCast]
      exact back_good hO hc h m (n + 1) _ _ _ (hw.next hO h2 h3 h4) h5 (by omega) (by omega)
theorem walk_zero {R C : Nat} {cs : List Int} {c : Nat} (hO : Okn R C cs) (hc : c < cs.length) (hc1 : cs.getD c 0 = -1) : Walk R C cs c 0 (R + c % C) (-1) ((List.replicate cs.length 0).set c 1) := by
  have hd := hO.div hc
  have hm := hO.mod c
  have hg0 : ∀ x, (List.replicate cs.length (0 : Int)).getD x 0 = 0 := fun x => by
    simp only [List.getD_eq_getElem?_getD, List.getElem?_replicate]; split <;> rfl
  have hg : ∀ x, ((List.replicate cs.length (0 : Int)).set c 1).getD x 0 = if c = x then 1 else 0 := fun x => by
    rw [getD_set' (by simpa using hc), hg0]
  have e1 : (List.replicate cs.length (0 : Int)).set c 1 = (List.replicate cs.length 0).set c ((List.replicate cs.length 0).getD c 0 + 1) := by rw [hg0]; rfl
  refine ⟨by simp, by rw [hg, if_pos rfl], fun x hx h0 => ?_, fun x => by rw [hg]; split <;> omega, fun i hi => ?_, fun j hj => ?_, by omega, fun a => by omega, fun _ => rfl⟩
  · rw [hg] at h0
    by_cases e : c = x
    · subst e; exact hc1
    · rw [if_neg e] at h0; exact absurd rfl h0
  · rw [e1, tS_set _ _ _ _ (by simpa using hc), tS_zero]
    rw [if_neg (by omega : ¬ i = R + c % C)]
    by_cases e : c / C = i
    · rw [if_pos ⟨hc, e⟩, if_pos e.symm]; rfl
    · rw [if_neg (by omega), if_neg (fun e' => e e'.symm)]; rfl
  · rw [e1, tS_set _ _ _ _ (by simpa using hc), tS_zero]
    by_cases e : c % C = j
    · rw [if_pos ⟨hc, e⟩, if_pos (by omega)]; rfl
    · rw [if_neg (by omega), if_neg (by omega)]; rfl
theorem cyc_good {R C : Nat} {cs : List Int} {c : Nat} (hO : Okn R C cs) (hc : c < cs.length) (hc1 : cs.getD c 0 = -1) (hs : detF R C cs c = false) : Good R C cs c (cycF R C cs c) := by
  have hd := hO.div hc
  have hm := hO.mod c
  have hR := hO.r8
  have hC := hO.c8
  obtain ⟨d, ht⟩ := tree_n (c := c) hO hd (R + C)
  have hcon : (connN R C cs (c / C) c (R + C)).getD (R + c % C) false = true := by
    unfold detF at hs
    simpa using hs
  have h0 := fr_covers hO hd (R + C) _ hcon
  unfold cycF
  rw [if_neg (by omega)]
  have hb := ht.bd (R + c % C) (by omega) h0
  have hcl : cnt (frN R C cs c (R + C)) ≤ R + C := by
    have := List.countP_le_length (p := fun v : Int => decide (0 ≤ v)) (l := frN R C cs c (R + C))
    rw [frN_len] at this; exact this
  exact back_good hO hd ht (R + C) 0 _ _ _ (walk_zero hO hc hc1) h0 (by omega) (by omega)
end Go.Pv
