/- Connections by hidden cells: what 'connected' computes. Plain Lean. -/
import Derived.Test.YtjnljbimandmcaaPWb
set_option linter.all false
namespace Go.Pv
open Go Go.Ax Go.Proofs
inductive Rch (R C : Nat) (cs : List Int) (w row : Nat) : Nat → Prop
  | base : Rch R C cs w row row
  | toCol (k : Nat) : k < cs.length → hidB cs w k = true → Rch R C cs w row (k / C) → Rch R C cs w row (R + k % C)
  | toRow (k : Nat) : k < cs.length → hidB cs w k = true → Rch R C cs w row (R + k % C) → Rch R C cs w row (k / C)
theorem conn0_len (R C row : Nat) : (conn0 R C row).length = R + C := by simp [conn0]
theorem connStep_len (R C : Nat) (cs : List Int) (w : Nat) (inn : List Bool) : (connStep R C cs w inn).length = inn.length := by simp [connStep]
theorem connN_len (R C : Nat) (cs : List Int) (row w : Nat) : ∀ n, (connN R C cs row w n).length = R + C
  | 0 => conn0_len R C row
  | n + 1 => by simp only [connN]; rw [connStep_len, connN_len R C cs row w n]
theorem step_get (R C : Nat) (cs : List Int) (w : Nat) (inn : List Bool) (v : Nat) (hv : v < inn.length) : (connStep R C cs w inn).getD v false = (inn.getD v false || reachedF R C cs inn v w) := by
  simp [connStep, hv]
theorem reached_iff (R C : Nat) (cs : List Int) (w : Nat) (inn : List Bool) (v : Nat) : reachedF R C cs inn v w = true ↔ ∃ k, k < cs.length ∧ hidB cs w k = true ∧ edgB R C inn v k = true := by
  simp only [reachedF, List.any_eq_true, List.mem_range, Bool.and_eq_true]
theorem edg_iff (R C : Nat) (inn : List Bool) (v k : Nat) : edgB R C inn v k = true ↔ (v = k / C ∧ inn.getD (R + k % C) false = true) ∨ (v = R + k % C ∧ inn.getD (k / C) false = true) := by
  simp only [edgB, Bool.or_eq_true, Bool.and_eq_true, beq_iff_eq]
theorem getD_out {l : List Bool} {v : Nat} (h : l.getD v false = true) : v < l.length := by
  apply Classical.byContradiction; intro hn
  rw [List.getD_eq_getElem?_getD, List.getElem?_eq_none (by omega)] at h; cases h
theorem conn_sound (R C : Nat) (cs : List Int) (row w : Nat) : ∀ (n v : Nat), (connN R C cs row w n).getD v false = true → Rch R C cs w row v := by
  intro n
  induction n with
  | zero =>
    intro v h
    have hv := getD_out h
    rw [connN_len] at hv
    simp [connN, conn0, hv] at h
    subst h
    exact .base
  | succ n ih =>
    intro v h
    have hv := getD_out h
    rw [connN_len] at hv
    simp only [connN] at h
    rw [step_get _ _ _ _ _ _ (by rw [connN_len]; exact hv), Bool.or_eq_true] at h
    rcases h with h | h
    · exact ih v h
    · obtain ⟨k, hk, hh, he⟩ := (reached_iff ..).1 h
      rcases (edg_iff ..).1 he with ⟨rfl, h2⟩ | ⟨rfl, h2⟩
      · exact .toRow k hk hh (ih _ h2)
      · exact .toCol k hk hh (ih _ h2)
theorem conn_mono1 (R C : Nat) (cs : List Int) (row w n v : Nat) (h : (connN R C cs row w n).getD v false = true) : (connN R C cs row w (n + 1)).getD v false = true := by
  have hv := getD_out h
  simp only [connN]
  rw [step_get _ _ _ _ _ _ hv, h]; rfl
theorem conn_mono (R C : Nat) (cs : List Int) (row w n : Nat) (v : Nat) (h : (connN R C cs row w n).getD v false = true) : ∀ d, (connN R C cs row w (n + d)).getD v false = true
  | 0 => h
  | d + 1 => conn_mono1 R C cs row w (n + d) v (conn_mono R C cs row w n v h d)
theorem count_grow : ∀ (a b : List Bool), a.length = b.length → (∀ v : Nat, a.getD v false = true → b.getD v false = true) → a = b ∨ a.countP id < b.countP id
  | [], [], _, _ => .inl rfl
  | [], _ :: _, h, _ => by simp at h
  | _ :: _, [], h, _ => by simp at h
  | x :: a, y :: b, h, hm => by
    have ht := count_grow a b (by simpa using h) (fun v hv => by have := hm (v + 1); simpa using this (by simpa using hv))
    have h0 : x = true → y = true := by have := hm 0; simpa using this
    rcases ht with rfl | ht
    · cases x <;> cases y <;> simp_all
    · right; cases x <;> cases y <;> simp_all <;> omega
theorem conn_stable (R C : Nat) (cs : List Int) (row w : Nat) (n : Nat) (h : connN R C cs row w (n + 1) = connN R C cs row w n) : ∀ d, connN R C cs row w (n + d) = connN R C cs row w n
  | 0 => rfl
  | d + 1 => by
    have := conn_stable R C cs row w n h d
    show connStep R C cs w (connN R C cs row w (n + d)) = _
    rw [this]; exact h
theorem conn_pigeon (R C : Nat) (cs : List Int) (row w : Nat) : ∀ n, (∃ m, m ≤ n ∧ connN R C cs row w (m + 1) = connN R C cs row w m) ∨ n < (connN R C cs row w (n + 1)).countP id
  | 0 => by
    rcases count_grow (connN R C cs row w 0) (connN R C cs row w 1) (by rw [connN_len, connN_len]) (fun v => conn_mono1 R C cs row w 0 v) with h | h
    · exact .inl ⟨0, Nat.le_refl _, h.symm⟩
    · exact .inr (by simpa using Nat.lt_of_le_of_lt (Nat.zero_le _) h)
  | n + 1 => by
    rcases conn_pigeon R C cs row w n with ⟨m, hm, e⟩ | hc
    · exact .inl ⟨m, by omega, e⟩
    · rcases count_grow (connN R C cs row w (n + 1)) (connN R C cs row w (n + 2)) (by rw [connN_len, connN_len]) (fun v => conn_mono1 R C cs row w (n + 1) v) with h | h
      · exact .inl ⟨n + 1, Nat.le_refl _, h.symm⟩
      · exact .inr (by show n + 1 < (connN R C cs row w (n + 2)).countP id; omega)
theorem conn_fix (R C : Nat) (cs : List Int) (row w : Nat) : connStep R C cs w (connN R C cs row w (R + C)) = connN R C cs row w (R + C) := by
  have key : ∃ m, m ≤ R + C ∧ connN R C cs row w (m + 1) = connN R C cs row w m := by
    rcases conn_pigeon R C cs row w (R + C) with h | h
    · exact h
    · exfalso
      have := List.countP_le_length (p := id) (l := connN R C cs row w (R + C + 1))
      rw [connN_len] at this; omega
  obtain ⟨m, hm, e⟩ := key
  have h1 := conn_stable R C cs row w m e (R + C - m)
  have h2 := conn_stable R C cs row w m e (R + C - m + 1)
  rw [show m + (R + C - m) = R + C by omega] at h1
  rw [show m + (R + C - m + 1) = R + C + 1 by omega] at h2
  show connN R C cs row w (R + C + 1) = _
  rw [h1, h2]
theorem conn_complete (R C : Nat) (cs : List Int) (hO : Okn R C cs) (row w : Nat) (hr : row < R + C) (v : Nat) (h : Rch R C cs w row v) : (connN R C cs row w (R + C)).getD v false = true := by
  have step : ∀ v k, v < R + C → k < cs.length → hidB cs w k = true → edgB R C (connN R C cs row w (R + C)) v k = true → (connN R C cs row w (R + C)).getD v false = true := by
    intro v k hv hk hh he
    rw [← conn_fix R C cs row w, step_get _ _ _ _ _ _ (by rw [connN_len]; exact hv)]
    rw [(reached_iff ..).2 ⟨k, hk, hh, he⟩]; simp
  induction h with
  | base =>
    have h0 : (connN R C cs row w 0).getD row false = true := by simp [connN, conn0, hr]
    have := conn_mono R C cs row w 0 row h0 (R + C)
    rwa [Nat.zero_add] at this
  | toCol k hk hh _ ih =>
    have := hO.mod k
    exact step _ k (by omega) hk hh ((edg_iff ..).2 (.inr ⟨rfl, ih⟩))
  | toRow k hk hh _ ih =>
    have := hO.div hk
    exact step _ k (by omega) hk hh ((edg_iff ..).2 (.inl ⟨rfl, ih⟩))
theorem det_iff (R C : Nat) (cs : List Int) (hO : Okn R C cs) (c : Nat) (hc : c < cs.length) : detF R C cs c = true ↔ ¬ Rch R C cs c (c / C) (R + c % C) := by
  have hd := hO.div hc
  unfold detF
  constructor
  · intro h hr
    rw [conn_complete R C cs hO (c / C) c (by omega) _ hr] at h; cases h
  · intro h
    cases hq : (connN R C cs (c / C) c (R + C)).getD (R + c % C) false
    · rfl
    · exact absurd (conn_sound R C cs _ _ _ _ hq) h
theorem findN_none {p : Nat → Bool} : ∀ {m k : Nat}, findN p m k < 0 ↔ ∀ i, k ≤ i → i < k + m → p i = false
  | 0, k => by simp only [findN]; exact ⟨fun _ i h1 h2 => by omega, fun _ => by omega⟩
  | m + 1, k => by
    simp only [findN]
    by_cases h : p k = true
    · rw [if_pos h]
      exact ⟨fun hh => by omega, fun hh => by have := hh k (Nat.le_refl _) (by omega); rw [h] at this; cases this⟩
    · rw [if_neg h, findN_none]
      constructor
      · intro hh i h1 h2
        by_cases e : i = k
        · subst e; simpa using h
        · exact hh i (by omega) (by omega)
      · intro hh i h1 h2; exact hh i (by omega) (by omega)
theorem findN_some {p : Nat → Bool} : ∀ {m k : Nat}, 0 ≤ findN p m k → k ≤ (findN p m k).toNat ∧ (findN p m k).toNat < k + m ∧ p (findN p m k).toNat = true
  | 0, k => by simp only [findN]; intro h; omega
  | m + 1, k => by
    simp only [findN]
    by_cases h : p k = true
    · rw [if_pos h]; intro _; exact ⟨by omega, by omega, by simpa using h⟩
    · rw [if_neg h]; intro hh
      have := findN_some hh
      exact ⟨by omega, by omega, this.2.2⟩
theorem findN_ge (p : Nat → Bool) : ∀ (m k : Nat), -1 ≤ findN p m k
  | 0, k => by simp only [findN]; omega
  | m + 1, k => by
    simp only [findN]; split
    · omega
    · exact findN_ge p m (k + 1)
theorem first_bd (R C : Nat) (cs : List Int) : -1 ≤ firstF R C cs ∧ firstF R C cs < cs.length ∨ cs = [] := by
  by_cases h : cs = []
  · exact .inr h
  · left
    have hp : 0 < cs.length := List.length_pos_iff.2 h
    refine ⟨findN_ge _ _ _, ?_⟩
    by_cases h2 : 0 ≤ firstF R C cs
    · have := (findN_some h2).2.1; unfold firstF at *; omega
    · unfold firstF at *; omega
/-- Where all is hidden, nothing is determined. -/
theorem all_hidden (R C : Nat) (cs : List Int) (hO : Okn R C cs) (hR : 2 ≤ R) (hC : 2 ≤ C) (hv : visF cs < 0) (c : Nat) (hc : c < cs.length) : detF R C cs c = false := by
  have hall : ∀ k, k < cs.length → cs.getD k 0 = -1 := fun k hk => by
    have := findN_none.1 hv k (Nat.zero_le _) (by omega)
    simpa using this
  cases hq : detF R C cs c
  · rfl
  · exfalso
    refine (det_iff R C cs hO c hc).1 hq ?_
    have hd := hO.div hc
    have hm := hO.mod c
    obtain ⟨i, hi, hic⟩ : ∃ i, i < R ∧ i ≠ c / C := ⟨if c / C = 0 then 1 else 0, by split <;> omega, by split <;> omega⟩
    obtain ⟨j, hj, hjc⟩ : ∃ j, j < C ∧ j ≠ c % C := ⟨if c % C = 0 then 1 else 0, by split <;> omega, by split <;> omega⟩
    have dv : ∀ x y, y < C → (x * C + y) / C = x := fun x y hy => by
      rw [Nat.mul_comm, Nat.mul_add_div (by omega), Nat.div_eq_of_lt hy]; rfl
    have md : ∀ x y, y < C → (x * C + y) % C = y := fun x y hy => by
      rw [Nat.mul_comm, Nat.mul_add_mod, Nat.mod_eq_of_lt hy]
    have lt : ∀ x y, x < R → y < C → x * C + y < cs.length := fun x y hx hy => by
      rw [hO.len]
      calc x * C + y < x * C + C := by omega
        _ = (x + 1) * C := by rw [Nat.succ_mul]
        _ ≤ R * C := Nat.mul_le_mul_right _ hx
    have hid : ∀ x y, x < R → y < C → (x ≠ c / C ∨ y ≠ c % C) → hidB cs c (x * C + y) = true := fun x y hx hy hn => by
      unfold hidB
      rw [hall _ (lt x y hx hy)]
      have : x * C + y ≠ c := fun e => by
        rcases hn with h | h
        · apply h; rw [← e, dv x y hy]
        · apply h; rw [← e, md x y hy]
      simpa using this
    have s1 := Rch.toCol (R := R) (C := C) (cs := cs) (w := c) (row := c / C) (c / C * C + j) (lt _ _ hd hj) (hid _ _ hd hj (.inr hjc)) (by rw [dv _ _ hj]; exact .base)
    rw [md _ _ hj] at s1
    have s2 := Rch.toRow (R := R) (C := C) (cs := cs) (w := c) (row := c / C) (i * C + j) (lt _ _ hi hj) (hid _ _ hi hj (.inl hic)) (by rw [md _ _ hj]; exact s1)
    rw [dv _ _ hj] at s2
    have s3 := Rch.toCol (R := R) (C := C) (cs := cs) (w := c) (row := c / C) (i * C + c % C) (lt _ _ hi hm) (hid _ _ hi hm (.inl hic)) (by rw [dv _ _ hm]; exact s2)
    rw [md _ _ hm] at s3
    exact s3
theorem small_vis (cs : List Int) (l : List Nat) (h : 0 ≤ smallF cs l) : cs.getD (smallF cs l).toNat 0 ≠ -1 := by
  have key : ∀ (l : List Nat) (a : Int), (0 ≤ a → cs.getD a.toNat 0 ≠ -1) → 0 ≤ l.foldl (smStep cs) a → cs.getD (l.foldl (smStep cs) a).toNat 0 ≠ -1 := by
    intro l
    induction l with
    | nil => intro a ha h; exact ha h
    | cons x l ih =>
      intro a ha h
      refine ih _ ?_ h
      intro h2
      by_cases e : cs.getD x 0 = -1
      · have : smStep cs a x = a := by simp only [smStep, e]; rfl
        rw [this] at h2 ⊢; exact ha h2
      · cases hb : better cs a x
        · have : smStep cs a x = a := by simp only [smStep, hb, Bool.and_false, cond_false]
          rw [this] at h2 ⊢; exact ha h2
        · have : smStep cs a x = (x : Int) := by simp only [smStep, hb, Bool.and_true, decide_eq_true e, cond_true]
          rw [this]; exact e
  exact key l (-1) (by omega) h
theorem lt_of_rc {R C : Nat} {cs : List Int} (hO : Okn R C cs) {x y : Nat} (hx : x < R) (hy : y < C) : x * C + y < cs.length := by
  rw [hO.len]
  calc x * C + y < x * C + C := by omega
    _ = (x + 1) * C := by rw [Nat.succ_mul]
    _ ≤ R * C := Nat.mul_le_mul_right _ hx
theorem row_lt {R C : Nat} {cs : List Int} (hO : Okn R C cs) {x : Nat} (hx : x < cs.length) : ∀ k ∈ rowL C x, k < cs.length := fun k hk => by
  obtain ⟨j, hj, rfl⟩ := List.mem_map.1 hk
  exact lt_of_rc hO (hO.div hx) (List.mem_range.1 hj)
theorem col_lt {R C : Nat} {cs : List Int} (hO : Okn R C cs) {x : Nat} : ∀ k ∈ colL R C x, k < cs.length := fun k hk => by
  obtain ⟨j, hj, rfl⟩ := List.mem_map.1 hk
  exact lt_of_rc hO (List.mem_range.1 hj) (hO.mod x)
theorem next_bd (R C : Nat) (cs : List Int) (hO : Okn R C cs) (x : Nat) (hx : x < cs.length) : -1 ≤ nextF R C cs x ∧ nextF R C cs x < cs.length ∧ (0 ≤ nextF R C cs x → cs.getD (nextF R C cs x).toNat 0 ≠ -1) := by
  unfold nextF
  split
  · have := small_bd cs _ (row_lt hO hx)
    exact ⟨this.1, this.2, small_vis cs _⟩
  · split
    · have := small_bd cs _ (col_lt (x := x) hO)
      exact ⟨this.1, this.2, small_vis cs _⟩
    · refine ⟨findN_ge _ _ _, ?_, fun h => of_decide_eq_true (findN_some h).2.2⟩
      by_cases h : 0 ≤ visF cs
      · have := (findN_some h).2.1; unfold visF at *; omega
      · omega
theorem first_lt {R C : Nat} {cs : List Int} (h : 0 ≤ firstF R C cs) : (firstF R C cs).toNat < cs.length := by
  have := (findN_some h).2.1; unfold firstF at *; omega
theorem next_ok (R C : Nat) (cs : List Int) (hO : Okn R C cs) (hR : 2 ≤ R) (hC : 2 ≤ C) (h : 0 ≤ firstF R C cs) : 0 ≤ nextF R C cs (firstF R C cs).toNat := by
  by_cases hv : visF cs < 0
  · exfalso
    have h1 := first_lt h
    have h2 := (findN_some h).2.2
    have h3 := all_hidden R C cs hO hR hC hv _ h1
    simp only [Bool.and_eq_true] at h2
    unfold firstF at h3
    rw [h3] at h2; cases h2.2
  · unfold nextF
    split
    · assumption
    · split
      · assumption
      · omega
def hideIt (R C : Nat) (cs : List Int) : Nat → List Int
  | 0 => cs
  | n + 1 => (hideIt R C cs n).set (nextF R C (hideIt R C cs n) (firstF R C (hideIt R C cs n)).toNat).toNat (-1)
theorem hideIt_len (R C : Nat) (cs : List Int) : ∀ n, (hideIt R C cs n).length = cs.length
  | 0 => rfl
  | n + 1 => by simp only [hideIt, List.length_set]; exact hideIt_len R C cs n
theorem hideLoop_next (R C : Nat) (cs : List Int) (m : Nat) (h : 0 ≤ firstF R C cs) : hideLoop R C (m + 1) cs = hideLoop R C m (cs.set (nextF R C cs (firstF R C cs).toNat).toNat (-1)) := by
  simp only [hideLoop]; rw [if_neg (by omega)]
theorem hideLoop_stop (R C : Nat) (cs : List Int) (m : Nat) (h : firstF R C cs < 0) : hideLoop R C m cs = cs := by
  cases m
  · rfl
  · simp only [hideLoop]; rw [if_pos h]
theorem hideF_eq (R C : Nat) (cs : List Int) (k : Int) (h1 : rightB ⟨R, C, cs⟩ = true) (h2 : openB ⟨R, C, cs⟩ = true) (h3 : (2 : Int) ≤ R) (h4 : (2 : Int) ≤ C) : hideF ⟨R, C, cs⟩ k = ⟨R, C, hideLoop R C cs.length (hide0 cs k)⟩ := by
  unfold hideF; rw [if_pos ⟨h1, h2, h3, h4⟩]; rfl
theorem Okn.of_len {R C : Nat} {cs cs' : List Int} (h : Okn R C cs) (e : cs'.length = cs.length) : Okn R C cs' := ⟨h.r1, h.r8, h.c1, h.c8, by rw [e]; exact h.len⟩
def hidV (k v : Int) : Int := if 1 ≤ v ∧ v < k then -1 else v
end Go.Pv
