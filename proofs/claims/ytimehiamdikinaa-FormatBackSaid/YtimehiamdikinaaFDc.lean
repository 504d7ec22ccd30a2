/- Distances between formats: what the numbers that 'steps' computes say of ways. Plain Lean. No condition of its own. -/
import Derived.Test.YtimehiamdikinaaFWf
set_option linter.all false
namespace Go.Fm
open Go Go.Ax Go.Proofs

theorem pigeon {α : Type} [DecidableEq α] : ∀ (L M : List α), L.Nodup → (∀ x ∈ L, x ∈ M) → L.length ≤ M.length
  | [], M, _, _ => Nat.zero_le _
  | x :: L, M, hn, hs => by
    rw [List.nodup_cons] at hn
    have hx := hs x (by simp)
    have h1 := pigeon L (M.erase x) hn.2 fun y hy => (List.mem_erase_of_ne (fun e => hn.1 (by rw [← e]; exact hy))).2 (hs y (by simp [hy]))
    rw [List.length_erase_of_mem hx] at h1
    have : 0 < M.length := List.length_pos_of_mem hx
    simp only [List.length_cons]; omega

def hitS (l : List Fmt) (r : Nat) (n : List Int) (i : Nat) : Bool := (l.getD i noFmt).to.any (hitP l r n)
def passV (l : List Fmt) (r : Nat) (n : List Int) (i : Nat) : Int := if 0 ≤ n.getD i 0 then n.getD i 0 else if hitS l r n i = true then (r : Int) + 1 else n.getD i 0
theorem getD_set {n : List Int} {i : Nat} (j : Nat) (v : Int) (hi : i < n.length) : (n.set i v).getD j 0 = if i = j then v else n.getD j 0 := by
  simp only [List.getD_eq_getElem?_getD, List.getElem?_set]
  by_cases e : i = j
  · subst e; simp [hi]
  · simp [e]
theorem pass_at (l : List Fmt) (r : Nat) (n : List Int) (hn : n.length = l.length) : ∀ m, m ≤ l.length → ∀ j, j < l.length → ((List.range m).foldl (distStep l r) n).getD j 0 = if j < m then passV l r n j else n.getD j 0
  | 0, _, j, _ => by simp
  | m + 1, hm, j, hj => by
    have ih := pass_at l r n hn m (by omega)
    rw [List.range_succ, List.foldl_append]
    show (distStep l r ((List.range m).foldl (distStep l r) n) m).getD j 0 = _
    have hl := distFold_len l r (List.range m) n
    generalize (List.range m).foldl (distStep l r) n = q at *
    have hh : ∀ id, hitP l r q id = hitP l r n id := fun id => by
      unfold hitP
      by_cases h0 : 0 ≤ findF l id
      · have hlt : findF l id < l.length := fI_lt _ _
        have h2 := ih (findF l id).toNat (by omega)
        congr 1
        rw [h2]
        unfold passV
        split
        · split
          · rfl
          · split
            · rw [decide_eq_false (by omega), decide_eq_false (by omega)]
            · rfl
        · rfl
      · rw [decide_eq_false h0]; rfl
    have e1 := ih m (by omega)
    rw [if_neg (by omega)] at e1
    have e2 := ih j hj
    have e3 : (l.getD m noFmt).to.any (hitP l r q) = hitS l r n m := by unfold hitS; congr 1; funext id; exact hh id
    unfold distStep
    rw [e1, e3]
    by_cases ejm : j = m
    · subst ejm
      rw [if_pos (show j < j + 1 by omega)]
      unfold passV
      split
      · exact e1
      · split
        · rw [getD_set _ _ (by omega), if_pos rfl]
        · exact e1
    · have e4 : (if j < m + 1 then passV l r n j else n.getD j 0) = if j < m then passV l r n j else n.getD j 0 := by
        by_cases h5 : j < m
        · rw [if_pos (by omega), if_pos h5]
        · rw [if_neg (by omega), if_neg h5]
      rw [e4, ← e2]
      split
      · rfl
      · split
        · rw [getD_set _ _ (by omega), if_neg (fun e => ejm e.symm)]
        · rfl
/-- Does a format lead to another one directly? -/
def E (l : List Fmt) (i k : Nat) : Prop := inF (l.getD i noFmt).to (l.getD k noFmt).id = true
theorem hitS_iff (l : List Fmt) (hu : Uniq l) (r : Nat) (n : List Int) (i : Nat) : hitS l r n i = true ↔ ∃ k, k < l.length ∧ n.getD k 0 = r ∧ E l i k := by
  unfold hitS
  rw [hit_iff l hu]
  simp only [List.any_eq_true, List.mem_range, hitR, Bool.and_eq_true, decide_eq_true_eq]
  constructor
  · rintro ⟨k, h1, h2, h3⟩; exact ⟨k, h1, h2, h3⟩
  · rintro ⟨k, h1, h2, h3⟩; exact ⟨k, h1, h2, h3⟩
structure DistOk (l : List Fmt) (g r : Nat) (n : List Int) : Prop where
  len : n.length = l.length
  lo : ∀ i, i < l.length → n.getD i 0 = -1 ∨ (0 ≤ n.getD i 0 ∧ n.getD i 0 ≤ r)
  zero : ∀ i, i < l.length → (n.getD i 0 = 0 ↔ i = g)
  back : ∀ i, i < l.length → 0 < n.getD i 0 → ∃ k, k < l.length ∧ n.getD k 0 = n.getD i 0 - 1 ∧ E l i k
  fwd : ∀ i k, i < l.length → k < l.length → E l i k → 0 ≤ n.getD k 0 → n.getD k 0 < r → 0 ≤ n.getD i 0 ∧ n.getD i 0 ≤ n.getD k 0 + 1
theorem dist_ok (l : List Fmt) (hu : Uniq l) (g : Nat) (hg : g < l.length) : ∀ r, DistOk l g r (distN l g r)
  | 0 => by
    have e : ∀ i, i < l.length → (distN l g 0).getD i 0 = if g = i then 0 else -1 := fun i hi => by
      show (((List.replicate l.length (-1)).set g 0)).getD i 0 = _
      rw [getD_set _ _ (by simpa using hg)]
      split
      · rfl
      · simp [List.getElem?_replicate, hi]
    refine ⟨distN_len l g 0, fun i hi => ?_, fun i hi => ?_, fun i hi h => ?_, fun i k hi hk _ h1 h2 => ?_⟩
    · rw [e i hi]; split
      · right; simp
      · left; rfl
    · rw [e i hi]; split
      · next h => simp [h]
      · next h => constructor
                  · intro h2; omega
                  · intro h2; exact absurd h2.symm h
    · rw [e i hi] at h; split at h <;> omega
    · omega
  | r + 1 => by
    have ih := dist_ok l hu g hg r
    have e : ∀ i, i < l.length → (distN l g (r + 1)).getD i 0 = passV l r (distN l g r) i := fun i hi => by
      have := pass_at l r (distN l g r) ih.len l.length (Nat.le_refl _) i hi
      rw [if_pos hi] at this
      exact this
    have hlen := distN_len l g (r + 1)
    generalize distN l g (r + 1) = n' at *
    generalize distN l g r = n at *
    have old : ∀ i, 0 ≤ n.getD i 0 → passV l r n i = n.getD i 0 := fun i h => by unfold passV; rw [if_pos h]
    have new : ∀ i, n.getD i 0 < 0 → hitS l r n i = true → passV l r n i = r + 1 := fun i h h2 => by unfold passV; rw [if_neg (by omega), if_pos h2]
    have non : ∀ i, n.getD i 0 < 0 → hitS l r n i = false → passV l r n i = n.getD i 0 := fun i h h2 => by unfold passV; rw [if_neg (by omega), if_neg (by simp [h2])]
    have cs : ∀ i, i < l.length → (0 ≤ n.getD i 0 ∧ passV l r n i = n.getD i 0) ∨ (n.getD i 0 = -1 ∧ hitS l r n i = true ∧ passV l r n i = r + 1) ∨ (n.getD i 0 = -1 ∧ hitS l r n i = false ∧ passV l r n i = -1) := fun i hi => by
      rcases ih.lo i hi with h | h
      · cases hb : hitS l r n i with
        | true => exact .inr (.inl ⟨h, rfl, new i (by omega) hb⟩)
        | false => exact .inr (.inr ⟨h, rfl, by rw [non i (by omega) hb, h]⟩)
      · exact .inl ⟨h.1, old i h.1⟩
    refine ⟨hlen, fun i hi => ?_, fun i hi => ?_, fun i hi h => ?_, fun i k hi hk he h1 h2 => ?_⟩
    · rw [e i hi]
      have := ih.lo i hi
      rcases cs i hi with h | h | h <;> omega
    · rw [e i hi, ← ih.zero i hi]
      rcases cs i hi with h | h | h <;> omega
    · rw [e i hi] at h ⊢
      rcases cs i hi with h3 | h3 | h3
      · obtain ⟨k, k1, k2, k3⟩ := ih.back i hi (by omega)
        refine ⟨k, k1, ?_, k3⟩
        rw [e k k1, old k (by omega)]; omega
      · obtain ⟨k, k1, k2, k3⟩ := (hitS_iff l hu r n i).1 h3.2.1
        refine ⟨k, k1, ?_, k3⟩
        rw [e k k1, old k (by omega)]; omega
      · omega
    · rw [e k hk] at h1 h2 ⊢
      rw [e i hi]
      rcases cs k hk with h3 | h3 | h3
      · rcases Int.lt_or_le (n.getD k 0) r with h4 | h4
        · have := ih.fwd i k hi hk he (by omega) h4
          rcases cs i hi with h5 | h5 | h5 <;> omega
        · have hb : hitS l r n i = true := (hitS_iff l hu r n i).2 ⟨k, hk, by omega, he⟩
          have := ih.lo i hi
          rcases cs i hi with h5 | h5 | h5
          · omega
          · omega
          · rw [hb] at h5; exact absurd h5.2.1 (by simp)
      · omega
      · omega
theorem chain {l : List Fmt} {g r : Nat} {n : List Int} (h : DistOk l g r n) : ∀ (d i : Nat), i < l.length → n.getD i 0 = d → ∃ L : List Nat, L.length = d + 1 ∧ L.Nodup ∧ ∀ x ∈ L, x < l.length ∧ n.getD x 0 ≤ d
  | 0, i, hi, hd => ⟨[i], rfl, by simp, fun x hx => by simp at hx; subst hx; exact ⟨hi, by omega⟩⟩
  | d + 1, i, hi, hd => by
    obtain ⟨k, k1, k2, _⟩ := h.back i hi (by omega)
    obtain ⟨L, h1, h2, h3⟩ := chain h d k k1 (by omega)
    refine ⟨i :: L, by simp [h1], List.nodup_cons.2 ⟨fun hm => by have := (h3 i hm).2; omega, h2⟩, fun x hx => ?_⟩
    rcases List.mem_cons.1 hx with rfl | hx
    · exact ⟨hi, by omega⟩
    · have := h3 x hx; exact ⟨this.1, by omega⟩
theorem dist_lt {l : List Fmt} {g r : Nat} {n : List Int} (h : DistOk l g r n) (i : Nat) (hi : i < l.length) : n.getD i 0 < l.length := by
  rcases Int.lt_or_le (n.getD i 0) 0 with h0 | h0
  · omega
  · obtain ⟨L, h1, h2, h3⟩ := chain h (n.getD i 0).toNat i hi (by omega)
    have := pigeon L (List.range l.length) h2 fun x hx => List.mem_range.2 (h3 x hx).1
    simp at this
    omega
theorem distF_ok (l : List Fmt) (hu : Uniq l) (g : Nat) (hg : g < l.length) : DistOk l g l.length (distF l g) := dist_ok l hu g hg l.length
theorem distF_fwd (l : List Fmt) (hu : Uniq l) (g : Nat) (hg : g < l.length) {i k : Nat} (hi : i < l.length) (hk : k < l.length) (he : E l i k) (h0 : 0 ≤ (distF l g).getD k 0) : 0 ≤ (distF l g).getD i 0 ∧ (distF l g).getD i 0 ≤ (distF l g).getD k 0 + 1 :=
  (distF_ok l hu g hg).fwd i k hi hk he h0 (dist_lt (distF_ok l hu g hg) k hk)

/-! ### the way -/
def nxB (l : List Fmt) (n : List Int) (i k : Nat) : Bool := inF (l.getD i noFmt).to (l.getD k noFmt).id && decide (n.getD k 0 = n.getD i 0 - 1)
def nx (l : List Fmt) (n : List Int) (i : Nat) : Nat := ((List.range l.length).find? (nxB l n i)).getD 0
def walkF (l : List Fmt) (n : List Int) : Nat → Nat → List Int
  | 0, _ => []
  | d + 1, i => (l.getD (nx l n i) noFmt).id :: walkF l n d (nx l n i)
theorem nx_ok {l : List Fmt} {g r : Nat} {n : List Int} (h : DistOk l g r n) (i : Nat) (hi : i < l.length) (h0 : 0 < n.getD i 0) :
    (List.range l.length).find? (nxB l n i) = some (nx l n i) ∧ nx l n i < l.length ∧ E l i (nx l n i) ∧ n.getD (nx l n i) 0 = n.getD i 0 - 1 := by
  obtain ⟨k, k1, k2, k3⟩ := h.back i hi h0
  have hs : ((List.range l.length).find? (nxB l n i)).isSome := by
    rw [List.find?_isSome]
    exact ⟨k, List.mem_range.2 k1, by unfold nxB; rw [show inF _ _ = true from k3, decide_eq_true k2]; rfl⟩
  obtain ⟨x, hx⟩ := Option.isSome_iff_exists.1 hs
  have e : nx l n i = x := by unfold nx; rw [hx]; rfl
  have h1 := List.find?_some hx
  have h2 := List.mem_of_find?_eq_some hx
  unfold nxB at h1
  simp only [Bool.and_eq_true, decide_eq_true_eq] at h1
  rw [e]
  exact ⟨hx, List.mem_range.1 h2, h1.1, h1.2⟩
end Go.Fm
