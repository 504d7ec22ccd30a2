/- What a way between formats is: it begins where it should, goes by allowed steps, has no shortcut, and ends where the risk is least. Plain Lean. -/
import Derived.Test.YtimehiamdikinaaFWj
set_option linter.all false
namespace Go.Fm
open Go Go.Ax Go.Proofs
/-- The places that a way goes through. -/
def walkI (l : List Fmt) (n : List Int) : Nat → Nat → List Nat
  | 0, i => [i]
  | d + 1, i => i :: walkI l n d (nx l n i)
theorem walkI_len (l : List Fmt) (n : List Int) : ∀ d i, (walkI l n d i).length = d + 1
  | 0, _ => rfl
  | d + 1, i => by simp [walkI, walkI_len l n d]
theorem walkI_ids (l : List Fmt) (n : List Int) : ∀ d i, (walkI l n d i).map (fun k => (l.getD k noFmt).id) = (l.getD i noFmt).id :: walkF l n d i
  | 0, _ => rfl
  | d + 1, i => by simp only [walkI, walkF, List.map_cons, walkI_ids l n d]
theorem walkI_ok {l : List Fmt} {g r : Nat} {n : List Int} (h : DistOk l g r n) : ∀ (d i : Nat), i < l.length → n.getD i 0 = d → ∀ k (hk : k < d + 1),
    (walkI l n d i).getD k 0 < l.length ∧ n.getD ((walkI l n d i).getD k 0) 0 = (d : Int) - k ∧ (k < d → E l ((walkI l n d i).getD k 0) ((walkI l n d i).getD (k + 1) 0))
  | 0, i, hi, hd, k, hk => by
    obtain rfl : k = 0 := by omega
    exact ⟨hi, by simpa [walkI] using hd, fun h => absurd h (by omega)⟩
  | d + 1, i, hi, hd, k, hk => by
    obtain ⟨h1, h2, h3, h4⟩ := nx_ok h i hi (by omega)
    cases k with
    | zero =>
      refine ⟨hi, by simpa [walkI] using hd, fun _ => ?_⟩
      have : (walkI l n d (nx l n i)).getD 0 0 = nx l n i := by cases d <;> rfl
      show E l i ((walkI l n d (nx l n i)).getD 0 0)
      rw [this]; exact h3
    | succ k =>
      obtain ⟨q1, q2, q3⟩ := walkI_ok h d (nx l n i) h2 (by omega) k (by omega)
      refine ⟨q1, ?_, fun hk2 => q3 (by omega)⟩
      show n.getD ((walkI l n d (nx l n i)).getD k 0) 0 = _
      rw [q2]; omega
/-- Can a format be reached from another one? -/
inductive Rch (l : List Fmt) (a : Nat) : Nat → Prop where
  | refl : Rch l a a
  | step {b c : Nat} : Rch l a b → b < l.length → c < l.length → E l b c → Rch l a c
theorem rch_dist {l : List Fmt} (hu : Uniq l) {g : Nat} (hg : g < l.length) {a b : Nat} (ha : a < l.length) (h : Rch l a b) : 0 ≤ (distF l g).getD b 0 → 0 ≤ (distF l g).getD a 0 := by
  induction h with
  | refl => exact id
  | step h1 hb hc he ih => exact fun h0 => ih (distF_fwd l hu g hg hb hc he h0).1
theorem dist_rch {l : List Fmt} (hu : Uniq l) {g : Nat} (hg : g < l.length) {a : Nat} : ∀ (d i : Nat), i < l.length → (distF l g).getD i 0 = d → Rch l a i → Rch l a g
  | 0, i, hi, hd, h => by
    have := ((distF_ok l hu g hg).zero i hi).1 (by omega)
    rw [← this]; exact h
  | d + 1, i, hi, hd, h => by
    obtain ⟨k, k1, k2, k3⟩ := (distF_ok l hu g hg).back i hi (by omega)
    exact dist_rch hu hg d k k1 (by omega) (.step h hi k1 k3)
theorem best_inv (l : List Fmt) (at_ : Nat) (year : Int) (hu : Uniq l) (ha : at_ < l.length) : ∀ k, k ≤ l.length →
    let b := (List.range k).foldl (bestStep l at_ year) (at_, 0)
    0 ≤ (distF l b.1).getD at_ 0 ∧ b.1 < l.length ∧ ∀ i, i < k → 0 ≤ (distF l i).getD at_ 0 → riskF (l.getD b.1 noFmt) year ≤ riskF (l.getD i noFmt) year
  | 0, _ => ⟨by
      have := ((distF_ok l hu at_ ha).zero at_ ha).2 rfl
      show 0 ≤ (distF l at_).getD at_ 0
      omega, ha, fun i hi => absurd hi (by omega)⟩
  | k + 1, hk => by
    have ih := best_inv l at_ year hu ha k (by omega)
    simp only [List.range_succ, List.foldl_append, List.foldl_cons, List.foldl_nil] at ih ⊢
    generalize (List.range k).foldl (bestStep l at_ year) (at_, 0) = b at *
    obtain ⟨h1, h2, h3⟩ := ih
    unfold bestStep
    split
    · next hn =>
      refine ⟨h1, h2, fun i hi h0 => ?_⟩
      rcases Nat.lt_or_ge i k with z | z
      · exact h3 i z h0
      · obtain rfl : i = k := by omega
        omega
    · split
      · next hn hc =>
        refine ⟨by show 0 ≤ (distF l k).getD at_ 0; omega, by show k < _; omega, fun i hi h0 => ?_⟩
        show riskF (l.getD k noFmt) year ≤ _
        rcases Nat.lt_or_ge i k with z | z
        · have := h3 i z h0; omega
        · obtain rfl : i = k := by omega
          omega
      · next hn hc =>
        refine ⟨h1, h2, fun i hi h0 => ?_⟩
        rcases Nat.lt_or_ge i k with z | z
        · exact h3 i z h0
        · obtain rfl : i = k := by omega
          omega
end Go.Fm
