/- Part of a proof about this program; no condition of its own. -/
import Derived.Test.YtanbfhnmklhjiaaGreatDoorGzJ
set_option linter.all false
/- Two ascending rows made one: what symMerge leans on. No condition. -/
namespace Go.Fc
open Go Go.Ax Go.Or Go.Tx
abbrev SrtT (l : List Bk) : Prop := l.Pairwise fun x y => ltT y x = false
theorem sortT_eq {l s : List Bk} (hp : s.Perm l) (hs : SrtT s) : sortT l = s := (Or.sort_perm_eq Proofs.sto_T ((List.mergeSort_perm _ _).trans hp.symm) (Proofs.sortT_sorted _) hs)
theorem sortT_perm (l : List Bk) : (sortT l).Perm l := List.mergeSort_perm _ _
theorem sortT_len (l : List Bk) : (sortT l).length = l.length := (sortT_perm l).length_eq
/-- A row of one is put at its place among the greater ones. -/
theorem merge_one {A1 A2 X : List Bk} (h : SrtT (A1 ++ A2)) (hX : X.length = 1) (h1 : ∀ y ∈ A1, ∀ x ∈ X, ltT x y = false) (h2 : ∀ y ∈ A2, ∀ x ∈ X, ltT y x = false) : SrtT (A1 ++ X ++ A2) := by
  obtain ⟨a1, a2, a3⟩ := List.pairwise_append.1 h
  match X, hX with
  | [x], _ =>
    rw [List.append_assoc]
    refine List.pairwise_append.2 ⟨a1, ?_, fun y hy z hz => ?_⟩
    · exact List.pairwise_cons.2 ⟨fun y hy => h2 y hy x (by simp), a2⟩
    · rcases List.mem_cons.1 hz with rfl | hz
      · exact h1 y hy z (by simp)
      · exact a3 y hy z hz
theorem merge_two {A1 A2 B1 B2 : List Bk} (h11 : ∀ x ∈ A1, ∀ y ∈ A2, ltT y x = false) (h12 : ∀ x ∈ A1, ∀ y ∈ B2, ltT y x = false) (h21 : ∀ x ∈ B1, ∀ y ∈ A2, ltT y x = false) (h22 : ∀ x ∈ B1, ∀ y ∈ B2, ltT y x = false) :
    sortT (A1 ++ A2 ++ (B1 ++ B2)) = sortT (A1 ++ B1) ++ sortT (A2 ++ B2) := by
  refine sortT_eq ?_ ?_
  · have p := (sortT_perm (A1 ++ B1)).append (sortT_perm (A2 ++ B2))
    refine p.trans ?_
    simp only [List.append_assoc]
    refine List.Perm.append_left A1 ?_
    rw [← List.append_assoc, ← List.append_assoc A2]
    exact (List.perm_append_comm).append_right B2
  · refine List.pairwise_append.2 ⟨Proofs.sortT_sorted _, Proofs.sortT_sorted _, fun x hx y hy => ?_⟩
    have hx := (sortT_perm _).mem_iff.1 hx
    have hy := (sortT_perm _).mem_iff.1 hy
    rcases List.mem_append.1 hx with hx | hx
    · rcases List.mem_append.1 hy with hy | hy
      · exact h11 x hx y hy
      · exact h12 x hx y hy
    · rcases List.mem_append.1 hy with hy | hy
      · exact h21 x hx y hy
      · exact h22 x hx y hy
end Go.Fc

/- Two ascending rows parted at one height. No condition. -/
namespace Go.Fc
open Go Go.Ax Go.Or Go.Tx Go.Proofs
/-- Whether the t-th of the first row stays to the left. -/
def qS (A B : List Bk) (hf t : Nat) : Bool := !ltT (B.getD (hf - 1 - t) default) (A.getD t default)
theorem getD_at {L : List Bk} {t : Nat} (h : t < L.length) : L.getD t default = L[t] := by simp [h]
theorem srt_at {L : List Bk} (hL : SrtT L) {i j : Nat} (hij : i ≤ j) (hj : j < L.length) : ltT (L.getD j default) (L.getD i default) = false := by
  by_cases e : i = j
  · subst e; exact sto_T.irr _
  · rw [getD_at hj, getD_at (show i < L.length by omega)]
    exact List.pairwise_iff_getElem.1 hL i j (by omega) hj (by omega)
theorem qS_mono {A B : List Bk} (hA : SrtT A) (hB : SrtT B) {hf t h : Nat} (hth : t ≤ h) (h1 : h < A.length) (h2 : h < hf) (h3 : hf - 1 - t < B.length) (hq : qS A B hf h = true) : qS A B hf t = true := by
  unfold qS at *
  simp only [Bool.not_eq_true'] at *
  have a := srt_at hB (i := hf - 1 - h) (j := hf - 1 - t) (by omega) h3
  have b := srt_at hA hth h1
  exact sto_T.ntr _ _ _ (sto_T.ntr _ _ _ a hq) b
theorem merge_split {A B : List Bk} (hA : SrtT A) (hB : SrtT B) {s0 r0 hf s : Nat} (h1 : s0 ≤ s) (h2 : s ≤ r0) (h3 : r0 = hf ∨ r0 = A.length) (h4 : s0 = 0 ∨ s0 + B.length = hf) (h5 : r0 ≤ hf) (h6 : r0 ≤ A.length) (h7 : hf ≤ s0 + B.length)
    (hq : ∀ t, s0 ≤ t → t < s → qS A B hf t = true) (hn : ∀ t, s ≤ t → t < r0 → qS A B hf t = false) :
    sortT (A ++ B) = sortT (A.take s ++ B.take (hf - s)) ++ sortT (A.drop s ++ B.drop (hf - s)) := by
  have e1 : A ++ B = A.take s ++ A.drop s ++ (B.take (hf - s) ++ B.drop (hf - s)) := by rw [List.take_append_drop, List.take_append_drop]
  have memT : ∀ {L : List Bk} {k : Nat} {x}, x ∈ L.take k → ∃ t, t < k ∧ t < L.length ∧ x = L.getD t default := fun {L k x} h => by
    obtain ⟨t, ht, rfl⟩ := List.mem_iff_getElem.1 h
    rw [List.length_take] at ht
    exact ⟨t, by omega, by omega, by rw [getD_at (by omega), List.getElem_take]⟩
  have memD : ∀ {L : List Bk} {k : Nat} {x}, x ∈ L.drop k → ∃ t, k ≤ t ∧ t < L.length ∧ x = L.getD t default := fun {L k x} h => by
    obtain ⟨t, ht, rfl⟩ := List.mem_iff_getElem.1 h
    rw [List.length_drop] at ht
    exact ⟨k + t, by omega, by omega, by rw [getD_at (by omega), List.getElem_drop]⟩
  rw [e1]
  refine merge_two (fun x hx y hy => ?_) (fun x hx y hy => ?_) (fun x hx y hy => ?_) (fun x hx y hy => ?_)
  · obtain ⟨t, a1, a2, rfl⟩ := memT hx
    obtain ⟨u, b1, b2, rfl⟩ := memD hy
    exact srt_at hA (by omega) b2
  · obtain ⟨t, a1, a2, rfl⟩ := memT hx
    obtain ⟨u, b1, b2, rfl⟩ := memD hy
    have hs : s0 < s := by
      rcases h4 with h4 | h4 <;> omega
    have q := hq (s - 1) (by omega) (by omega)
    unfold qS at q
    simp only [Bool.not_eq_true'] at q
    rw [show hf - 1 - (s - 1) = hf - s by omega] at q
    exact sto_T.ntr _ _ _ (sto_T.ntr _ _ _ (srt_at hB b1 b2) q) (srt_at hA (by omega) (by omega))
  · obtain ⟨t, a1, a2, rfl⟩ := memT hx
    obtain ⟨u, b1, b2, rfl⟩ := memD hy
    have hs : s < r0 := by
      rcases h3 with h3 | h3 <;> omega
    have q := hn s (Nat.le_refl _) hs
    unfold qS at q
    simp only [Bool.not_eq_false'] at q
    have q := sto_T.asym q
    exact sto_T.ntr _ _ _ (sto_T.ntr _ _ _ (srt_at hA b1 b2) q) (srt_at hB (show t ≤ hf - 1 - s by omega) (by omega))
  · obtain ⟨t, a1, a2, rfl⟩ := memT hx
    obtain ⟨u, b1, b2, rfl⟩ := memD hy
    exact srt_at hB (by omega) b2
end Go.Fc
