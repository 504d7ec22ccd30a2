/- Part of a proof about this program; no condition of its own. -/
import Derived.Test.YtanbfhnmklhjiaaGreatDoorZXc
import Derived.Test.YtanbfhnmklhjiaaGreatDoorZXd
import Derived.Test.YtanbfhnmklhjiaaGreatDoorZXh
import Derived.Test.YtanbfhnmklhjiaaGreatDoorZXi
set_option linter.all false
/- symMerge: the whole. No condition. -/
namespace Go.Fc
open Go Go.Ax Go.Or Go.Tx Go.Proofs
/-- Where the search ends. -/
theorem split_pt {A B : List Bk} (hA : SrtT A) (hB : SrtT B) {hf s0 r0 : Nat} (h : s0 ≤ r0) (hr : r0 ≤ A.length) (hr2 : r0 ≤ hf) (hb : hf ≤ s0 + B.length) :
    ∃ s, s0 ≤ s ∧ s ≤ r0 ∧ (∀ t, s0 ≤ t → t < s → qS A B hf t = true) ∧ ∀ t, s ≤ t → t < r0 → qS A B hf t = false := by
  have key : ∀ n, s0 + n ≤ r0 → (∀ t, s0 ≤ t → t < s0 + n → qS A B hf t = true) → ∃ s, s0 ≤ s ∧ s ≤ r0 ∧ (∀ t, s0 ≤ t → t < s → qS A B hf t = true) ∧ ∀ t, s ≤ t → t < r0 → qS A B hf t = false := by
    intro n
    induction hk : r0 - (s0 + n) generalizing n with
    | zero => intro h1 h2; exact ⟨r0, by omega, Nat.le_refl _, fun t a b => h2 t a (by omega), fun t a b => by omega⟩
    | succ k ih =>
      intro h1 h2
      cases hq : qS A B hf (s0 + n) with
      | true =>
        refine ih (n + 1) (by omega) (by omega) fun t a b => ?_
        by_cases e : t = s0 + n
        · rw [e]; exact hq
        · exact h2 t a (by omega)
      | false =>
        refine ⟨s0 + n, by omega, h1, h2, fun t a b => ?_⟩
        cases hqt : qS A B hf t with
        | false => rfl
        | true => rw [qS_mono hA hB a (by omega) (by omega) (by omega) hqt] at hq; cases hq
  exact key 0 (by omega) fun t a b => by omega
end Go.Fc
namespace Go.Proofs
open Go Go.Ax Go.Tx Go.Lib Go.Shelf Go.RowKit Go.Fc
set_option maxRecDepth 100000
set_option maxHeartbeats 0
variable {Γ : List (Nat × List D)}
theorem c238 : ∀ (N : Nat) (P A B S : List Bk) (a m b : Int), A.length + B.length ≤ N → 0 < A.length → 0 < B.length → SrtT A → SrtT B → a = P.length → m = (P.length + A.length : Nat) → b = (P.length + A.length + B.length : Nat) → (P ++ A ++ B ++ S).length ≤ 1000000 →
    RFn Tryz.prog Γ 238 79 2 ((P ++ A ++ B ++ S).map Bk.ds) ((P ++ sortT (A ++ B) ++ S).map Bk.ds) [.c (.d (.int .i64 a)), .c (.d (.int .i64 m)), .c (.d (.int .i64 b)), .c (.fn (FnSpec Tryz.prog Γ (cmpBk cfT)))] []
  | 0, _, _, _, _, _, _, _, h, h1, _, _, _, _, _, _, _ => by omega
  | N + 1, P, A, B, S, a, m, b, hN, hA0, hB0, hA, hB, ea, em, eb, hd => by
    by_cases hA1 : A.length = 1
    · exact c238a P A B S a m b hA1 hB0 hB ea em eb hd
    by_cases hB1 : B.length = 1
    · exact c238b P A B S a m b hA1 hA0 hB1 hA ea em eb hd
    have ih : SmIH Γ N := fun P A B S L T a m b eL eT h1 h2 h3 h4 h5 h6 h7 h8 h9 => by subst eL; subst eT; exact c238 N P A B S a m b h1 h2 h3 h4 h5 h6 h7 h8 h9
    obtain ⟨hf, hhf⟩ : ∃ hf, hf = (A.length + B.length) / 2 := ⟨_, rfl⟩
    by_cases hF : hf < A.length
    · obtain ⟨s, q1, q2, q3, q4⟩ := split_pt hA hB (hf := hf) (s0 := hf - B.length) (r0 := hf) (by omega) (by omega) (Nat.le_refl _) (by omega)
      have hsp := merge_split hA hB q1 q2 (.inl rfl) (by omega) (Nat.le_refl _) (by omega) (by omega) q3 q4
      have n1 : (A.take s).length = s := by rw [List.length_take]; omega
      have n2 : (A.drop s).length = A.length - s := List.length_drop
      have n3 : (B.take (hf - s)).length = hf - s := by rw [List.length_take]; omega
      have n4 : (B.drop (hf - s)).length = B.length - (hf - s) := List.length_drop
      have tA : A = A.take s ++ A.drop s := (List.take_append_drop _ _).symm
      have tB : B = B.take (hf - s) ++ B.drop (hf - s) := (List.take_append_drop _ _).symm
      rw [hsp, ← List.append_assoc]
      obtain ⟨A1, eA1⟩ : ∃ A1, A1 = A.take s := ⟨_, rfl⟩
      obtain ⟨A2, eA2⟩ : ∃ A2, A2 = A.drop s := ⟨_, rfl⟩
      obtain ⟨B1, eB1⟩ : ∃ B1, B1 = B.take (hf - s) := ⟨_, rfl⟩
      obtain ⟨B2, eB2⟩ : ∃ B2, B2 = B.drop (hf - s) := ⟨_, rfl⟩
      rw [← eA1, ← eA2] at tA
      rw [← eB1, ← eB2] at tB
      rw [← eA1] at n1
      rw [← eA2] at n2
      rw [← eB1] at n3
      rw [← eB2] at n4
      rw [← eA1, ← eA2, ← eB1, ← eB2]
      clear eA1 eA2 eB1 eB2 hsp
      subst tA tB
      have lA : (A1 ++ A2).length = A1.length + A2.length := List.length_append
      have lB : (B1 ++ B2).length = B1.length + B2.length := List.length_append
      have es : s = A1.length := n1.symm
      subst es
      rcases Nat.eq_zero_or_pos A1.length with z1 | z1 <;> rcases Nat.eq_zero_or_pos A2.length with z2 | z2 <;> rcases Nat.eq_zero_or_pos B1.length with z3 | z3 <;> rcases Nat.eq_zero_or_pos B2.length with z4 | z4
      all_goals first
        | (exfalso; omega)
        | exact c238x1111 ih P A1 A2 B1 B2 S a m b hf hhf (by omega) hN (by omega) (by omega) hA hB ea em eb hd hF _ _ rfl rfl q1 q2 q3 q4 z1 z2 z3 z4
        | exact c238x0111 ih P A1 A2 B1 B2 S a m b hf hhf (by omega) hN (by omega) (by omega) hA hB ea em eb hd hF _ _ rfl rfl q1 q2 q3 q4 z1 z2 z3 z4
        | exact c238x1011 ih P A1 A2 B1 B2 S a m b hf hhf (by omega) hN (by omega) (by omega) hA hB ea em eb hd hF _ _ rfl rfl q1 q2 q3 q4 z1 z2 z3 z4
        | exact c238x1101 ih P A1 A2 B1 B2 S a m b hf hhf (by omega) hN (by omega) (by omega) hA hB ea em eb hd hF _ _ rfl rfl q1 q2 q3 q4 z1 z2 z3 z4
        | exact c238x1110 ih P A1 A2 B1 B2 S a m b hf hhf (by omega) hN (by omega) (by omega) hA hB ea em eb hd hF _ _ rfl rfl q1 q2 q3 q4 z1 z2 z3 z4
        | exact c238x0110 ih P A1 A2 B1 B2 S a m b hf hhf (by omega) hN (by omega) (by omega) hA hB ea em eb hd hF _ _ rfl rfl q1 q2 q3 q4 z1 z2 z3 z4
        | exact c238x1001 ih P A1 A2 B1 B2 S a m b hf hhf (by omega) hN (by omega) (by omega) hA hB ea em eb hd hF _ _ rfl rfl q1 q2 q3 q4 z1 z2 z3 z4
    · obtain ⟨s, q1, q2, q3, q4⟩ := split_pt hA hB (hf := hf) (s0 := 0) (r0 := A.length) (by omega) (Nat.le_refl _) (by omega) (by omega)
      have hsp := merge_split hA hB q1 q2 (.inr rfl) (.inl rfl) (by omega) (Nat.le_refl _) (by omega) q3 q4
      have n1 : (A.take s).length = s := by rw [List.length_take]; omega
      have n2 : (A.drop s).length = A.length - s := List.length_drop
      have n3 : (B.take (hf - s)).length = hf - s := by rw [List.length_take]; omega
      have n4 : (B.drop (hf - s)).length = B.length - (hf - s) := List.length_drop
      have tA : A = A.take s ++ A.drop s := (List.take_append_drop _ _).symm
      have tB : B = B.take (hf - s) ++ B.drop (hf - s) := (List.take_append_drop _ _).symm
      rw [hsp, ← List.append_assoc]
      obtain ⟨A1, eA1⟩ : ∃ A1, A1 = A.take s := ⟨_, rfl⟩
      obtain ⟨A2, eA2⟩ : ∃ A2, A2 = A.drop s := ⟨_, rfl⟩
      obtain ⟨B1, eB1⟩ : ∃ B1, B1 = B.take (hf - s) := ⟨_, rfl⟩
      obtain ⟨B2, eB2⟩ : ∃ B2, B2 = B.drop (hf - s) := ⟨_, rfl⟩
      rw [← eA1, ← eA2] at tA
      rw [← eB1, ← eB2] at tB
      rw [← eA1] at n1
      rw [← eA2] at n2
      rw [← eB1] at n3
      rw [← eB2] at n4
      rw [← eA1, ← eA2, ← eB1, ← eB2]
      clear eA1 eA2 eB1 eB2 hsp
      subst tA tB
      have lA : (A1 ++ A2).length = A1.length + A2.length := List.length_append
      have lB : (B1 ++ B2).length = B1.length + B2.length := List.length_append
      have es : s = A1.length := n1.symm
      subst es
      have hF' := Nat.le_of_not_lt hF
      rcases Nat.eq_zero_or_pos A1.length with z1 | z1 <;> rcases Nat.eq_zero_or_pos A2.length with z2 | z2 <;> rcases Nat.eq_zero_or_pos B1.length with z3 | z3 <;> rcases Nat.eq_zero_or_pos B2.length with z4 | z4
      all_goals first
        | (exfalso; omega)
        | exact c238y1111 ih P A1 A2 B1 B2 S a m b hf hhf (by omega) hN (by omega) (by omega) hA hB ea em eb hd hF' _ _ rfl rfl q1 q2 q3 q4 z1 z2 z3 z4
        | exact c238y0111 ih P A1 A2 B1 B2 S a m b hf hhf (by omega) hN (by omega) (by omega) hA hB ea em eb hd hF' _ _ rfl rfl q1 q2 q3 q4 z1 z2 z3 z4
        | exact c238y1011 ih P A1 A2 B1 B2 S a m b hf hhf (by omega) hN (by omega) (by omega) hA hB ea em eb hd hF' _ _ rfl rfl q1 q2 q3 q4 z1 z2 z3 z4
        | exact c238y1101 ih P A1 A2 B1 B2 S a m b hf hhf (by omega) hN (by omega) (by omega) hA hB ea em eb hd hF' _ _ rfl rfl q1 q2 q3 q4 z1 z2 z3 z4
        | exact c238y1110 ih P A1 A2 B1 B2 S a m b hf hhf (by omega) hN (by omega) (by omega) hA hB ea em eb hd hF' _ _ rfl rfl q1 q2 q3 q4 z1 z2 z3 z4
        | exact c238y0110 ih P A1 A2 B1 B2 S a m b hf hhf (by omega) hN (by omega) (by omega) hA hB ea em eb hd hF' _ _ rfl rfl q1 q2 q3 q4 z1 z2 z3 z4
        | exact c238y1001 ih P A1 A2 B1 B2 S a m b hf hhf (by omega) hN (by omega) (by omega) hA hB ea em eb hd hF' _ _ rfl rfl q1 q2 q3 q4 z1 z2 z3 z4
end Go.Proofs
