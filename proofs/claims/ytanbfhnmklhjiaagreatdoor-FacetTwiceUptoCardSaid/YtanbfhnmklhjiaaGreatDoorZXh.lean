/- Part of a proof about this program; no condition of its own. -/
import Derived.Test.YtanbfhnmklhjiaaGreatDoorZXa
set_option linter.all false
/- symMerge: the ways through its end. No condition. -/
namespace Go.Proofs
open Go Go.Ax Go.Tx Go.Lib Go.Shelf Go.RowKit Go.Fc
set_option maxRecDepth 100000
set_option maxHeartbeats 0
variable {Γ : List (Nat × List D)}
theorem c238x1101 {N : Nat} (ih : SmIH Γ N) (P A1 A2 B1 B2 S : List Bk) (a m b : Int) (hf : Nat) (hhf : hf = ((A1 ++ A2).length + (B1 ++ B2).length) / 2) (hs : hf = A1.length + B1.length) (hN : (A1 ++ A2).length + (B1 ++ B2).length ≤ N + 1) (hA2' : 2 ≤ (A1 ++ A2).length) (hB2' : 2 ≤ (B1 ++ B2).length) (hA : SrtT (A1 ++ A2)) (hB : SrtT (B1 ++ B2)) (ea : a = P.length) (em : m = (P.length + (A1 ++ A2).length : Nat)) (eb : b = (P.length + (A1 ++ A2).length + (B1 ++ B2).length : Nat)) (hd : (P ++ (A1 ++ A2) ++ (B1 ++ B2) ++ S).length ≤ 1000000)
    (hF : hf < (A1 ++ A2).length) (s0 r0 : Nat) (es0 : s0 = hf - (B1 ++ B2).length) (er0 : r0 = hf) (hs0 : s0 ≤ A1.length) (hr0 : A1.length ≤ r0) (hq : ∀ t, s0 ≤ t → t < A1.length → qS (A1 ++ A2) (B1 ++ B2) hf t = true) (hn : ∀ t, A1.length ≤ t → t < r0 → qS (A1 ++ A2) (B1 ++ B2) hf t = false) (hA1 : 0 < A1.length) (hA2 : 0 < A2.length) (hB1 : B1.length = 0) (hB2 : 0 < B2.length) :
    RFn Tryz.prog Γ 238 79 2 ((P ++ (A1 ++ A2) ++ (B1 ++ B2) ++ S).map Bk.ds) ((P ++ sortT (A1 ++ B1) ++ sortT (A2 ++ B2) ++ S).map Bk.ds) [.c (.d (.int .i64 a)), .c (.d (.int .i64 m)), .c (.d (.int .i64 b)), .c (.fn (FnSpec Tryz.prog Γ (cmpBk cfT)))] [] := by
  have lA : (A1 ++ A2).length = A1.length + A2.length := List.length_append
  have lB : (B1 ++ B2).length = B1.length + B2.length := List.length_append
  have hlen : P.length + (A1 ++ A2).length + (B1 ++ B2).length + S.length ≤ 1000000 := by simpa [Nat.add_assoc] using hd
  have sA1 : SrtT A1 := hA.sublist (List.sublist_append_left _ _)
  have sA2 : SrtT A2 := hA.sublist (List.sublist_append_right _ _)
  have sB1 : SrtT B1 := hB.sublist (List.sublist_append_left _ _)
  have sB2 : SrtT B2 := hB.sublist (List.sublist_append_right _ _)
  have len1 : (sortT (A1 ++ B1)).length = hf := by rw [sortT_len, List.length_append]; omega
  have emid : (a + b) / 2 = ((P.length + hf : Nat) : Int) := by omega
  obtain ⟨L0, hL0⟩ : ∃ L0, L0 = P ++ (A1 ++ A2) ++ (B1 ++ B2) ++ S := ⟨_, rfl⟩
  obtain ⟨L1, hL1⟩ : ∃ L1, L1 = P ++ A1 ++ B1 ++ A2 ++ B2 ++ S := ⟨_, rfl⟩
  obtain ⟨L2, hL2⟩ : ∃ L2, L2 = P ++ sortT (A1 ++ B1) ++ A2 ++ B2 ++ S := ⟨_, rfl⟩
  obtain ⟨T, hT⟩ : ∃ T, T = P ++ sortT (A1 ++ B1) ++ sortT (A2 ++ B2) ++ S := ⟨_, rfl⟩
  have e1 : L0 = L1 := by rw [hL0, hL1, List.eq_nil_of_length_eq_zero hB1]; simp only [List.append_assoc, List.append_nil, List.nil_append]
  have q2 : sortT (A1 ++ B1) = A1 ++ B1 := by rw [List.eq_nil_of_length_eq_zero hB1, List.append_nil]; exact sortT_eq (List.Perm.refl _) sA1
  have e2 : L1 = L2 := by rw [hL1, hL2, q2]; simp only [List.append_assoc]
  have f3 := ih (P ++ sortT (A1 ++ B1)) A2 B2 S L2 T ((a + b) / 2) ((a + b) / 2 + m - (a + (A1.length : Nat))) b (by rw [hL2]) (by rw [hT]) (by omega) (by omega) (by omega) sA2 sB2 (by rw [List.length_append]; omega) (by rw [List.length_append]; omega) (by rw [List.length_append]; omega) (by simp only [List.length_append]; omega)
  rw [← hL0, ← hT]
  have gA := fun (n t : Nat) (hn : n < L0.length) (ht : t < (A1 ++ A2).length) (e : n = P.length + t) => show L0[n] = (A1 ++ A2)[t] from by subst hL0; exact getA hn ht e
  have gB := fun (n t : Nat) (hn : n < L0.length) (ht : t < (B1 ++ B2).length) (e : n = P.length + (A1 ++ A2).length + t) => show L0[n] = (B1 ++ B2)[t] from by subst hL0; exact getB hn ht e
  have l0 : L0.length = P.length + (A1 ++ A2).length + (B1 ++ B2).length + S.length := by rw [hL0]; simp only [List.length_append]
  clear hL0 hL1 hL2 hT
  refine RFn.vc [1000011, 1000023] Tryz.func238 rfl Tryz.mixed (by kernel_rfl) Tryz.ntmps238 Tryz.results238 (by simp) bk_len (bks_scal _) rfl bk_len ?_
  push_cast
  refine ⟨by omega, fun k1 => by omega, fun _ => ⟨by omega, fun k1 => by omega, fun _ => ?_⟩⟩
  refine ⟨by omega, by omega, by omega, by omega, fun k2 => ⟨by omega, by omega, ?_⟩, fun k2 => absurd k2 (by omega)⟩
  refine LoopV.of Tryz.mixed [0, 1, 2, 3, 4, 18, 19, 22] (S := Nat × Nat) (fun s => [(20, .c (.d (.int .i64 (a + s.1)))), (21, .c (.d (.int .i64 (a + s.2))))]) (fun _ => [.row 79 2 (L0.map Bk.ds) 0])
    (fun s => s0 ≤ s.1 ∧ s.1 ≤ s.2 ∧ s.2 ≤ r0 ∧ (∀ t, s0 ≤ t → t < s.1 → qS (A1 ++ A2) (B1 ++ B2) hf t = true) ∧ ∀ t, s.2 ≤ t → t < r0 → qS (A1 ++ A2) (B1 ++ B2) hf t = false) (fun s => s.2 - s.1) (s0, r0) ⟨Nat.le_refl _, Nat.le_trans hs0 hr0, Nat.le_refl _, fun t h1 h2 => by simp only at h2; omega, fun t h1 h2 => by simp only at h1; omega⟩ (by push_cast; omega) ?_
  rintro ⟨i, j⟩ ⟨g0, g1, g2, g3, g4⟩
  simp only at g0 g1 g2 g3 g4
  push_cast
  have eh : (a + (i : Int) + (a + (j : Int))) / 2 = a + ((i + j) / 2 : Nat) := by omega
  refine ⟨fun k3 => ?_, fun k3 => ?_⟩
  · obtain ⟨h, hh⟩ : ∃ h, h = (i + j) / 2 := ⟨_, rfl⟩
    rw [← hh] at eh
    have hA' : h < (A1 ++ A2).length := by omega
    have hB' : hf - 1 - h < (B1 ++ B2).length := by omega
    simp only [eh]
    have ep : ((a + b) / 2 + m - 1 - (a + (h : Int))).toNat = P.length + (A1 ++ A2).length + (hf - 1 - h) := by omega
    have eq0 : (a + (h : Int)).toNat = P.length + h := by omega
    have q1 : ((a + b) / 2 + m - 1 - (a + (h : Int))).toNat < L0.length := by omega
    have q2 : (a + (h : Int)).toNat < L0.length := by omega
    have e1 := gB _ _ q1 hB' ep
    have e2 := gA _ _ q2 hA' eq0
    refine ⟨by omega, by omega, by omega, by omega, by omega, by omega, by omega, by omega, ?_⟩
    refine CallX.fn _ _ ⟨L0[((a + b) / 2 + m - 1 - (a + (h : Int))).toNat], L0[(a + (h : Int)).toNat], rfl, rfl⟩ ?_
    push_cast
    rw [e1, e2]
    have hqq : qS (A1 ++ A2) (B1 ++ B2) hf h = !ltT (B1 ++ B2)[hf - 1 - h] (A1 ++ A2)[h] := by unfold qS; rw [getD_at hB', getD_at hA']
    refine ⟨fun k4 => ?_, fun k4 => ?_⟩
    · have k5 : qS (A1 ++ A2) (B1 ++ B2) hf h = true := by rw [hqq]; unfold ltT; rw [decide_eq_false (by omega)]; rfl
      exact ⟨by omega, (h + 1, j), ⟨⟨by show _ ≤ h + 1; omega, by show h + 1 ≤ j; omega, g2, fun t a1 a2 => by
        simp only at a2
        exact qS_mono hA hB (show t ≤ h by omega) hA' (by omega) (by omega) k5, g4⟩, by show j - (h + 1) < j - i; omega⟩, by show a + ((h + 1 : Nat) : Int) = _; omega, rfl⟩
    · have k5 : qS (A1 ++ A2) (B1 ++ B2) hf h = false := by rw [hqq]; unfold ltT; rw [decide_eq_true k4]; rfl
      exact ⟨(i, h), ⟨⟨g0, by show i ≤ h; omega, by show h ≤ _; omega, g3, fun t a1 a2 => by
        simp only at a1
        cases hqt : qS (A1 ++ A2) (B1 ++ B2) hf t with
        | false => rfl
        | true => rw [qS_mono hA hB a1 (by omega) (by omega) (by omega) hqt] at k5; cases k5⟩, by show h - i < j - i; omega⟩, rfl, by show a + (h : Int) = _; omega⟩
  · have hij : i = j := by omega
    subst hij
    have ei : i = A1.length := by
      rcases Nat.lt_trichotomy i A1.length with h | h | h
      · have := hq i g0 h; rw [g4 i (Nat.le_refl _) (by omega)] at this; cases this
      · exact h
      · have := hn A1.length (Nat.le_refl _) (by omega); rw [g3 A1.length hs0 h] at this; cases this
    subst ei
    clear g0 g1 g2 g3 g4 hq hn gA gB eh
    refine ⟨by omega, fun _ => ⟨fun k => absurd k (by omega), fun _ => ?_⟩, fun k => absurd k (by omega)⟩
    rw [e1]
    refine ⟨fun _ => ⟨fun k => absurd k (by omega), fun _ => ?_⟩, fun k => absurd k (by omega)⟩
    rw [e2]
    refine ⟨fun _ => ⟨fun _ => ?_, fun k => absurd k (by omega)⟩, fun k => absurd k (by omega)⟩
    refine CallL.rfn (j := 0) (ver := 0) f3 ?_
    push_cast
theorem c238x1110 {N : Nat} (ih : SmIH Γ N) (P A1 A2 B1 B2 S : List Bk) (a m b : Int) (hf : Nat) (hhf : hf = ((A1 ++ A2).length + (B1 ++ B2).length) / 2) (hs : hf = A1.length + B1.length) (hN : (A1 ++ A2).length + (B1 ++ B2).length ≤ N + 1) (hA2' : 2 ≤ (A1 ++ A2).length) (hB2' : 2 ≤ (B1 ++ B2).length) (hA : SrtT (A1 ++ A2)) (hB : SrtT (B1 ++ B2)) (ea : a = P.length) (em : m = (P.length + (A1 ++ A2).length : Nat)) (eb : b = (P.length + (A1 ++ A2).length + (B1 ++ B2).length : Nat)) (hd : (P ++ (A1 ++ A2) ++ (B1 ++ B2) ++ S).length ≤ 1000000)
    (hF : hf < (A1 ++ A2).length) (s0 r0 : Nat) (es0 : s0 = hf - (B1 ++ B2).length) (er0 : r0 = hf) (hs0 : s0 ≤ A1.length) (hr0 : A1.length ≤ r0) (hq : ∀ t, s0 ≤ t → t < A1.length → qS (A1 ++ A2) (B1 ++ B2) hf t = true) (hn : ∀ t, A1.length ≤ t → t < r0 → qS (A1 ++ A2) (B1 ++ B2) hf t = false) (hA1 : 0 < A1.length) (hA2 : 0 < A2.length) (hB1 : 0 < B1.length) (hB2 : B2.length = 0) :
    RFn Tryz.prog Γ 238 79 2 ((P ++ (A1 ++ A2) ++ (B1 ++ B2) ++ S).map Bk.ds) ((P ++ sortT (A1 ++ B1) ++ sortT (A2 ++ B2) ++ S).map Bk.ds) [.c (.d (.int .i64 a)), .c (.d (.int .i64 m)), .c (.d (.int .i64 b)), .c (.fn (FnSpec Tryz.prog Γ (cmpBk cfT)))] [] := by
  have lA : (A1 ++ A2).length = A1.length + A2.length := List.length_append
  have lB : (B1 ++ B2).length = B1.length + B2.length := List.length_append
  have hlen : P.length + (A1 ++ A2).length + (B1 ++ B2).length + S.length ≤ 1000000 := by simpa [Nat.add_assoc] using hd
  have sA1 : SrtT A1 := hA.sublist (List.sublist_append_left _ _)
  have sA2 : SrtT A2 := hA.sublist (List.sublist_append_right _ _)
  have sB1 : SrtT B1 := hB.sublist (List.sublist_append_left _ _)
  have sB2 : SrtT B2 := hB.sublist (List.sublist_append_right _ _)
  have len1 : (sortT (A1 ++ B1)).length = hf := by rw [sortT_len, List.length_append]; omega
  have emid : (a + b) / 2 = ((P.length + hf : Nat) : Int) := by omega
  obtain ⟨L0, hL0⟩ : ∃ L0, L0 = P ++ (A1 ++ A2) ++ (B1 ++ B2) ++ S := ⟨_, rfl⟩
  obtain ⟨L1, hL1⟩ : ∃ L1, L1 = P ++ A1 ++ B1 ++ A2 ++ B2 ++ S := ⟨_, rfl⟩
  obtain ⟨L2, hL2⟩ : ∃ L2, L2 = P ++ sortT (A1 ++ B1) ++ A2 ++ B2 ++ S := ⟨_, rfl⟩
  obtain ⟨T, hT⟩ : ∃ T, T = P ++ sortT (A1 ++ B1) ++ sortT (A2 ++ B2) ++ S := ⟨_, rfl⟩
  have f1 := c270L (Γ := Γ) cfT (P ++ A1) A2 B1 (B2 ++ S) L0 L1 (a + (A1.length : Nat)) m ((a + b) / 2 + m - (a + (A1.length : Nat))) (by rw [hL0]; simp only [List.append_assoc]) (by rw [hL1]; simp only [List.append_assoc]) (by omega) (by omega) (by rw [List.length_append]; omega) (by rw [List.length_append]; omega) (by rw [List.length_append]; omega) (by simp only [List.length_append]; omega)
  have f2 := ih P A1 B1 (A2 ++ B2 ++ S) L1 L2 a (a + (A1.length : Nat)) ((a + b) / 2) (by rw [hL1]; simp only [List.append_assoc]) (by rw [hL2]; simp only [List.append_assoc]) (by omega) (by omega) (by omega) sA1 sB1 ea (by omega) (by omega) (by simp only [List.length_append]; omega)
  have q3 : sortT (A2 ++ B2) = A2 ++ B2 := by rw [List.eq_nil_of_length_eq_zero hB2, List.append_nil]; exact sortT_eq (List.Perm.refl _) sA2
  have e3 : L2 = T := by rw [hL2, hT, q3]; simp only [List.append_assoc]
  rw [← hL0, ← hT]
  have gA := fun (n t : Nat) (hn : n < L0.length) (ht : t < (A1 ++ A2).length) (e : n = P.length + t) => show L0[n] = (A1 ++ A2)[t] from by subst hL0; exact getA hn ht e
  have gB := fun (n t : Nat) (hn : n < L0.length) (ht : t < (B1 ++ B2).length) (e : n = P.length + (A1 ++ A2).length + t) => show L0[n] = (B1 ++ B2)[t] from by subst hL0; exact getB hn ht e
  have l0 : L0.length = P.length + (A1 ++ A2).length + (B1 ++ B2).length + S.length := by rw [hL0]; simp only [List.length_append]
  clear hL0 hL1 hL2 hT
  refine RFn.vc [1000011, 1000023] Tryz.func238 rfl Tryz.mixed (by kernel_rfl) Tryz.ntmps238 Tryz.results238 (by simp) bk_len (bks_scal _) rfl bk_len ?_
  push_cast
  refine ⟨by omega, fun k1 => by omega, fun _ => ⟨by omega, fun k1 => by omega, fun _ => ?_⟩⟩
  refine ⟨by omega, by omega, by omega, by omega, fun k2 => ⟨by omega, by omega, ?_⟩, fun k2 => absurd k2 (by omega)⟩
  refine LoopV.of Tryz.mixed [0, 1, 2, 3, 4, 18, 19, 22] (S := Nat × Nat) (fun s => [(20, .c (.d (.int .i64 (a + s.1)))), (21, .c (.d (.int .i64 (a + s.2))))]) (fun _ => [.row 79 2 (L0.map Bk.ds) 0])
    (fun s => s0 ≤ s.1 ∧ s.1 ≤ s.2 ∧ s.2 ≤ r0 ∧ (∀ t, s0 ≤ t → t < s.1 → qS (A1 ++ A2) (B1 ++ B2) hf t = true) ∧ ∀ t, s.2 ≤ t → t < r0 → qS (A1 ++ A2) (B1 ++ B2) hf t = false) (fun s => s.2 - s.1) (s0, r0) ⟨Nat.le_refl _, Nat.le_trans hs0 hr0, Nat.le_refl _, fun t h1 h2 => by simp only at h2; omega, fun t h1 h2 => by simp only at h1; omega⟩ (by push_cast; omega) ?_
  rintro ⟨i, j⟩ ⟨g0, g1, g2, g3, g4⟩
  simp only at g0 g1 g2 g3 g4
  push_cast
  have eh : (a + (i : Int) + (a + (j : Int))) / 2 = a + ((i + j) / 2 : Nat) := by omega
  refine ⟨fun k3 => ?_, fun k3 => ?_⟩
  · obtain ⟨h, hh⟩ : ∃ h, h = (i + j) / 2 := ⟨_, rfl⟩
    rw [← hh] at eh
    have hA' : h < (A1 ++ A2).length := by omega
    have hB' : hf - 1 - h < (B1 ++ B2).length := by omega
    simp only [eh]
    have ep : ((a + b) / 2 + m - 1 - (a + (h : Int))).toNat = P.length + (A1 ++ A2).length + (hf - 1 - h) := by omega
    have eq0 : (a + (h : Int)).toNat = P.length + h := by omega
    have q1 : ((a + b) / 2 + m - 1 - (a + (h : Int))).toNat < L0.length := by omega
    have q2 : (a + (h : Int)).toNat < L0.length := by omega
    have e1 := gB _ _ q1 hB' ep
    have e2 := gA _ _ q2 hA' eq0
    refine ⟨by omega, by omega, by omega, by omega, by omega, by omega, by omega, by omega, ?_⟩
    refine CallX.fn _ _ ⟨L0[((a + b) / 2 + m - 1 - (a + (h : Int))).toNat], L0[(a + (h : Int)).toNat], rfl, rfl⟩ ?_
    push_cast
    rw [e1, e2]
    have hqq : qS (A1 ++ A2) (B1 ++ B2) hf h = !ltT (B1 ++ B2)[hf - 1 - h] (A1 ++ A2)[h] := by unfold qS; rw [getD_at hB', getD_at hA']
    refine ⟨fun k4 => ?_, fun k4 => ?_⟩
    · have k5 : qS (A1 ++ A2) (B1 ++ B2) hf h = true := by rw [hqq]; unfold ltT; rw [decide_eq_false (by omega)]; rfl
      exact ⟨by omega, (h + 1, j), ⟨⟨by show _ ≤ h + 1; omega, by show h + 1 ≤ j; omega, g2, fun t a1 a2 => by
        simp only at a2
        exact qS_mono hA hB (show t ≤ h by omega) hA' (by omega) (by omega) k5, g4⟩, by show j - (h + 1) < j - i; omega⟩, by show a + ((h + 1 : Nat) : Int) = _; omega, rfl⟩
    · have k5 : qS (A1 ++ A2) (B1 ++ B2) hf h = false := by rw [hqq]; unfold ltT; rw [decide_eq_true k4]; rfl
      exact ⟨(i, h), ⟨⟨g0, by show i ≤ h; omega, by show h ≤ _; omega, g3, fun t a1 a2 => by
        simp only at a1
        cases hqt : qS (A1 ++ A2) (B1 ++ B2) hf t with
        | false => rfl
        | true => rw [qS_mono hA hB a1 (by omega) (by omega) (by omega) hqt] at k5; cases k5⟩, by show h - i < j - i; omega⟩, rfl, by show a + (h : Int) = _; omega⟩
  · have hij : i = j := by omega
    subst hij
    have ei : i = A1.length := by
      rcases Nat.lt_trichotomy i A1.length with h | h | h
      · have := hq i g0 h; rw [g4 i (Nat.le_refl _) (by omega)] at this; cases this
      · exact h
      · have := hn A1.length (Nat.le_refl _) (by omega); rw [g3 A1.length hs0 h] at this; cases this
    subst ei
    clear g0 g1 g2 g3 g4 hq hn gA gB eh
    refine ⟨by omega, fun _ => ⟨fun _ => ?_, fun k => absurd k (by omega)⟩, fun k => absurd k (by omega)⟩
    refine CallL.rfn (j := 0) (ver := 0) f1 ?_
    push_cast
    refine ⟨fun _ => ⟨fun _ => ?_, fun k => absurd k (by omega)⟩, fun k => absurd k (by omega)⟩
    refine CallL.rfn (j := 0) (ver := 0) f2 ?_
    push_cast
    refine ⟨fun _ => ⟨fun k => absurd k (by omega), fun _ => ?_⟩, fun k => absurd k (by omega)⟩
    rw [e3]
theorem c238x1111 {N : Nat} (ih : SmIH Γ N) (P A1 A2 B1 B2 S : List Bk) (a m b : Int) (hf : Nat) (hhf : hf = ((A1 ++ A2).length + (B1 ++ B2).length) / 2) (hs : hf = A1.length + B1.length) (hN : (A1 ++ A2).length + (B1 ++ B2).length ≤ N + 1) (hA2' : 2 ≤ (A1 ++ A2).length) (hB2' : 2 ≤ (B1 ++ B2).length) (hA : SrtT (A1 ++ A2)) (hB : SrtT (B1 ++ B2)) (ea : a = P.length) (em : m = (P.length + (A1 ++ A2).length : Nat)) (eb : b = (P.length + (A1 ++ A2).length + (B1 ++ B2).length : Nat)) (hd : (P ++ (A1 ++ A2) ++ (B1 ++ B2) ++ S).length ≤ 1000000)
    (hF : hf < (A1 ++ A2).length) (s0 r0 : Nat) (es0 : s0 = hf - (B1 ++ B2).length) (er0 : r0 = hf) (hs0 : s0 ≤ A1.length) (hr0 : A1.length ≤ r0) (hq : ∀ t, s0 ≤ t → t < A1.length → qS (A1 ++ A2) (B1 ++ B2) hf t = true) (hn : ∀ t, A1.length ≤ t → t < r0 → qS (A1 ++ A2) (B1 ++ B2) hf t = false) (hA1 : 0 < A1.length) (hA2 : 0 < A2.length) (hB1 : 0 < B1.length) (hB2 : 0 < B2.length) :
    RFn Tryz.prog Γ 238 79 2 ((P ++ (A1 ++ A2) ++ (B1 ++ B2) ++ S).map Bk.ds) ((P ++ sortT (A1 ++ B1) ++ sortT (A2 ++ B2) ++ S).map Bk.ds) [.c (.d (.int .i64 a)), .c (.d (.int .i64 m)), .c (.d (.int .i64 b)), .c (.fn (FnSpec Tryz.prog Γ (cmpBk cfT)))] [] := by
  have lA : (A1 ++ A2).length = A1.length + A2.length := List.length_append
  have lB : (B1 ++ B2).length = B1.length + B2.length := List.length_append
  have hlen : P.length + (A1 ++ A2).length + (B1 ++ B2).length + S.length ≤ 1000000 := by simpa [Nat.add_assoc] using hd
  have sA1 : SrtT A1 := hA.sublist (List.sublist_append_left _ _)
  have sA2 : SrtT A2 := hA.sublist (List.sublist_append_right _ _)
  have sB1 : SrtT B1 := hB.sublist (List.sublist_append_left _ _)
  have sB2 : SrtT B2 := hB.sublist (List.sublist_append_right _ _)
  have len1 : (sortT (A1 ++ B1)).length = hf := by rw [sortT_len, List.length_append]; omega
  have emid : (a + b) / 2 = ((P.length + hf : Nat) : Int) := by omega
  obtain ⟨L0, hL0⟩ : ∃ L0, L0 = P ++ (A1 ++ A2) ++ (B1 ++ B2) ++ S := ⟨_, rfl⟩
  obtain ⟨L1, hL1⟩ : ∃ L1, L1 = P ++ A1 ++ B1 ++ A2 ++ B2 ++ S := ⟨_, rfl⟩
  obtain ⟨L2, hL2⟩ : ∃ L2, L2 = P ++ sortT (A1 ++ B1) ++ A2 ++ B2 ++ S := ⟨_, rfl⟩
  obtain ⟨T, hT⟩ : ∃ T, T = P ++ sortT (A1 ++ B1) ++ sortT (A2 ++ B2) ++ S := ⟨_, rfl⟩
  have f1 := c270L (Γ := Γ) cfT (P ++ A1) A2 B1 (B2 ++ S) L0 L1 (a + (A1.length : Nat)) m ((a + b) / 2 + m - (a + (A1.length : Nat))) (by rw [hL0]; simp only [List.append_assoc]) (by rw [hL1]; simp only [List.append_assoc]) (by omega) (by omega) (by rw [List.length_append]; omega) (by rw [List.length_append]; omega) (by rw [List.length_append]; omega) (by simp only [List.length_append]; omega)
  have f2 := ih P A1 B1 (A2 ++ B2 ++ S) L1 L2 a (a + (A1.length : Nat)) ((a + b) / 2) (by rw [hL1]; simp only [List.append_assoc]) (by rw [hL2]; simp only [List.append_assoc]) (by omega) (by omega) (by omega) sA1 sB1 ea (by omega) (by omega) (by simp only [List.length_append]; omega)
  have f3 := ih (P ++ sortT (A1 ++ B1)) A2 B2 S L2 T ((a + b) / 2) ((a + b) / 2 + m - (a + (A1.length : Nat))) b (by rw [hL2]) (by rw [hT]) (by omega) (by omega) (by omega) sA2 sB2 (by rw [List.length_append]; omega) (by rw [List.length_append]; omega) (by rw [List.length_append]; omega) (by simp only [List.length_append]; omega)
  rw [← hL0, ← hT]
  have gA := fun (n t : Nat) (hn : n < L0.length) (ht : t < (A1 ++ A2).length) (e : n = P.length + t) => show L0[n] = (A1 ++ A2)[t] from by subst hL0; exact getA hn ht e
  have gB := fun (n t : Nat) (hn : n < L0.length) (ht : t < (B1 ++ B2).length) (e : n = P.length + (A1 ++ A2).length + t) => show L0[n] = (B1 ++ B2)[t] from by subst hL0; exact getB hn ht e
  have l0 : L0.length = P.length + (A1 ++ A2).length + (B1 ++ B2).length + S.length := by rw [hL0]; simp only [List.length_append]
  clear hL0 hL1 hL2 hT
  refine RFn.vc [1000011, 1000023] Tryz.func238 rfl Tryz.mixed (by kernel_rfl) Tryz.ntmps238 Tryz.results238 (by simp) bk_len (bks_scal _) rfl bk_len ?_
  push_cast
  refine ⟨by omega, fun k1 => by omega, fun _ => ⟨by omega, fun k1 => by omega, fun _ => ?_⟩⟩
  refine ⟨by omega, by omega, by omega, by omega, fun k2 => ⟨by omega, by omega, ?_⟩, fun k2 => absurd k2 (by omega)⟩
  refine LoopV.of Tryz.mixed [0, 1, 2, 3, 4, 18, 19, 22] (S := Nat × Nat) (fun s => [(20, .c (.d (.int .i64 (a + s.1)))), (21, .c (.d (.int .i64 (a + s.2))))]) (fun _ => [.row 79 2 (L0.map Bk.ds) 0])
    (fun s => s0 ≤ s.1 ∧ s.1 ≤ s.2 ∧ s.2 ≤ r0 ∧ (∀ t, s0 ≤ t → t < s.1 → qS (A1 ++ A2) (B1 ++ B2) hf t = true) ∧ ∀ t, s.2 ≤ t → t < r0 → qS (A1 ++ A2) (B1 ++ B2) hf t = false) (fun s => s.2 - s.1) (s0, r0) ⟨Nat.le_refl _, Nat.le_trans hs0 hr0, Nat.le_refl _, fun t h1 h2 => by simp only at h2; omega, fun t h1 h2 => by simp only at h1; omega⟩ (by push_cast; omega) ?_
  rintro ⟨i, j⟩ ⟨g0, g1, g2, g3, g4⟩
  simp only at g0 g1 g2 g3 g4
  push_cast
  have eh : (a + (i : Int) + (a + (j : Int))) / 2 = a + ((i + j) / 2 : Nat) := by omega
  refine ⟨fun k3 => ?_, fun k3 => ?_⟩
  · obtain ⟨h, hh⟩ : ∃ h, h = (i + j) / 2 := ⟨_, rfl⟩
    rw [← hh] at eh
    have hA' : h < (A1 ++ A2).length := by omega
    have hB' : hf - 1 - h < (B1 ++ B2).length := by omega
    simp only [eh]
    have ep : ((a + b) / 2 + m - 1 - (a + (h : Int))).toNat = P.length + (A1 ++ A2).length + (hf - 1 - h) := by omega
    have eq0 : (a + (h : Int)).toNat = P.length + h := by omega
    have q1 : ((a + b) / 2 + m - 1 - (a + (h : Int))).toNat < L0.length := by omega
    have q2 : (a + (h : Int)).toNat < L0.length := by omega
    have e1 := gB _ _ q1 hB' ep
    have e2 := gA _ _ q2 hA' eq0
    refine ⟨by omega, by omega, by omega, by omega, by omega, by omega, by omega, by omega, ?_⟩
    refine CallX.fn _ _ ⟨L0[((a + b) / 2 + m - 1 - (a + (h : Int))).toNat], L0[(a + (h : Int)).toNat], rfl, rfl⟩ ?_
    push_cast
    rw [e1, e2]
    have hqq : qS (A1 ++ A2) (B1 ++ B2) hf h = !ltT (B1 ++ B2)[hf - 1 - h] (A1 ++ A2)[h] := by unfold qS; rw [getD_at hB', getD_at hA']
    refine ⟨fun k4 => ?_, fun k4 => ?_⟩
    · have k5 : qS (A1 ++ A2) (B1 ++ B2) hf h = true := by rw [hqq]; unfold ltT; rw [decide_eq_false (by omega)]; rfl
      exact ⟨by omega, (h + 1, j), ⟨⟨by show _ ≤ h + 1; omega, by show h + 1 ≤ j; omega, g2, fun t a1 a2 => by
        simp only at a2
        exact qS_mono hA hB (show t ≤ h by omega) hA' (by omega) (by omega) k5, g4⟩, by show j - (h + 1) < j - i; omega⟩, by show a + ((h + 1 : Nat) : Int) = _; omega, rfl⟩
    · have k5 : qS (A1 ++ A2) (B1 ++ B2) hf h = false := by rw [hqq]; unfold ltT; rw [decide_eq_true k4]; rfl
      exact ⟨(i, h), ⟨⟨g0, by show i ≤ h; omega, by show h ≤ _; omega, g3, fun t a1 a2 => by
        simp only at a1
        cases hqt : qS (A1 ++ A2) (B1 ++ B2) hf t with
        | false => rfl
        | true => rw [qS_mono hA hB a1 (by omega) (by omega) (by omega) hqt] at k5; cases k5⟩, by show h - i < j - i; omega⟩, rfl, by show a + (h : Int) = _; omega⟩
  · have hij : i = j := by omega
    subst hij
    have ei : i = A1.length := by
      rcases Nat.lt_trichotomy i A1.length with h | h | h
      · have := hq i g0 h; rw [g4 i (Nat.le_refl _) (by omega)] at this; cases this
      · exact h
      · have := hn A1.length (Nat.le_refl _) (by omega); rw [g3 A1.length hs0 h] at this; cases this
    subst ei
    clear g0 g1 g2 g3 g4 hq hn gA gB eh
    refine ⟨by omega, fun _ => ⟨fun _ => ?_, fun k => absurd k (by omega)⟩, fun k => absurd k (by omega)⟩
    refine CallL.rfn (j := 0) (ver := 0) f1 ?_
    push_cast
    refine ⟨fun _ => ⟨fun _ => ?_, fun k => absurd k (by omega)⟩, fun k => absurd k (by omega)⟩
    refine CallL.rfn (j := 0) (ver := 0) f2 ?_
    push_cast
    refine ⟨fun _ => ⟨fun _ => ?_, fun k => absurd k (by omega)⟩, fun k => absurd k (by omega)⟩
    refine CallL.rfn (j := 0) (ver := 0) f3 ?_
    push_cast
end Go.Proofs
