/- Part of a proof about this program; no condition of its own. -/
import Derived.Test.YtglonmggpbajgaaDoorST
import Derived.Test.YtglonmggpbajgaaDoorGyA
import Derived.Test.YtglonmggpbajgaaDoorGxR
set_option linter.all false
/- Walks of the chapter on statistics: days and dates. -/
namespace Go.Proofs
open Go Go.Ax Go.Sd
set_option maxRecDepth 100000
variable {Γ : List (Nat × List D)}

theorem c42 (day : Int) : AFn Tryd.prog Γ 42 [.c (.d (.int .i64 day))] [.d (.bool (inD day))] := by
  refine AFn.vc [] Tryd.func42 rfl Tryd.mixed (by kernel_rfl) Tryd.ntmps42 Tryd.results42 (by simp) ?_
  push_cast
  refine ⟨fun h => ?_, fun h => ?_⟩ <;> simp [h, inD]
  omega
theorem c45 (day : Int) : AFn Tryd.prog Γ 45 [.c (.d (.int .i64 day))] [.d (.bool (inD day))] := by
  refine AFn.vc [] Tryd.func45 rfl Tryd.mixed (by kernel_rfl) Tryd.ntmps45 Tryd.results45 (by simp) ?_
  push_cast
  refine ⟨fun h => ?_, fun h => ?_⟩ <;> simp [h, inD]
  omega
theorem c57 (k : Nat) : AFn Tryd.prog Γ 57 [.c (.d (.int .i64 (1900 + (k : Int))))] [.d (.bool (leapK k))] := by
  refine AFn.vc [] Tryd.func57 rfl Tryd.mixed (by kernel_rfl) Tryd.ntmps57 Tryd.results57 (by simp) ?_
  push_cast
  unfold leapK
  refine ⟨by omega, fun h => ⟨by omega, fun h1 => ⟨by omega, ?_⟩, fun h1 => ?_⟩, fun h => ?_⟩
  all_goals rw [Bool.eq_iff_iff]; simp; omega
theorem c43 (k : Nat) (hk : k ≤ 300) : AFn Tryd.prog Γ 43 [.c (.d (.int .i64 (1900 + (k : Int))))] [.d (.int .i64 (ny k))] := by
  refine AFn.vc [] Tryd.func43 rfl Tryd.mixed (by kernel_rfl) Tryd.ntmps43 Tryd.results43 (by simp) ?_
  push_cast
  have h1 := ny_le k
  refine ⟨by omega, by omega, ?_⟩
  refine LoopV.of Tryd.mixed [0] (S := Nat) (fun j => [(4, .c (.d (.int .i64 (365 * k + ny j - 365 * j)))), (5, .c (.d (.int .i64 (1900 + (j : Int)))))]) (fun _ => []) (fun j => j ≤ k) (fun j => k - j) 0 (Nat.zero_le _) (by push_cast; simp [ny]; omega) ?_
  intro j hj
  have h2 := ny_le j
  have h3 := ny_ge j
  push_cast
  refine ⟨fun h => ?_, fun h => ?_⟩
  · refine CallL.q (c57 j) ?_
    push_cast
    refine ⟨fun h4 => ⟨by omega, by omega, j + 1, ⟨by omega, by omega⟩, ?_⟩, fun h4 => ⟨by omega, j + 1, ⟨by omega, by omega⟩, ?_⟩⟩
    · simp only [ny, b2, h4, if_true]; push_cast; omega
    · simp only [ny, b2, h4]; simp; omega
  · have : j = k := by omega
    subst this
    omega
theorem c44 (k m : Nat) (h1 : 1 ≤ m) (h2 : m ≤ 12) : AFn Tryd.prog Γ 44 [.c (.d (.int .i64 (1900 + (k : Int)))), .c (.d (.int .i64 m))] [.d (.int .i64 (bef (leapK k) m))] := by
  refine AFn.vc [] Tryd.func44 rfl Tryd.mixed (by kernel_rfl) Tryd.ntmps44 Tryd.results44 (by simp) ?_
  have : m = 1 ∨ m = 2 ∨ m = 3 ∨ m = 4 ∨ m = 5 ∨ m = 6 ∨ m = 7 ∨ m = 8 ∨ m = 9 ∨ m = 10 ∨ m = 11 ∨ m = 12 := by omega
  rcases this with rfl | rfl | rfl | rfl | rfl | rfl | rfl | rfl | rfl | rfl | rfl | rfl
  all_goals push_cast
  all_goals first
    | (simp [bef, bm]; done)
    | (refine CallL.q (c57 k) ?_
       push_cast
       refine ⟨fun h => ?_, fun h => ?_⟩ <;> simp [bef, bm, b2, h])
theorem c30n (day : Int) (h : inD day = false) : AFn Tryd.prog Γ 30 [.c (.d (.int .i64 day))] [.d (.int .i64 0), .d (.int .i64 0), .d (.int .i64 0), .d (.int .i64 2)] := by
  refine AFn.vc [] Tryd.func30 rfl Tryd.mixed (by kernel_rfl) Tryd.ntmps30 Tryd.results30 (by simp) ?_
  push_cast
  refine CallL.q (c42 day) ?_
  push_cast
  rw [h]
  push_cast
theorem c31n (day : Int) (h : inD day = false) : AFn Tryd.prog Γ 31 [.c (.d (.int .i64 day))] [.d (.int .i64 0), .d (.int .i64 0), .d (.int .i64 0), .d (.int .i64 2)] := by
  refine AFn.vc [] Tryd.func31 rfl Tryd.mixed (by kernel_rfl) Tryd.ntmps31 Tryd.results31 (by simp) ?_
  push_cast
  refine CallL.q (c45 day) ?_
  push_cast
  rw [h]
  push_cast
theorem isP_le {day k m d : Nat} (h : IsP day k m d) : day ≤ 109572 := by
  have := h.hk
  have h1 := ny_mono (a := k + 1) (b := 300) (by omega)
  rw [ny300] at h1
  have := h.y2
  omega
theorem isP_inD {day k m d : Nat} (h : IsP day k m d) : inD day = true := by
  have := isP_le h
  simp [inD]
  omega
theorem c30 (day : Nat) {k m d : Nat} (h : IsP day k m d) : AFn Tryd.prog Γ 30 [.c (.d (.int .i64 day))] [.d (.int .i64 (1900 + (k : Int))), .d (.int .i64 m), .d (.int .i64 d), .d (.int .i64 0)] := by
  refine AFn.vc [] Tryd.func30 rfl Tryd.mixed (by kernel_rfl) Tryd.ntmps30 Tryd.results30 (by simp) ?_
  push_cast
  refine CallL.q (c42 day) ?_
  push_cast
  rw [isP_inD h]
  have hd := isP_le h
  have hk := h.hk
  have y1 := h.y1
  have y2 := h.y2
  push_cast
  refine ⟨by omega, by omega, ?_⟩
  refine LoopV.of Tryd.mixed [0] (S := Nat) (fun j => [(6, .c (.d (.int .i64 (1900 + (j : Int)))))]) (fun _ => []) (fun j => j ≤ k) (fun j => k - j) (day / 366) ?_ (by push_cast) ?_
  · rcases Nat.lt_or_ge k (day / 366) with hlt | hge
    · have a := ny_mono (a := k + 1) (b := day / 366) hlt
      have b := ny_le (day / 366)
      omega
    · exact hge
  intro j hj
  push_cast
  have e : (1900 + (j : Int) + 1) = 1900 + ((j + 1 : Nat) : Int) := by omega
  have hjk : ∀ n, n ≤ day → n = ny (j + 1) → j + 1 ≤ k := fun n hn he => by
    rcases Nat.lt_or_ge k (j + 1) with hlt | hge
    · have a := ny_mono (a := k + 1) (b := j + 1) hlt
      omega
    · exact hge
  have hjk2 : day < ny (j + 1) → j = k := fun hn => by
    rcases Nat.lt_or_ge j k with hlt | hge
    · have a := ny_mono (a := j + 1) (b := k) hlt
      omega
    · omega
  refine ⟨fun a => ⟨by omega, ?_⟩, fun a => ?_⟩
  rw [e]
  refine CallL.q (c43 (j + 1) (by omega)) ?_
  push_cast
  refine ⟨fun b => (have x := hjk _ (Int.ofNat_le.1 b) rfl; ⟨by omega, j + 1, ⟨x, by omega⟩, by omega⟩), fun b => ?_⟩
  all_goals
    obtain rfl : j = k := by first | omega | exact hjk2 (Int.ofNat_lt.1 b)
    refine CallL.q (c43 j (by omega)) ?_
    push_cast
    refine ⟨by omega, ?_⟩
    refine LoopV.of Tryd.mixed [6, 7] (S := Nat) (fun i => [(8, .c (.d (.int .i64 i)))]) (fun _ => []) (fun i => m ≤ i ∧ i ≤ 12) (fun i => i) 12 ⟨h.m2, Nat.le_refl _⟩ (by push_cast) ?_
    intro i hi
    have m1 := h.m1
    have b1 := h.b1
    have b2 := h.b2
    push_cast
    refine CallL.q (c44 j i (by omega) hi.2) ?_
    push_cast
    refine ⟨fun c => ⟨by omega, i - 1, ⟨⟨?_, by omega⟩, by omega⟩, by omega⟩, fun c => ?_⟩
    · rcases Nat.lt_or_ge m i with hlt | hge
      · omega
      · have : i = m := by omega
        subst this
        omega
    · obtain rfl : i = m := by
        rcases Nat.lt_or_ge m i with hlt | hge
        · have x := bef_mono (leapK j) (a := m + 1) (b := i) hlt (by omega) (by omega)
          omega
        · omega
      refine CallL.q (c44 j i (by omega) hi.2) ?_
      push_cast
      have hd := h.hd
      refine ⟨by omega, by omega, ?_⟩
      omega
end Go.Proofs

/- Walks of the chapter on statistics: the reference's days and dates. -/
namespace Go.Proofs
open Go Go.Ax Go.Sd
set_option maxRecDepth 100000
variable {Γ : List (Nat × List D)}
theorem leapK_iff (k : Nat) (hk : k < 300) : leapK k = true ↔ ((1900 + (k : Int)) % 4 = 0 ∧ 1900 + (k : Int) ≠ 1900 ∧ 1900 + (k : Int) ≠ 2100) := by
  unfold leapK
  simp
  omega
def lenM (l : Bool) (m : Nat) : Nat := bef l (m + 1) - bef l m
theorem c47 (k m : Nat) (hk : k < 300) (h1 : 1 ≤ m) (h2 : m ≤ 12) : AFn Tryd.prog Γ 47 [.c (.d (.int .i64 (1900 + (k : Int)))), .c (.d (.int .i64 m))] [.d (.int .i64 (lenM (leapK k) m))] := by
  refine AFn.vc [] Tryd.func47 rfl Tryd.mixed (by kernel_rfl) Tryd.ntmps47 Tryd.results47 (by simp) ?_
  have hl := leapK_iff k hk
  have e1 : (1900 + (k : Int) < 1900) = False := eq_false (by omega)
  have e2 : ((2199 : Int) < 1900 + (k : Int)) = False := eq_false (by omega)
  have : m = 1 ∨ m = 2 ∨ m = 3 ∨ m = 4 ∨ m = 5 ∨ m = 6 ∨ m = 7 ∨ m = 8 ∨ m = 9 ∨ m = 10 ∨ m = 11 ∨ m = 12 := by omega
  rcases this with rfl | rfl | rfl | rfl | rfl | rfl | rfl | rfl | rfl | rfl | rfl | rfl
  all_goals push_cast [e1, e2]
  all_goals first
    | (clear hl; cases leapK k <;> rfl)
    | skip
  have f2 : lenM true 2 = 29 := rfl
  have f3 : lenM false 2 = 28 := rfl
  have hc : ¬ ((1900 + (k : Int)) % 4 = 0 ∧ 1900 + (k : Int) ≠ 1900 ∧ 1900 + (k : Int) ≠ 2100) → leapK k = false := fun hn => by
    cases hh : leapK k with
    | false => rfl
    | true => exact absurd (hl.1 hh) hn
  refine ⟨by omega, fun a => ⟨fun b => ⟨fun c => ?_, fun c => ?_⟩, fun b => ?_⟩, fun a => ?_⟩
  · rw [hl.2 ⟨a, b, c⟩, f2]; rfl
  · rw [hc (fun x => x.2.2 c), f3]; rfl
  · rw [hc (fun x => x.2.1 b), f3]; rfl
  · rw [hc (fun x => a x.1), f3]; rfl
theorem c46 (k : Nat) (hk : k < 300) : AFn Tryd.prog Γ 46 [.c (.d (.int .i64 (1900 + (k : Int))))] [.d (.int .i64 (365 + b2 (leapK k)))] := by
  refine AFn.vc [] Tryd.func46 rfl Tryd.mixed (by kernel_rfl) Tryd.ntmps46 Tryd.results46 (by simp) ?_
  push_cast
  refine CallL.q (c47 k 2 hk (by omega) (by omega)) ?_
  push_cast
  cases leapK k <;> simp [lenM, bef, bm, b2]
theorem c31 (day : Nat) {k m d : Nat} (h : IsP day k m d) : AFn Tryd.prog Γ 31 [.c (.d (.int .i64 day))] [.d (.int .i64 (1900 + (k : Int))), .d (.int .i64 m), .d (.int .i64 d), .d (.int .i64 0)] := by
  refine AFn.vc [] Tryd.func31 rfl Tryd.mixed (by kernel_rfl) Tryd.ntmps31 Tryd.results31 (by simp) ?_
  push_cast
  refine CallL.q (c45 day) ?_
  push_cast
  rw [isP_inD h]
  have hd := isP_le h
  have hk := h.hk
  have y1 := h.y1
  have y2 := h.y2
  push_cast
  refine LoopV.of Tryd.mixed [7] (S := Nat) (fun j => [(0, .c (.d (.int .i64 ((day : Int) - ny j)))), (6, .c (.d (.int .i64 (1900 + (j : Int)))))]) (fun _ => []) (fun j => j ≤ k) (fun j => k - j) 0 (Nat.zero_le _) (by push_cast; simp [ny]) ?_
  intro j hj
  have hjj := ny_mono hj
  have hs : (ny (j + 1) : Int) = ny j + 365 + b2 (leapK j) := by simp only [ny]; omega
  push_cast
  refine CallL.q (c46 j (by omega)) ?_
  push_cast
  refine ⟨fun a => ?_, fun a => ?_⟩
  · refine CallL.q (c46 j (by omega)) ?_
    push_cast
    refine ⟨by omega, by omega, j + 1, ⟨?_, ?_⟩, by omega, by omega⟩
    · rcases Nat.lt_or_ge k (j + 1) with hlt | hge
      · have a := ny_mono (a := k + 1) (b := j + 1) hlt
        omega
      · exact hge
    · rcases Nat.lt_or_ge k (j + 1) with hlt | hge
      · have a := ny_mono (a := k + 1) (b := j + 1) hlt
        omega
      · omega
  · obtain rfl : j = k := by
      rcases Nat.lt_or_ge j k with hlt | hge
      · have a := ny_mono (a := j + 1) (b := k) hlt
        omega
      · omega
    refine LoopV.of Tryd.mixed [6] (S := Nat) (fun i => [(0, .c (.d (.int .i64 ((day : Int) - ny j - bef (leapK j) i)))), (7, .c (.d (.int .i64 i)))]) (fun _ => []) (fun i => 1 ≤ i ∧ i ≤ m) (fun i => m - i) 1 ⟨Nat.le_refl _, h.m1⟩ (by push_cast; simp [bef, bm]) ?_
    intro i hi
    have m2 := h.m2
    have b1 := h.b1
    have b2 := h.b2
    have hbl := bef_lt (leapK j) i hi.1 (by omega)
    have hbi := bef_mono (leapK j) hi.2 hi.1 (by omega)
    push_cast
    refine CallL.q (c47 j i (by omega) hi.1 (by omega)) ?_
    push_cast
    have hlm : (lenM (leapK j) i : Int) = bef (leapK j) (i + 1) - bef (leapK j) i := by unfold lenM; omega
    refine ⟨fun c => ?_, fun c => ?_⟩
    · refine CallL.q (c47 j i (by omega) hi.1 (by omega)) ?_
      push_cast
      have hlt : i < m := by
        rcases Nat.lt_or_ge i m with hlt | hge
        · exact hlt
        · have : i = m := by omega
          subst this
          omega
      refine ⟨by omega, by omega, i + 1, ⟨⟨by omega, by omega⟩, by omega⟩, by omega, by omega⟩
    · obtain rfl : i = m := by
        rcases Nat.lt_or_ge i m with hlt | hge
        · have x := bef_mono (leapK j) (a := i + 1) (b := m) hlt (by omega) (by omega)
          omega
        · omega
      have hd := h.hd
      refine ⟨by omega, ?_⟩
      omega
end Go.Proofs

/- Walks of the chapter on statistics: keys, errors, comparisons. -/
namespace Go.Proofs
open Go Go.Ax Go.Sd
set_option maxRecDepth 100000
variable {Γ : List (Nat × List D)}
theorem c32 (day : Int) : AFn Tryd.prog Γ 32 [.c (.d (.int .i64 day))] [.d (.int .i64 (wdF day))] := by
  refine AFn.vc [] Tryd.func32 rfl Tryd.mixed (by kernel_rfl) Tryd.ntmps32 Tryd.results32 (by simp) ?_
  push_cast
  refine CallL.q (c42 day) ?_
  push_cast
  unfold wdF
  refine ⟨fun h => by simp [h], fun h => ⟨?_, by simp [h]⟩⟩
  simp [inD] at h; omega
theorem c33 (day : Int) : AFn Tryd.prog Γ 33 [.c (.d (.int .i64 day))] [.d (.int .i64 (wdF day))] := by
  refine AFn.vc [] Tryd.func33 rfl Tryd.mixed (by kernel_rfl) Tryd.ntmps33 Tryd.results33 (by simp) ?_
  push_cast
  refine CallL.q (c45 day) ?_
  push_cast
  unfold wdF
  refine ⟨fun h => by simp [h], fun h => ⟨?_, by simp [h]⟩⟩
  simp [inD] at h; omega
theorem isP_of {day : Int} (h : inD day = true) : ∃ n k m d : Nat, day = n ∧ IsP n k m d := by
  simp [inD] at h
  obtain ⟨k, m, d, hp⟩ := IsP.exists (day := day.toNat) (by omega)
  exact ⟨day.toNat, k, m, d, by omega, hp⟩
theorem perF_of {n k m d : Nat} (h : IsP n k m d) (unit : Int) : perF n unit = if unit = 1 then 1900 + (k : Int) else if unit = 2 then 12 * (1900 + (k : Int)) + m - 1 else -1 := by
  unfold perF
  rw [isP_inD h, if_pos rfl]
  simp only [Int.toNat_natCast, h.year, h.month]
theorem c11 (day unit : Int) : AFn Tryd.prog Γ 11 [.c (.d (.int .i64 day)), .c (.d (.int .i64 unit))] [.d (.int .i64 (perF day unit))] := by
  refine AFn.vc [] Tryd.func11 rfl Tryd.mixed (by kernel_rfl) Tryd.ntmps11 Tryd.results11 (by simp) ?_
  push_cast
  cases h : inD day with
  | false =>
    refine CallL.q (c30n day h) ?_
    push_cast
    unfold perF
    rw [h]; rfl
  | true =>
    obtain ⟨n, k, m, d, rfl, hp⟩ := isP_of h
    refine CallL.q (c30 n hp) ?_
    rw [perF_of hp]
    have h1 := hp.hk
    have h2 := hp.m1
    have h3 := hp.m2
    push_cast
    refine ⟨fun a => by rw [if_pos a], fun a => ⟨fun b => ⟨by omega, by omega, by omega, by rw [if_neg a, if_pos b]⟩, fun b => by rw [if_neg a, if_neg b]⟩⟩
theorem c12 (day unit : Int) : AFn Tryd.prog Γ 12 [.c (.d (.int .i64 day)), .c (.d (.int .i64 unit))] [.d (.int .i64 (perF day unit))] := by
  refine AFn.vc [] Tryd.func12 rfl Tryd.mixed (by kernel_rfl) Tryd.ntmps12 Tryd.results12 (by simp) ?_
  push_cast
  cases h : inD day with
  | false =>
    refine CallL.q (c31n day h) ?_
    push_cast
    unfold perF
    rw [h]; rfl
  | true =>
    obtain ⟨n, k, m, d, rfl, hp⟩ := isP_of h
    refine CallL.q (c31 n hp) ?_
    rw [perF_of hp]
    have h1 := hp.hk
    have h2 := hp.m1
    have h3 := hp.m2
    push_cast
    refine ⟨fun a => by rw [if_pos a], fun a => ⟨fun b => ⟨by omega, by omega, by omega, by rw [if_neg a, if_pos b]⟩, fun b => by rw [if_neg a, if_neg b]⟩⟩
theorem by_cases8 (b : Int) : b = 1 ∨ b = 2 ∨ b = 3 ∨ b = 4 ∨ b = 5 ∨ b = 6 ∨ b = 7 ∨ (b ≠ 1 ∧ b ≠ 2 ∧ b ≠ 3 ∧ b ≠ 4 ∧ b ≠ 5 ∧ b ≠ 6 ∧ b ≠ 7) := by omega
theorem c13 (x : Ev) (b : Int) : AFn Tryd.prog Γ 13 [.agg (x.ds.map C.d), .c (.d (.int .i64 b))] [.d (.int .i64 (keyF x b))] := by
  refine AFn.vc [] Tryd.func13 rfl Tryd.mixed (by kernel_rfl) Tryd.ntmps13 Tryd.results13 (by simp) ?_
  unfold Ev.ds keyF
  rcases by_cases8 b with rfl | rfl | rfl | rfl | rfl | rfl | rfl | ⟨h1, h2, h3, h4, h5, h6, h7⟩
  all_goals push_cast
  · refine CallL.q (c11 x.day 1) ?_
    push_cast
  · refine CallL.q (c11 x.day 2) ?_
    push_cast
  · refine CallL.q (c32 x.day) ?_
    push_cast
  · simp [h1, h2, h3, h4, h5, h6, h7]
theorem c14 (x : Ev) (b : Int) : AFn Tryd.prog Γ 14 [.agg (x.ds.map C.d), .c (.d (.int .i64 b))] [.d (.int .i64 (keyF x b))] := by
  refine AFn.vc [] Tryd.func14 rfl Tryd.mixed (by kernel_rfl) Tryd.ntmps14 Tryd.results14 (by simp) ?_
  unfold Ev.ds keyF
  rcases by_cases8 b with rfl | rfl | rfl | rfl | rfl | rfl | rfl | ⟨h1, h2, h3, h4, h5, h6, h7⟩
  all_goals push_cast
  · refine CallL.q (c12 x.day 1) ?_
    push_cast
  · refine CallL.q (c12 x.day 2) ?_
    push_cast
  · refine CallL.q (c33 x.day) ?_
    push_cast
  · simp [h1, h2, h3, h4, h5, h6, h7]
theorem c34 (n low high : Int) : AFn Tryd.prog Γ 34 [.c (.d (.int .i64 n)), .c (.d (.int .i64 low)), .c (.d (.int .i64 high))] [.d (.bool (inR n low high))] := by
  refine AFn.vc [] Tryd.func34 rfl Tryd.mixed (by kernel_rfl) Tryd.ntmps34 Tryd.results34 (by simp) ?_
  push_cast
  refine ⟨fun h => ?_, fun h => ?_⟩ <;> simp [h, inR]
  omega
theorem c29 (day kind : Int) : AFn Tryd.prog Γ 29 [.c (.d (.int .i64 day)), .c (.d (.int .i64 kind))] [.agg (Ev.ds ⟨day, kind, 1, 1, 1, 0, 0⟩)] := by
  refine AFn.vc [] Tryd.func29 rfl Tryd.mixed (by kernel_rfl) Tryd.ntmps29 Tryd.results29 (by simp) ?_
  unfold Ev.ds
  push_cast
end Go.Proofs

/- Walks of the chapter on statistics: the error of a list of events. -/
namespace Go.Proofs
open Go Go.Ax Go.Sd
set_option maxRecDepth 100000
set_option maxHeartbeats 0
variable {Γ : List (Nat × List D)}
theorem drop_rightL {l : List Ev} {k : Nat} (h : k < l.length) : rightL (l.drop k) = if evErr l[k] = 0 then rightL (l.drop (k + 1)) else evErr l[k] := by
  rw [drop_cons h]; rfl
theorem rightL_end {l : List Ev} {k : Nat} (h : ¬ k < l.length) : rightL (l.drop k) = 0 := by
  rw [List.drop_eq_nil_of_le (by omega)]; rfl
theorem err2 {x : Ev} (h : (!inR x.day 0 109572 || !inR x.branch 1 4 || !inR x.item 1 9999 || !inR x.ikind 1 9 || !inR x.patron 0 9999 || !inR x.pkind 0 9) = true) : evErr x = 2 := by
  unfold evErr
  rw [if_pos]
  simpa [or_assoc] using h
theorem err1 {x : Ev} (h : (!inR x.day 0 109572 || !inR x.branch 1 4 || !inR x.item 1 9999 || !inR x.ikind 1 9 || !inR x.patron 0 9999 || !inR x.pkind 0 9) = false) : evErr x = if inR x.kind 1 15 then 0 else 1 := by
  unfold evErr
  rw [if_neg]
  · cases inR x.kind 1 15 <;> rfl
  · simpa [or_assoc, and_assoc] using h
theorem errs (x : Ev) : ((x.day < 0 ∨ 109572 < x.day ∨ x.branch < 1 ∨ 4 < x.branch ∨ x.item < 1 ∨ 9999 < x.item ∨ x.ikind < 1 ∨ 9 < x.ikind ∨ x.patron < 0 ∨ 9999 < x.patron ∨ x.pkind < 0 ∨ 9 < x.pkind) → evErr x = 2) ∧
    ((0 ≤ x.day ∧ x.day ≤ 109572 ∧ 1 ≤ x.branch ∧ x.branch ≤ 4 ∧ 1 ≤ x.item ∧ x.item ≤ 9999 ∧ 1 ≤ x.ikind ∧ x.ikind ≤ 9 ∧ 0 ≤ x.patron ∧ x.patron ≤ 9999 ∧ 0 ≤ x.pkind ∧ x.pkind ≤ 9) → (x.kind < 1 ∨ 15 < x.kind) → evErr x = 1) ∧
    ((0 ≤ x.day ∧ x.day ≤ 109572 ∧ 1 ≤ x.branch ∧ x.branch ≤ 4 ∧ 1 ≤ x.item ∧ x.item ≤ 9999 ∧ 1 ≤ x.ikind ∧ x.ikind ≤ 9 ∧ 0 ≤ x.patron ∧ x.patron ≤ 9999 ∧ 0 ≤ x.pkind ∧ x.pkind ≤ 9) → (1 ≤ x.kind ∧ x.kind ≤ 15) → evErr x = 0) := by
  unfold evErr inR
  simp only [decide_eq_false_iff_not, decide_eq_true_eq]
  refine ⟨fun h => ?_, fun h h' => ?_, fun h h' => ?_⟩
  · rw [if_pos (by omega)]
  · rw [if_neg (by omega), if_pos (by omega)]
  · rw [if_neg (by omega), if_neg (by omega)]
theorem c27 (l : List Ev) (hl : l.length ≤ 1000000) : AFn Tryd.prog Γ 27 [.c (.d (.lst 7 (l.map Ev.ds)))] [.d (.int .i64 (rightF l))] := by
  refine AFn.vc [] Tryd.func27 rfl Tryd.mixed (by kernel_rfl) Tryd.ntmps27 Tryd.results27 (by simp) ?_
  unfold rightF
  push_cast
  refine ⟨fun h => by rw [if_pos (by omega)], fun h => ?_⟩
  rw [if_neg (by omega)]
  refine LoopV.cnt Tryd.mixed [8, 9] l.length (fun k => [(10, .c (.d (.int .i64 k)))]) (fun k => rightL l = rightL (l.drop k)) (by simp) ?_
  intro k hk hinv
  push_cast
  refine ⟨fun h => ?_, fun h => ?_⟩
  · obtain ⟨hlt, hge⟩ : ∃ hlt : k < l.length, True := ⟨by omega, trivial⟩
    rw [hinv, drop_rightL hlt]
    refine ⟨hlt, ?_⟩
    generalize l[k] = x
    unfold Ev.ds
    push_cast [Nat.min_self]
    refine CallL.q (c34 _ _ _) ?_
    cases h0 : inR x.day 0 109572
    · push_cast
      rw [err2 (by simp [h0])]
      rfl
    push_cast
    refine CallL.q (c34 _ _ _) ?_
    cases h1 : inR x.branch 1 4
    · push_cast
      rw [err2 (by simp [h1])]
      rfl
    push_cast
    refine CallL.q (c34 _ _ _) ?_
    cases h2 : inR x.item 1 9999
    · push_cast
      rw [err2 (by simp [h2])]
      rfl
    push_cast
    refine CallL.q (c34 _ _ _) ?_
    cases h3 : inR x.ikind 1 9
    · push_cast
      rw [err2 (by simp [h3])]
      rfl
    push_cast
    refine CallL.q (c34 _ _ _) ?_
    cases h4 : inR x.patron 0 9999
    · push_cast
      rw [err2 (by simp [h4])]
      rfl
    push_cast
    refine CallL.q (c34 _ _ _) ?_
    cases h5 : inR x.pkind 0 9
    · push_cast
      rw [err2 (by simp [h5])]
      rfl
    push_cast
    refine CallL.q (c34 _ _ _) ?_
    have he := err1 (x := x) (by simp [h0, h1, h2, h3, h4, h5])
    cases h6 : inR x.kind 1 15
    · push_cast
      rw [he, h6]
      rfl
    push_cast
    rw [he, h6]
    exact ⟨by omega, hlt, rfl⟩
  · rw [hinv, rightL_end (by omega)]
theorem c28 (l : List Ev) (hl : l.length ≤ 1000000) : AFn Tryd.prog Γ 28 [.c (.d (.lst 7 (l.map Ev.ds)))] [.d (.int .i64 (rightF l))] := by
  refine AFn.vc [] Tryd.func28 rfl Tryd.mixed (by kernel_rfl) Tryd.ntmps28 Tryd.results28 (by simp) ?_
  unfold rightF
  push_cast
  refine ⟨fun h => by rw [if_pos (by omega)], fun h => ?_⟩
  rw [if_neg (by omega)]
  refine LoopV.cnt Tryd.mixed [0] l.length (fun k => [(3, .c (.d (.int .i64 k)))]) (fun k => rightL l = rightL (l.drop k)) (by simp) ?_
  intro k hk hinv
  push_cast
  refine ⟨fun h => ?_, fun h => ?_⟩
  · obtain ⟨hlt, hge⟩ : ∃ hlt : k < l.length, True := ⟨by omega, trivial⟩
    rw [hinv, drop_rightL hlt]
    refine ⟨hlt, ?_⟩
    generalize l[k] = x
    unfold Ev.ds
    push_cast [Nat.min_self]
    obtain ⟨e2, e1, e0⟩ := errs x
    generalize evErr x = e at *
    repeat' (first | (refine ⟨?_, ?_⟩) | intro _)
    all_goals first | omega | (split <;> omega)
  · rw [hinv, rightL_end (by omega)]
end Go.Proofs
