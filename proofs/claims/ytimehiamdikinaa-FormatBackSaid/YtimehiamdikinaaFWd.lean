/- Walks of the chapter on formats, fourth part. -/
import Derived.Test.YtimehiamdikinaaFWc
set_option linter.all false
namespace Go.Proofs
open Go Go.Ax Go.Fm
set_option maxRecDepth 100000
variable {Γ : List (Nat × List D)}
theorem check2 (f : Fmt) (h : ¬ (1 ≤ f.id ∧ f.id ≤ 9999 ∧ 1 ≤ f.since ∧ f.since ≤ 2199 ∧ (f.until_ = 0 ∨ (f.since ≤ f.until_ ∧ f.until_ ≤ 2199)) ∧ 0 ≤ f.base ∧ f.base ≤ 100)) : checkF f = 2 := by
  unfold checkF
  cases e : (!inB f.id 1 9999 || !inB f.since 1 2199 || (decide (f.until_ ≠ 0) && !inB f.until_ f.since 2199) || !inB f.base 0 100)
  · exfalso; apply h
    simp [inB] at e
    omega
  · rfl
theorem check1 (f : Fmt) (h : 1 ≤ f.id ∧ f.id ≤ 9999 ∧ 1 ≤ f.since ∧ f.since ≤ 2199 ∧ (f.until_ = 0 ∨ (f.since ≤ f.until_ ∧ f.until_ ≤ 2199)) ∧ 0 ≤ f.base ∧ f.base ≤ 100) : checkF f = bif !nameB f.name || !inB f.magic.length 1 16 then 3 else 0 := by
  unfold checkF
  cases e : (!inB f.id 1 9999 || !inB f.since 1 2199 || (decide (f.until_ ≠ 0) && !inB f.until_ f.since 2199) || !inB f.base 0 100)
  · rfl
  · exfalso
    simp [inB] at e
    omega
set_option maxHeartbeats 4000000 in
theorem c12 (l : List Fmt) (hn : ∀ f ∈ l, f.name.length ≤ 1000000 ∧ f.to.length ≤ 1000000) : AFn Try.prog Γ 12 [.c (.d (.lst 7 (l.map Fmt.ds)))] [.d (.int .i64 (rightF l))] := by
  refine AFn.vc [] Try.func12 rfl Try.mixed (by kernel_rfl) Try.ntmps12 Try.results12 (by simp) ?_
  push_cast
  refine ⟨fun h => ?_, fun h => ?_⟩
  · unfold rightF; rw [if_pos (by omega)]
  have hr1 : ∀ v, firstE (oneE l) l.length 0 = v → v ≠ 0 → v = rightF l := fun v hv h0 => by
    unfold rightF; rw [if_neg (by omega), if_pos (by rw [hv]; exact h0), hv]
  refine LoopV.cnt Try.mixed [0] l.length (fun k => [(3, .c (.d (.int .i64 k)))]) (fun k => firstE (oneE l) l.length 0 = firstE (oneE l) (l.length - k) k) rfl ?_ (by push_cast)
  intro k hk hinv
  push_cast
  refine ⟨fun h2 => ?_, fun h2 => ?_⟩
  · have hk' : k < l.length := by omega
    rw [firstE_step hk'] at hinv
    have g1 : l.getD k noFmt = l[k] := by simp [List.getElem?_eq_getElem hk']
    have hkm : ((k : Int) - 1).toNat = k - 1 := by omega
    have g2 : l.getD (k - 1) noFmt = l[k - 1] := by simp [List.getElem?_eq_getElem (show k - 1 < l.length by omega)]
    have hone : oneE l k = if 0 < k ∧ l[k].id ≤ l[k - 1].id then 7 else checkF l[k] := by unfold oneE; rw [g1, g2]
    simp only [hkm]
    have hnl := (hn _ (List.getElem_mem hk')).1
    have z7 : 0 < k ∧ l[k].id ≤ l[k - 1].id → 7 = rightF l := fun a => by
      rw [hone, if_pos a] at hinv; exact hr1 7 hinv (by omega)
    have z2 : ¬ (0 < k ∧ l[k].id ≤ l[k - 1].id) → ¬ (1 ≤ l[k].id ∧ l[k].id ≤ 9999 ∧ 1 ≤ l[k].since ∧ l[k].since ≤ 2199 ∧ (l[k].until_ = 0 ∨ (l[k].since ≤ l[k].until_ ∧ l[k].until_ ≤ 2199)) ∧ 0 ≤ l[k].base ∧ l[k].base ≤ 100) → 2 = rightF l := fun a b => by
      rw [hone, if_neg a, check2 _ b] at hinv; exact hr1 2 hinv (by omega)
    have z1 : ¬ (0 < k ∧ l[k].id ≤ l[k - 1].id) → (1 ≤ l[k].id ∧ l[k].id ≤ 9999 ∧ 1 ≤ l[k].since ∧ l[k].since ≤ 2199 ∧ (l[k].until_ = 0 ∨ (l[k].since ≤ l[k].until_ ∧ l[k].until_ ≤ 2199)) ∧ 0 ≤ l[k].base ∧ l[k].base ≤ 100) → oneE l k = bif !nameB l[k].name || !inB l[k].magic.length 1 16 then 3 else 0 := fun a b => by
      rw [hone, if_neg a, check1 _ b]
    have z3 : oneE l k = 3 → 3 = rightF l := fun a => by
      rw [a] at hinv; exact hr1 3 hinv (by omega)
    have z0 : oneE l k = 0 → firstE (oneE l) l.length 0 = firstE (oneE l) (l.length - (k + 1)) (k + 1) := fun a => by
      rw [a, if_pos rfl] at hinv; exact hinv
    clear hinv hone hr1
    repeat' (first | apply And.intro | intro _ | refine Exists.intro (by omega) ?_)
    all_goals first
      | omega
      | exact z7 (by omega)
      | exact z2 (by omega) (by omega)
      | skip
    all_goals
      have hz := z1 (by omega) (by omega)
      refine CallL.q (c31 l[k].name hnl) ?_
      have y3 : nameB l[k].name = false → 3 = rightF l := fun b => z3 (by rw [hz, b]; rfl)
      have y4 : nameB l[k].name = true → ¬ (1 ≤ (l[k].magic.length : Int) ∧ (l[k].magic.length : Int) ≤ 16) → 3 = rightF l := fun b d => z3 (by
        have : inB l[k].magic.length 1 16 = false := by
          cases e : inB l[k].magic.length 1 16
          · rfl
          · exfalso; apply d; simpa [inB] using e
        rw [hz, b, this]; rfl)
      have y0 : nameB l[k].name = true → (1 ≤ (l[k].magic.length : Int) ∧ (l[k].magic.length : Int) ≤ 16) → firstE (oneE l) l.length 0 = firstE (oneE l) (l.length - (k + 1)) (k + 1) := fun b d => z0 (by
        have : inB l[k].magic.length 1 16 = true := by unfold inB; rw [decide_eq_true d.1, decide_eq_true d.2]; rfl
        rw [hz, b, this]; rfl)
      push_cast
      repeat' (first | apply And.intro | intro _ | refine Exists.intro (by omega) ?_)
      all_goals first
        | omega
        | exact y3 (by assumption)
        | exact y4 (by assumption) (by omega)
        | exact y0 (by assumption) (by omega)
  have h01 : firstE (oneE l) l.length 0 = 0 := by rw [hinv, firstE_end (by omega)]
  have hr2 : ∀ v, firstE (dupE l) l.length 0 = v → v ≠ 0 → v = rightF l := fun v hv h0 => by
    unfold rightF; rw [if_neg (by omega), if_neg (by rw [h01]; simp), if_pos (by rw [hv]; exact h0), hv]
  clear hinv h2 hk
  refine LoopV.cnt Try.mixed [0] l.length (fun k => [(5, .c (.d (.int .i64 k)))]) (fun k => firstE (dupE l) l.length 0 = firstE (dupE l) (l.length - k) k) rfl ?_ (by push_cast)
  intro k hk hinv
  push_cast
  refine ⟨fun h2 => ?_, fun h2 => ?_⟩
  · have hk' : k < l.length := by omega
    rw [firstE_step hk'] at hinv
    have g1 : l.getD k noFmt = l[k] := by simp [List.getElem?_eq_getElem hk']
    have hone : dupE l k = if (l.take k).any (dupB l[k]) = true then 7 else 0 := by unfold dupE; rw [g1]
    have hkl : (l.take k).length = k := by simp; omega
    refine LoopV.cnt Try.mixed [0, 5] k (fun j => [(6, .c (.d (.int .i64 j)))]) (fun j => (l.take k).any (dupB l[k]) = ((l.take k).drop j).any (dupB l[k])) rfl ?_ (by push_cast)
    intro j hj hin
    push_cast
    refine ⟨fun h4 => ?_, fun h4 => ⟨⟨by omega, by omega⟩, hk', ?_⟩⟩
    · have hj' : j < k := by omega
      rw [any_drop _ (by omega)] at hin
      have gj : (l.take k)[j]'(by omega) = l[j] := by simp
      rw [gj] at hin
      have hx : dupB l[k] l[j] = true → 7 = rightF l := fun a => by
        rw [a, Bool.true_or] at hin
        rw [hin, if_pos rfl] at hone
        rw [hone] at hinv; exact hr2 7 hinv (by omega)
      refine ⟨by omega, by omega, fun a => ⟨by omega, by omega, fun b => hx (by simp [dupB, b]), fun b => ⟨⟨by omega, by omega⟩, hj', ?_⟩⟩, fun a => hx (by simp [dupB, a])⟩
      have : dupB l[k] l[j] = false := by
        unfold dupB; rw [decide_eq_false (fun e => a e.symm), decide_eq_false (fun e => b e.symm)]; rfl
      rw [hin, this, Bool.false_or]
    · rw [hin, drop_end (by omega)] at hone
      have : dupE l k = 0 := by rw [hone]; rfl
      rw [this, if_pos rfl] at hinv; exact hinv
  have h02 : firstE (dupE l) l.length 0 = 0 := by rw [hinv, firstE_end (by omega)]
  have hr3 : rightF l = firstE (aimE l) l.length 0 := by
    unfold rightF; rw [if_neg (by omega), if_neg (by rw [h01]; simp), if_neg (by rw [h02]; simp)]
  rw [hr3]
  clear hinv h2 hk
  refine LoopV.cnt Try.mixed [0] l.length (fun k => [(7, .c (.d (.int .i64 k)))]) (fun k => firstE (aimE l) l.length 0 = firstE (aimE l) (l.length - k) k) rfl ?_ (by push_cast)
  intro k hk hinv
  push_cast
  refine ⟨fun h2 => ?_, fun h2 => by rw [hinv, firstE_end (by omega)]⟩
  have hk' : k < l.length := by omega
  rw [firstE_step hk'] at hinv
  have g1 : l.getD k noFmt = l[k] := by simp [List.getElem?_eq_getElem hk']
  have hone : aimE l k = targF l l[k] := by unfold aimE; rw [g1]
  rw [hone] at hinv
  have htl := (hn _ (List.getElem_mem hk')).2
  have hc7 : ascF l[k].to ≠ 0 → ascF l[k].to = firstE (aimE l) l.length 0 := fun a => by
    have e : targF l l[k] = ascF l[k].to := by unfold targF; rw [if_neg a]
    rw [hinv, e, if_neg a]
  refine ⟨hk', ?_⟩
  refine LoopV.of Try.mixed [0, 7, 8] (S := Nat) (fun m => [(9, .c (.d (.int .i64 m)))]) (fun _ => []) (fun m => 1 ≤ m ∧ m ≤ 1000001 ∧ ascF l[k].to = firstE (fun k' => if 0 < k' ∧ l[k].to.getD k' 0 ≤ l[k].to.getD (k' - 1) 0 then 7 else 0) (l[k].to.length - m) m) (fun m => l[k].to.length - m) 1 ?_ (by push_cast) ?_
  · refine ⟨Nat.le_refl _, by omega, ?_⟩
    by_cases hz : 0 < l[k].to.length
    · have := firstE_step (f := fun k' => if 0 < k' ∧ l[k].to.getD k' 0 ≤ l[k].to.getD (k' - 1) 0 then (7 : Int) else 0) hz
      rw [if_pos (by simp)] at this
      exact this
    · have e : l[k].to.length = 0 := by omega
      unfold ascF; rw [e]; rfl
  intro m hm
  obtain ⟨hm1, hm2, hma⟩ := hm
  push_cast
  refine ⟨fun h5 => ?_, fun h5 => ?_⟩
  · have hm' : m < l[k].to.length := by omega
    rw [firstE_step hm'] at hma
    have q1 : l[k].to.getD m 0 = l[k].to[m] := by simp [List.getElem?_eq_getElem hm']
    have q2 : l[k].to.getD (m - 1) 0 = l[k].to[m - 1] := by simp [List.getElem?_eq_getElem (show m - 1 < l[k].to.length by omega)]
    rw [q1, q2] at hma
    have hkm : ((m : Int) - 1).toNat = m - 1 := by omega
    simp only [hkm]
    refine ⟨hm', ⟨by omega, by omega⟩, by omega, by omega, fun b => ?_, fun b => ⟨⟨by omega, by omega⟩, m + 1, ⟨⟨by omega, by omega, ?_⟩, by omega⟩, rfl⟩⟩
    · have e9 : (if 0 < m ∧ l[k].to[m] ≤ l[k].to[m - 1] then (7 : Int) else 0) = 7 := if_pos ⟨by omega, b⟩
      rw [e9] at hma
      have e7 : ascF l[k].to = 7 := hma
      rw [← hc7 (by rw [e7]; decide), e7]
    · have e9 : (if 0 < m ∧ l[k].to[m] ≤ l[k].to[m - 1] then (7 : Int) else 0) = 0 := if_neg (by omega)
      rw [e9, if_pos rfl] at hma; exact hma
  · have e0 : ascF l[k].to = 0 := by rw [hma, firstE_end (by omega)]
    have e1 : targF l l[k] = aimF l l[k] := by unfold targF; rw [if_pos e0]
    rw [e1] at hinv
    have hv : ∀ v, aimF l l[k] = v → v ≠ 0 → v = firstE (aimE l) l.length 0 := fun v h1 h2 => by
      rw [h1, if_neg h2] at hinv; exact hinv.symm
    refine LoopV.cnt Try.mixed [0, 7, 8] l[k].to.length (fun j => [(10, .c (.d (.int .i64 j)))]) (fun j => aimF l l[k] = firstE (fun j => if l[k].to.getD j 0 = l[k].id then 11 else if findF l (l[k].to.getD j 0) < 0 then 9 else 0) (l[k].to.length - j) j) rfl ?_ (by push_cast)
    intro j hj hia
    push_cast
    refine ⟨fun h6 => ?_, fun h6 => ?_⟩
    · have hj' : j < l[k].to.length := by omega
      rw [firstE_step hj'] at hia
      have q1 : l[k].to.getD j 0 = l[k].to[j] := by simp [List.getElem?_eq_getElem hj']
      rw [q1] at hia
      refine ⟨hj', hk', fun d => ?_, fun d => ?_⟩
      · have e9 : (if l[k].to[j] = l[k].id then (11 : Int) else if findF l l[k].to[j] < 0 then 9 else 0) = 11 := if_pos d
        rw [e9] at hia
        exact hv 11 hia (by decide)
      · refine ⟨hj', ?_⟩
        refine CallL.q (c21 l l[k].to[j] (by omega)) ?_
        push_cast
        have hneg : findF l l[k].to[j] < 0 → 9 = firstE (aimE l) l.length 0 := fun b => by
          have e9 : (if l[k].to[j] = l[k].id then (11 : Int) else if findF l l[k].to[j] < 0 then 9 else 0) = 9 := by rw [if_neg d, if_pos b]
          rw [e9] at hia
          exact hv 9 hia (by decide)
        have hpos : ¬ findF l l[k].to[j] < 0 → aimF l l[k] = firstE (fun j => if l[k].to.getD j 0 = l[k].id then 11 else if findF l (l[k].to.getD j 0) < 0 then 9 else 0) (l[k].to.length - (j + 1)) (j + 1) := fun b => by
          have e9 : (if l[k].to[j] = l[k].id then (11 : Int) else if findF l l[k].to[j] < 0 then 9 else 0) = 0 := by rw [if_neg d, if_neg b]
          rw [e9, if_pos rfl] at hia
          exact hia
        have hh : ∀ b, hasF l l[k].to[j] = b → (b = true ↔ ¬ findF l l[k].to[j] < 0) := fun b e => by
          rw [← e]; unfold hasF; rw [decide_eq_true_eq]; omega
        repeat' (first | apply And.intro | intro _ | refine Exists.intro (by omega) ?_)
        all_goals first
          | omega
          | exact hneg (by apply Classical.byContradiction; intro q; have := (hh _ (by assumption)).2 q; cases this)
          | exact hpos ((hh _ (by assumption)).1 rfl)
    · have : aimF l l[k] = 0 := by rw [hia, firstE_end (by omega)]
      rw [this, if_pos rfl] at hinv
      exact ⟨⟨by omega, by omega⟩, hk', hinv⟩
end Go.Proofs
