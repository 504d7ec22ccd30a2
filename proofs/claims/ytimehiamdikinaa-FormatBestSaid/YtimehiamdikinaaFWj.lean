/- Walks of the chapter on formats, tenth part: what valid formats are; the examples. -/
import Derived.Test.YtimehiamdikinaaFWi
import Derived.Test.YtimehiamdikinaaFWd
set_option linter.all false
namespace Go.Proofs
open Go Go.Ax Go.Fm
set_option maxRecDepth 100000
variable {Γ : List (Nat × List D)}
theorem firstE_zero {f : Nat → Int} : ∀ m k, firstE f m k = 0 → ∀ j, k ≤ j → j < k + m → f j = 0
  | 0, k, _, j, h1, h2 => by omega
  | m + 1, k, h, j, h1, h2 => by
    unfold firstE at h
    split at h
    · next h0 =>
      rcases Nat.lt_or_ge k j with z | z
      · exact firstE_zero m (k + 1) h j z (by omega)
      · obtain rfl : j = k := by omega
        exact h0
    · next h0 => exact absurd h h0
theorem asc_all (f : Nat → Int) (n : Nat) (h : ∀ k, 0 < k → k < n → f (k - 1) < f k) : ∀ b a, a < b → b < n → f a < f b
  | 0, a, h1, _ => by omega
  | b + 1, a, h1, h2 => by
    have h3 := h (b + 1) (by omega) h2
    simp only [Nat.add_sub_cancel] at h3
    rcases Nat.lt_or_ge a b with z | z
    · have := asc_all f n h b a z (by omega); omega
    · obtain rfl : a = b := by omega
      exact h3
structure Good (l : List Fmt) : Prop where
  len : l.length ≤ 16
  chk : ∀ f ∈ l, checkF f = 0
  asc : ∀ (a b : Nat) (ha : a < l.length) (hb : b < l.length), a < b → l[a].id < l[b].id
  dup : ∀ (a b : Nat) (ha : a < l.length) (hb : b < l.length), a < b → dupB l[b] l[a] = false
  to : ∀ f ∈ l, ∀ (a b : Nat) (ha : a < f.to.length) (hb : b < f.to.length), a < b → f.to[a] < f.to[b]
  aim : ∀ f ∈ l, ∀ x ∈ f.to, x ≠ f.id ∧ 0 ≤ findF l x
theorem check_ok {f : Fmt} (h : checkF f = 0) : (1 ≤ f.id ∧ f.id ≤ 9999 ∧ 1 ≤ f.since ∧ f.since ≤ 2199 ∧ (f.until_ = 0 ∨ (f.since ≤ f.until_ ∧ f.until_ ≤ 2199)) ∧ 0 ≤ f.base ∧ f.base ≤ 100) ∧ 1 ≤ f.magic.length ∧ f.magic.length ≤ 16 := by
  by_cases c : 1 ≤ f.id ∧ f.id ≤ 9999 ∧ 1 ≤ f.since ∧ f.since ≤ 2199 ∧ (f.until_ = 0 ∨ (f.since ≤ f.until_ ∧ f.until_ ≤ 2199)) ∧ 0 ≤ f.base ∧ f.base ≤ 100
  · refine ⟨c, ?_⟩
    rw [check1 f c] at h
    cases h2 : inB f.magic.length 1 16 with
    | true => simp [inB] at h2; omega
    | false => rw [h2] at h; simp at h
  · rw [check2 f c] at h; omega
theorem good_of {l : List Fmt} (h : rightF l = 0) : Good l := by
  unfold rightF at h
  split at h
  · omega
  next hl =>
  split at h
  · next h1 => exact absurd h h1
  next h1 =>
  split at h
  · next h2 => exact absurd h h2
  next h2 =>
  have h1 := firstE_zero _ _ (Decidable.not_not.1 h1)
  have h2 := firstE_zero _ _ (Decidable.not_not.1 h2)
  have h3 := firstE_zero _ _ h
  have one : ∀ k (hk : k < l.length), checkF l[k] = 0 ∧ ∀ (h0 : 0 < k), l[k - 1].id < l[k].id := fun k hk => by
    have := h1 k (by omega) (by omega)
    unfold oneE at this
    rw [getD_at hk, getD_at (show k - 1 < l.length by omega)] at this
    split at this
    · omega
    · exact ⟨this, fun h0 => by omega⟩
  refine ⟨by omega, fun f hf => ?_, fun a b ha hb hab => ?_, fun a b ha hb hab => ?_, fun f hf a b ha hb hab => ?_, fun f hf x hx => ?_⟩
  · obtain ⟨k, hk, rfl⟩ := List.getElem_of_mem hf
    exact (one k hk).1
  · have := asc_all (fun k => (l.getD k noFmt).id) l.length (fun k h0 hk => by
      show (l.getD (k - 1) noFmt).id < (l.getD k noFmt).id
      rw [getD_at hk, getD_at (show k - 1 < l.length by omega)]
      exact (one k hk).2 h0) b a hab hb
    simp only [getD_at ha, getD_at hb] at this
    exact this
  · have := h2 b (by omega) (by omega)
    unfold dupE at this
    split at this
    · omega
    · next q =>
      rw [getD_at hb] at q
      cases e : dupB l[b] l[a] with
      | false => rfl
      | true => exact absurd (List.any_eq_true.2 ⟨l[a], List.mem_take_iff_getElem.2 ⟨a, by omega, rfl⟩, e⟩) q
  · obtain ⟨k, hk, rfl⟩ := List.getElem_of_mem hf
    have := h3 k (by omega) (by omega)
    unfold aimE targF at this
    rw [getD_at hk] at this
    split at this
    · next q =>
      have q := firstE_zero _ _ q
      have := asc_all (fun j => l[k].to.getD j 0) l[k].to.length (fun j h0 hj => by
        have this : (if 0 < j ∧ l[k].to.getD j 0 ≤ l[k].to.getD (j - 1) 0 then (7 : Int) else 0) = 0 := q j (by omega) (by omega)
        show l[k].to.getD (j - 1) 0 < l[k].to.getD j 0
        split at this
        · omega
        · omega) b a hab hb
      simp only [getD_at ha, getD_at hb] at this
      exact this
    · next q => exact absurd this q
  · obtain ⟨k, hk, rfl⟩ := List.getElem_of_mem hf
    have := h3 k (by omega) (by omega)
    unfold aimE targF at this
    rw [getD_at hk] at this
    split at this
    · obtain ⟨j, hj, rfl⟩ := List.getElem_of_mem hx
      have q : (if l[k].to.getD j 0 = l[k].id then (11 : Int) else if findF l (l[k].to.getD j 0) < 0 then 9 else 0) = 0 := firstE_zero _ _ this j (by omega) (by omega)
      rw [getD_at hj] at q
      split at q
      · omega
      · split at q
        · omega
        · exact ⟨by assumption, by omega⟩
    · next q => exact absurd this q
theorem small_ok {l : List Fmt} (h : smallB l = true) : l.length ≤ 20 ∧ ∀ f ∈ l, f.name.length ≤ 50 ∧ f.magic.length ≤ 50 ∧ f.to.length ≤ 20 := by
  unfold smallB at h
  simp only [Bool.and_eq_true, decide_eq_true_eq, List.all_eq_true] at h
  exact ⟨h.1, fun f hf => by have := h.2 f hf; omega⟩
theorem Good.okF {l : List Fmt} (h : Good l) (hs : smallB l = true) (f : Fmt) (hf : f ∈ l) : OkF f := by
  have := (check_ok (h.chk f hf)).1
  have := (small_ok hs).2 f hf
  exact ⟨by omega, by omega, by omega, by omega, by omega⟩
theorem Good.okL {l : List Fmt} (h : Good l) (hs : smallB l = true) : OkL l := ⟨by have := h.len; omega, h.okF hs, h.asc, h.to⟩
theorem goodThree : Good three := good_of (by kernel_rfl)
theorem okThree : OkL three := goodThree.okL (by kernel_rfl)
theorem c11' : AFn Try.prog Γ 11 [.c (.d (.lst 7 (three.map Fmt.ds)))] [.d (.int .i64 0)] := c11 three (by decide)
theorem c14A : AFn Try.prog Γ 14 [.c (.d (.lst 7 (three.map Fmt.ds))), .c (.d (.int .i64 1)), .c (.d (.int .i64 2015))] [.d (.lst 1 ([1, 3].map iD))] := (by kernel_rfl : pathF three 1 2015 = [1, 3]) ▸ c14 three 1 2015 okThree (by decide) (by decide)
theorem c14B : AFn Try.prog Γ 14 [.c (.d (.lst 7 (three.map Fmt.ds))), .c (.d (.int .i64 1)), .c (.d (.int .i64 2005))] [.d (.lst 1 ([1, 2].map iD))] := (by kernel_rfl : pathF three 1 2005 = [1, 2]) ▸ c14 three 1 2005 okThree (by decide) (by decide)
theorem c18' (f : Fmt) (year r : Int) (hf : OkF f) (h5 : -9223372036854775808 ≤ year) (h6 : year ≤ 9223372036854775807) (h : riskF f year = r) : AFn Try.prog Γ 18 [.agg (f.ds.map C.d), .c (.d (.int .i64 year))] [.d (.int .i64 r)] := h ▸ c18 f year hf.u0 hf.b0 hf.b1 hf.u1 h5 h6
theorem ok3 (i : Nat) (h : i < three.length) : OkF three[i] := okThree.ok _ (List.getElem_mem h)
theorem c13' (a b : List Int) (h : a.length ≤ 1000000 ∧ b.length ≤ 1000000 ∧ (a == b) = true) : AFn Try.prog Γ 13 [.c (.bor 1 (a.map iD)), .c (.bor 1 (b.map iD))] [.d (.bool true)] := h.2.2 ▸ c13 a b h.1 h.2.1
theorem c16' : AFn Try.prog Γ 16 [.agg (three[0].ds.map C.d), .agg (three[2].ds.map C.d), .c (.d (.str [65, 66, 68]))] [.d (.str [88, 68]), .d (.int .i64 0)] := c16 three[0] three[2] [65, 66, 68] (by decide) (by decide)
theorem c19' (data : List UInt8) (r : Int) (h : identF three data = r) : AFn Try.prog Γ 19 [.c (.d (.lst 7 (three.map Fmt.ds))), .c (.d (.str data))] [.d (.int .i64 r)] := h ▸ c19 three data (by decide)
theorem c9 : AFn Try.prog Γ 9 [] [.d (.bool true)] := by
  refine AFn.vc [] Try.func9 rfl Try.mixed (by kernel_rfl) Try.ntmps9 Try.results9 (by simp) ?_
  push_cast
  refine CallL.q c26 ?_
  push_cast
  refine CallL.q c11' ?_
  push_cast
  refine ⟨by decide, ?_⟩
  refine CallL.q (c18' three[0] 2003 50 (ok3 0 (by decide)) (by decide) (by decide) (by kernel_rfl)) ?_
  push_cast
  refine ⟨by decide, ?_⟩
  refine CallL.q (c18' three[0] 2020 100 (ok3 0 (by decide)) (by decide) (by decide) (by kernel_rfl)) ?_
  push_cast
  refine ⟨by decide, ?_⟩
  refine CallL.q (c18' three[0] 1989 100 (ok3 0 (by decide)) (by decide) (by decide) (by kernel_rfl)) ?_
  push_cast
  refine CallL.q c14A ?_
  push_cast
  refine CallL.q (c13' [1, 3] [1, 3] (by decide)) ?_
  push_cast
  refine CallL.q c14B ?_
  push_cast
  refine CallL.q (c13' [1, 2] [1, 2] (by decide)) ?_
  push_cast
  refine ⟨by decide, by decide, ?_⟩
  refine CallX.q c16' ?_
  push_cast
  refine CallL.q (c19' [65, 66, 67, 68] 2 (by kernel_rfl)) ?_
  push_cast
  refine CallL.q (c19' [65, 66, 68] 1 (by kernel_rfl)) ?_
  push_cast
  refine CallL.q (c19' [] 0 (by kernel_rfl)) ?_
  push_cast
end Go.Proofs
