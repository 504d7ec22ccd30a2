/- Part of a proof about this program; no condition of its own. -/
import Derived.Test.YtanbfhnmklhjiaaGreatDoorZWq
import Derived.Test.YtanbfhnmklhjiaaGreatDoorZWd
set_option linter.all false
/- The statements on values, counts and agreement. No condition. -/
namespace Go.Proofs
open Go Go.Ax Go.Tx Go.Lib Go.Shelf Go.RowKit Go.Fc
set_option maxRecDepth 100000
set_option maxHeartbeats 0
variable {Γ : List (Nat × List D)}
theorem join_bd {K : Nat} (sep : Str) : ∀ (l : List Str), (∀ v ∈ l, v.length ≤ K) → (Lib.join l sep).length ≤ l.length * (K + sep.length)
  | [], _ => by simp [Lib.join]
  | [x], h => by
    have := h x (by simp)
    simp [Lib.join]; omega
  | x :: y :: r, h => by
    have h1 := h x (by simp)
    have h2 := join_bd sep (y :: r) (fun v hv => h v (List.mem_cons_of_mem _ hv))
    have e : (Lib.join (x :: y :: r) sep).length = x.length + sep.length + (Lib.join (y :: r) sep).length := by
      simp [Lib.join]; omega
    rw [e, List.length_cons, Nat.add_mul]
    omega
theorem rightR_ok {r : Rec} (h : rightR r = 0) : r.lang.length = 3 ∧ r.fields.length ≤ 64 ∧ ∀ f ∈ r.fields, rightF f = 0 := by
  unfold rightR at h
  split at h
  · omega
  · split at h
    · omega
    · split at h
      · omega
      · split at h
        · next h4 =>
          split at h
          · omega
          · split at h
            · omega
            · exact ⟨h4, by omega, rightFs_ok h⟩
        · omega
theorem ok_right {r : Rec} (h : rightR r = 0) (hc : r.cd) : r.ok := by
  obtain ⟨h1, h2, h3⟩ := rightR_ok h
  have hv : ∀ f ∈ r.fields, ∀ s ∈ f.subs, s.val.length ≤ 200 := fun f hf s hs => (rightS_ok ((rightF_ok (h3 f hf)).2.2 s hs)).2.2
  have hsm : r.sm := fun f hf s hs => by have := hv f hf s hs; omega
  have hj : ∀ f ∈ r.fields, (Lib.join (allS f.subs [97]) [32]).length ≤ 1000000000 := fun f hf => by
    have a := allS_len f.subs [97]
    have b := (rightF_ok (h3 f hf)).2.1
    have c := join_bd (K := 200) [32] (allS f.subs [97]) (fun v hv' => by
      obtain ⟨s, hs, rfl⟩ := allS_mem hv'
      exact hv f hf s hs)
    have d : (allS f.subs [97]).length * (200 + 1) ≤ 16 * 201 := Nat.mul_le_mul (by omega) (Nat.le_refl _)
    have e : ([32] : Str).length = 1 := rfl
    rw [e] at c
    omega
  exact ⟨⟨hsm, by omega, fun f hf => by have := (rightF_ok (h3 f hf)).2.1; omega, hj⟩, hc, fun kind => values_vl kind r (by omega) hsm hj⟩
theorem few_ok {l : List Rec} {n : Nat} (h : fewB l n = true) (hc : ∀ r ∈ l, r.cd) : l.length ≤ 8 ∧ n ≤ 20 ∧ ∀ r ∈ l, r.ok := by
  unfold fewB at h
  simp only [Bool.and_eq_true, decide_eq_true_eq, List.all_eq_true] at h
  exact ⟨h.1, h.2.1, fun r hr => ok_right (h.2.2 r hr).2 (hc r hr)⟩
theorem c10 (hΓ : (4, powD) ∈ Γ) (r : Rec) (kind : Int) (hs : r.sm) (hc : r.cd) : AFn Tryz.prog Γ 10 [.agg (r.ds.map C.d), .c (.d (.int .i64 kind))] [.d (.bool true)] := by
  have hf : fewB [r] ([] : List Int).length = true → r.ok := fun h => (few_ok h (fun x hx => by rw [List.mem_singleton.1 hx]; exact hc)).2.2 r (by simp)
  refine AFn.vc [] Tryz.func10 rfl Tryz.mixed (by kernel_rfl) Tryz.ntmps10 Tryz.results10 (by simp) ?_
  push_cast
  refine CallL.q (c43 hΓ) ?_
  push_cast
  refine CallX.q (c44 [r] [] (fun x hx => by rw [List.mem_singleton.1 hx]; exact hs)) ?_
  push_cast
  intro e
  have h3 := hf e
  refine CallX.q (c46 hΓ kind r h3.fit h3.cd) ?_
  push_cast
  refine CallX.q (c47 kind r h3.fit) ?_
  push_cast
  refine CallX.q (c45 (valuesF kind r) (valuesF kind r) (by have := values_len kind r h3.fit; omega)) ?_
  push_cast
theorem narrow_bd (l : List Rec) (kind : Int) (value : Str) (ids : List Int) : (narrowF l ids kind value).length ≤ ids.length := by
  have := narrow_len l kind value ids []
  simpa [narrowF] using this
theorem count_bd (kind : Int) (l : List Rec) (ids : List Int) (hl : l.length ≤ 100) (hok : ∀ r ∈ l, r.ok) : (countF l ids kind).length ≤ 200100 := by
  unfold countF
  rw [List.length_map]
  refine Nat.le_trans (putsS_len _) ?_
  have h1 := vs_len kind (selR l ids) (fun r hr => (hok r (List.mem_filter.1 hr).1).fit)
  have h2 := sel_len l ids
  omega
theorem c11 (hΓ : (4, powD) ∈ Γ) (l : List Rec) (ids : List Int) (kind : Int) (value : Str) (hs : ∀ r ∈ l, r.sm) (hc : ∀ r ∈ l, r.cd) (hv : value.length ≤ 2000000) : AFn Tryz.prog Γ 11 [.c (.d (.lst 5 (l.map Rec.ds))), .c (.d (.lst 1 (ids.map Fc.iD))), .c (.d (.int .i64 kind)), .c (.d (.str value))] [.d (.bool true)] := by
  refine AFn.vc [] Tryz.func11 rfl Tryz.mixed (by kernel_rfl) Tryz.ntmps11 Tryz.results11 (by simp) ?_
  push_cast
  refine CallL.q (c43 hΓ) ?_
  push_cast
  refine CallL.q (c44 l ids hs) ?_
  push_cast
  intro e e2
  obtain ⟨h1, h2, h3⟩ := few_ok e hc
  refine CallL.q (c49 hΓ l ids kind (by omega) (by omega) h3) ?_
  push_cast
  refine CallL.q (c50 l ids kind (by omega) (by omega) h3) ?_
  push_cast
  refine CallL.q (c48 (countF l ids kind) (countF l ids kind) (by have := count_bd kind l ids (by omega) h3; omega)) ?_
  push_cast
  refine CallL.q (c52 hΓ l ids kind value (by omega) (by omega) h3) ?_
  push_cast
  refine CallL.q (c53 l ids kind value (by omega) (by omega) h3) ?_
  push_cast
  refine CallL.q (c51 (narrowF l ids kind value) (narrowF l ids kind value) (by have := narrow_bd l kind value ids; omega)) ?_
  push_cast
end Go.Proofs
