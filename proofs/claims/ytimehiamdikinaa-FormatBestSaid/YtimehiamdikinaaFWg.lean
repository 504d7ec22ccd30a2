/- Walks of the chapter on formats, seventh part. -/
import Derived.Test.YtimehiamdikinaaFDc
set_option linter.all false
namespace Go.Proofs
open Go Go.Ax Go.Fm
set_option maxRecDepth 100000
variable {Γ : List (Nat × List D)}
structure OkF (f : Fmt) : Prop where
  u0 : 0 ≤ f.until_
  u1 : f.until_ ≤ 5000
  b0 : 0 ≤ f.base
  b1 : f.base ≤ 1000
  t : f.to.length ≤ 1000000
def bestStep (l : List Fmt) (at_ : Nat) (year : Int) (b : Nat × Int) (i : Nat) : Nat × Int :=
  if (distF l i).getD at_ 0 < 0 then b
  else if riskF (l.getD i noFmt) year < riskF (l.getD b.1 noFmt) year ∨ (riskF (l.getD i noFmt) year = riskF (l.getD b.1 noFmt) year ∧ (distF l i).getD at_ 0 < b.2) then (i, (distF l i).getD at_ 0) else b
def bestF (l : List Fmt) (at_ : Nat) (year : Int) : Nat := ((List.range l.length).foldl (bestStep l at_ year) (at_, 0)).1
theorem best_lt (l : List Fmt) (at_ : Nat) (year : Int) (h : at_ < l.length) : ∀ k, k ≤ l.length → ((List.range k).foldl (bestStep l at_ year) (at_, 0)).1 < l.length
  | 0, _ => h
  | k + 1, hk => by
    have ih := best_lt l at_ year h k (by omega)
    rw [List.range_succ, List.foldl_append]
    show (bestStep l at_ year _ k).1 < _
    unfold bestStep
    split
    · exact ih
    · split
      · show k < _; omega
      · exact ih
theorem c34 (l : List Fmt) (at_ : Nat) (year : Int) (ha : at_ < l.length) (hl : l.length ≤ 1000) (hv : ∀ f ∈ l, OkF f) (h5 : -9223372036854775808 ≤ year) (h6 : year ≤ 9223372036854775807) : AFn Try.prog Γ 34 [.c (.d (.lst 7 (l.map Fmt.ds))), .c (.d (.int .i64 at_)), .c (.d (.int .i64 year))] [.d (.int .i64 (bestF l at_ year))] := by
  refine AFn.vc [] Try.func34 rfl Try.mixed (by kernel_rfl) Try.ntmps34 Try.results34 (by simp) ?_
  push_cast
  refine LoopV.cnt Try.mixed [0, 1, 2, 15, 16] l.length (fun k => [(7, .c (.d (.int .i64 ((List.range k).foldl (bestStep l at_ year) (at_, 0)).1))), (8, .c (.d (.int .i64 ((List.range k).foldl (bestStep l at_ year) (at_, 0)).2))), (17, .c (.d (.int .i64 k)))]) (fun _ => True) trivial ?_ (by push_cast; exact ⟨rfl, rfl⟩)
  intro k hk _
  have hb := best_lt l at_ year ha k hk
  have hst : (List.range (k + 1)).foldl (bestStep l at_ year) (at_, 0) = bestStep l at_ year ((List.range k).foldl (bestStep l at_ year) (at_, 0)) k := by rw [List.range_succ, List.foldl_append]; rfl
  have hfin : k = l.length → ((List.range k).foldl (bestStep l at_ year) (at_, 0)).1 = bestF l at_ year := fun e => by rw [e]; rfl
  generalize (List.range k).foldl (bestStep l at_ year) (at_, 0) = b at *
  generalize (List.range (k + 1)).foldl (bestStep l at_ year) (at_, 0) = b' at *
  push_cast
  refine ⟨fun h => ?_, fun h => by rw [hfin (by omega)]⟩
  have hk' : k < l.length := by omega
  have hdl : (distF l k).length = l.length := distN_len l k l.length
  have g1 : (distF l k).getD at_ 0 = (distF l k)[at_]'(by omega) := by simp [List.getElem?_eq_getElem (show at_ < (distF l k).length by omega)]
  have g2 : l.getD k noFmt = l[k] := by simp [List.getElem?_eq_getElem hk']
  have g3 : l.getD b.1 noFmt = l[b.1] := by simp [List.getElem?_eq_getElem hb]
  unfold bestStep at hst
  rw [g1, g2, g3] at hst
  have v1 := hv _ (List.getElem_mem hk')
  have v2 := hv _ (List.getElem_mem hb)
  refine ⟨hk', ?_⟩
  refine CallL.q (c33 l k hk' hl fun f hf => (hv f hf).t) ?_
  push_cast
  refine ⟨by omega, fun a => ⟨⟨by omega, by omega⟩, hk', by rw [hst, if_pos a]; exact ⟨rfl, rfl⟩⟩, fun a => ?_⟩
  rw [if_neg (by omega)] at hst
  refine CallX.q (c18 l[k] year v1.u0 v1.b0 v1.b1 v1.u1 h5 h6) ?_
  push_cast
  refine ⟨by omega, ?_⟩
  refine CallX.q (c18 l[b.1] year v2.u0 v2.b0 v2.b1 v2.u1 h5 h6) ?_
  push_cast
  have y1 : (riskF l[k] year < riskF l[b.1] year ∨ riskF l[k] year = riskF l[b.1] year ∧ (distF l k)[at_]'(by omega) < b.2) → b' = (k, (distF l k)[at_]'(by omega)) := fun c => by rw [hst, if_pos c]
  have y2 : ¬ (riskF l[k] year < riskF l[b.1] year ∨ riskF l[k] year = riskF l[b.1] year ∧ (distF l k)[at_]'(by omega) < b.2) → b' = b := fun c => by rw [hst, if_neg c]
  refine ⟨fun c => ⟨fun d => ⟨fun e => ⟨⟨by omega, by omega⟩, hk', by rw [y1 (.inr ⟨d, e⟩)]; exact ⟨rfl, rfl⟩⟩, fun e => ⟨⟨by omega, by omega⟩, hk', by rw [y2 (by omega)]; exact ⟨rfl, rfl⟩⟩⟩, fun d => ⟨⟨by omega, by omega⟩, hk', by rw [y2 (by omega)]; exact ⟨rfl, rfl⟩⟩⟩, fun c => ⟨⟨by omega, by omega⟩, hk', by rw [y1 (.inl c)]; exact ⟨rfl, rfl⟩⟩⟩
end Go.Proofs
