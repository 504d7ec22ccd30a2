/- Walks of the chapter on privacy, ninth part: statements. -/
import Derived.Test.YtjnljbimandmcaaPWh
set_option linter.all false
namespace Go.Proofs
open Go Go.Ax Go.Pv
set_option maxRecDepth 100000
variable {Γ : List (Nat × List D)}
theorem c4 (l : List Ev) (before patron : Int) : AFn Try.prog Γ 4 [.c (.d (.lst 7 (l.map Ev.ds))), .c (.d (.int .i64 before)), .c (.d (.int .i64 patron))] [.d (.bool true)] := by
  refine AFn.vc [] Try.func4 rfl Try.mixed (by kernel_rfl) Try.ntmps4 Try.results4 (by simp) ?_
  push_cast
  refine ⟨fun h => ?_, fun h => ?_⟩
  · refine CallL.q c9 ?_
    push_cast
  refine CallL.own (c18 l before (by omega)) ?_
  push_cast
  refine CallL.own (c19 l before (by omega)) ?_
  push_cast
  refine CallL.q (c17 (l.map (forgetE before)) (l.map (forgetE before)) (by simp; omega) (by simp; omega)) ?_
  rw [beq_self_eq_true]
  push_cast
  refine CallL.q (c20 l patron (by omega)) ?_
  push_cast
  refine CallL.q (c21 l patron (by omega)) ?_
  push_cast
  refine CallL.q c9 ?_
  push_cast
theorem eqT_self (t : Tab) : eqT t t = true := by simp [eqT]
theorem hide_len (t : Tab) (k : Int) : (hideF t k).cells.length = t.cells.length := by
  have key : ∀ (R C m : Nat) (cs : List Int), (hideLoop R C m cs).length = cs.length := by
    intro R C m
    induction m with
    | zero => intro cs; rfl
    | succ m ih => intro cs; simp only [hideLoop]; split <;> first | rfl | (rw [ih, List.length_set])
  unfold hideF
  split
  · simp only [key, hide0, List.length_map]
  · rfl
theorem c5 (t : Tab) (k : Int) : AFn Try.prog Γ 5 [.agg (t.ds.map C.d), .c (.d (.int .i64 k))] [.d (.bool true)] := by
  refine AFn.vc [] Try.func5 rfl Try.mixed (by kernel_rfl) Try.ntmps5 Try.results5 (by simp) ?_
  push_cast
  refine ⟨fun h => ?_, fun h => ?_⟩
  · refine CallX.q (c23 t k (by omega)) ?_
    push_cast
    refine CallX.q (c24 t k (by omega)) ?_
    push_cast
    refine CallX.q (c22' (hideF t k) (hideF t k) (by rw [hide_len]; omega) (by rw [hide_len]; omega) (eqT_self _)) ?_
    push_cast
    refine CallX.q c9 ?_
    push_cast
  · refine CallX.q c9 ?_
    push_cast
theorem c8 (l : List Ev) (before : Int) (e : Nat) (he : e < 65536) (hb1 : -9223372036854775808 ≤ before) (hb2 : before ≤ 9223372036854775807) : AFn Try.prog Γ 8 [.c (.d (.lst 7 (l.map Ev.ds))), .c (.d (.int .i64 before)), .c (.d (.int .u16 e))] [.d (.bool true)] := by
  refine AFn.vc [] Try.func8 rfl Try.mixed (by kernel_rfl) Try.ntmps8 Try.results8 (by simp) ?_
  push_cast
  refine ⟨fun h => ?_, fun h => ?_⟩
  · refine CallL.q c9 ?_
    push_cast
  refine CallL.own (c18 l before (by omega)) ?_
  push_cast
  refine LoopV.cntH Try.mixed [0, 1, 2, 7, 23] l.length (fun k => [(24, .c (.d (.int .i64 k)))]) (fun _ => [.row 41 7 ((l.map (forgetE before)).map Ev.ds) 0]) (fun _ => True) trivial ?_ (by push_cast)
  intro k hk _
  push_cast
  refine ⟨fun h2 => ?_, fun h2 => ⟨fun h3 => ?_, fun h3 => ⟨⟨by omega, by omega⟩, ⟨by omega, by omega⟩, ?_⟩⟩⟩
  · have hk' : k < l.length := by omega
    have f1 : l[k].day < before → forgetE before l[k] = { l[k] with patron := 0 } := fun a => by unfold forgetE; rw [if_pos a]
    have f2 : before ≤ l[k].day → forgetE before l[k] = l[k] := fun a => by unfold forgetE; rw [if_neg (by omega)]
    refine ⟨hk', fun a => ⟨by omega, by omega, fun hq => ?_, fun _ => ⟨⟨by omega, by omega⟩, hk'⟩⟩, fun a => ⟨by omega, by omega, fun hq => ?_, fun _ => ⟨⟨by omega, by omega⟩, hk'⟩⟩⟩
    · rw [f1 a] at hq; simp at hq
    · rw [f2 a] at hq; simp at hq
  · refine CallL.q c9 ?_
    push_cast
  · refine CallL.own (c18 (l.map (forgetE before)) (before - e) (by simp; omega)) ?_
    have hff : (l.map (forgetE before)).map (forgetE (before - e)) = l.map (forgetE before) := by
      rw [List.map_map]
      apply List.map_congr_left
      intro x _
      show forgetE (before - e) (forgetE before x) = forgetE before x
      by_cases a : x.day < before
      · have e1 : forgetE before x = { x with patron := 0 } := if_pos a
        rw [e1]; unfold forgetE; split <;> rfl
      · have e1 : forgetE before x = x := if_neg a
        rw [e1]; exact if_neg (by omega)
    rw [hff]
    push_cast
    refine CallL.q (c17 (l.map (forgetE before)) (l.map (forgetE before)) (by simp; omega) (by simp; omega)) ?_
    rw [beq_self_eq_true]
    push_cast
    refine CallL.q c9 ?_
    push_cast
theorem c3 (t : Tab) : AFn Try.prog Γ 3 [.agg (t.ds.map C.d)] [.d (.bool true)] := by
  refine AFn.vc [] Try.func3 rfl Try.mixed (by kernel_rfl) Try.ntmps3 Try.results3 (by simp) ?_
  push_cast
  refine ⟨fun h => ?_, fun h => ?_⟩
  · refine CallL.q c9 ?_
    push_cast
  refine CallX.q (c10 t) ?_
  push_cast
  refine CallX.q (c11 t) ?_
  push_cast
  refine fun _ => ?_
  refine CallL.q (c11 t) ?_
  push_cast
  refine ⟨fun hr => ?_, fun hr => ?_⟩
  · refine CallL.q c9 ?_
    push_cast
  · obtain ⟨R, C, ht, hO⟩ := okn_of hr
    obtain ⟨rows, cols, cs⟩ := t
    cases ht
    dsimp only at hO h ⊢
    have hrr := right_le hr
    have l1 : (rowsF R C cs).length = R := by simp [rowsF]
    have l2 : (colsF R C cs).length = C := by simp [colsF]
    have hR := hO.r8
    have hC := hO.c8
    refine CallL.q (c12 R C cs hO hr) ?_
    push_cast
    refine CallL.q (c13 R C cs hO fun v hv => (hrr v hv).2) ?_
    push_cast
    refine CallX.q (c14 R C cs hO) ?_
    push_cast
    refine CallX.q (c15 R C cs hO) ?_
    rw [hr, Bool.true_and]
    push_cast
    refine ⟨?_, fun hq => by simp at hq⟩
    refine CallX.q (c16 (rowsF R C cs) (rowsF R C cs) (by omega) (by omega)) ?_
    rw [beq_self_eq_true]
    push_cast
    refine CallX.q (c16 (colsF R C cs) (colsF R C cs) (by omega) (by omega)) ?_
    rw [beq_self_eq_true]
    push_cast
    refine CallX.q c9 ?_
    push_cast
end Go.Proofs
