/- Walks of the chapter on privacy, seventh part. -/
import Derived.Test.YtjnljbimandmcaaPWf
import Derived.Test.YtjnljbimandmcaaAxVg
set_option linter.all false
namespace Go.Proofs
open Go Go.Ax Go.Pv
set_option maxRecDepth 100000
variable {Γ : List (Nat × List D)}
theorem c14 (R C : Nat) (cs : List Int) (hO : Okn R C cs) : AFn Try.prog Γ 14 [.agg (Tab.cs ⟨R, C, cs⟩)] [.d (.bool (rightB ⟨R, C, cs⟩ && decide (firstF R C cs < 0)))] := by
  refine AFn.vc [] Try.func14 rfl Try.mixed (by kernel_rfl) Try.ntmps14 Try.results14 (by simp) ?_
  push_cast
  refine CallL.q (c10 ⟨R, C, cs⟩) ?_
  push_cast
  refine ⟨fun h => ?_, fun h => by rw [h]; rfl⟩
  refine CallL.q (c27 R C cs hO) ?_
  push_cast
  rw [h]; rfl
theorem c15 (R C : Nat) (cs : List Int) (hO : Okn R C cs) : AFn Try.prog Γ 15 [.agg (Tab.cs ⟨R, C, cs⟩)] [.d (.bool (decide (firstF R C cs < 0)))] := by
  refine AFn.vc [] Try.func15 rfl Try.mixed (by kernel_rfl) Try.ntmps15 Try.results15 (by simp) ?_
  push_cast
  refine CallL.q (c28 R C cs hO) ?_
  push_cast
def fC (cs : List Int) (c : Nat) : Int := max (cs.getD c 0) 0
def totF (cs : List Int) (q : Nat → Nat) (k i : Nat) : Int := ((List.range k).map fun c => if q c = i then fC cs c else 0).sum
def rowsF (R C : Nat) (cs : List Int) : List Int := (List.range R).map fun i => ((List.range C).map fun j => fC cs (i * C + j)).sum
def colsF (R C : Nat) (cs : List Int) : List Int := (List.range C).map fun j => ((List.range R).map fun i => fC cs (i * C + j)).sum
theorem fC_bd {cs : List Int} (hr : ∀ v ∈ cs, v ≤ 1000000) (c : Nat) : 0 ≤ fC cs c ∧ fC cs c ≤ 1000000 := by
  unfold fC
  refine ⟨by omega, ?_⟩
  by_cases h : c < cs.length
  · have := hr _ (List.getElem_mem h)
    simp only [List.getD_eq_getElem?_getD, List.getElem?_eq_getElem h, Option.getD_some]; omega
  · simp only [List.getD_eq_getElem?_getD, List.getElem?_eq_none (show cs.length ≤ c by omega), Option.getD_none]; omega
theorem sum_bd {l : List Nat} {f : Nat → Int} (h : ∀ c, 0 ≤ f c ∧ f c ≤ 1000000) : 0 ≤ (l.map f).sum ∧ (l.map f).sum ≤ l.length * 1000000 := by
  induction l with
  | nil => simp
  | cons x l ih => have := h x; simp only [List.map_cons, List.sum_cons, List.length_cons]; omega
theorem sum_next (f : Nat → Int) (k : Nat) : ((List.range (k + 1)).map f).sum = ((List.range k).map f).sum + f k := by
  rw [List.range_succ, List.map_append, List.sum_append]; simp
theorem tot_succ (cs : List Int) (q : Nat → Nat) (k i : Nat) : totF cs q (k + 1) i = totF cs q k i + if q k = i then fC cs k else 0 := sum_next _ k
theorem tot_bd {cs : List Int} (hr : ∀ v ∈ cs, v ≤ 1000000) (q : Nat → Nat) (k i : Nat) : 0 ≤ totF cs q k i ∧ totF cs q k i ≤ k * 1000000 := by
  have := sum_bd (l := List.range k) (f := fun c => if q c = i then fC cs c else 0) (fun c => by
    have := fC_bd hr c
    split <;> omega)
  simpa [totF] using this
theorem rowsK_set (cs : List Int) (q : Nat → Nat) (n k : Nat) (hk : q k < n) : ((List.range n).map (totF cs q k)).set (q k) (totF cs q k (q k) + fC cs k) = (List.range n).map (totF cs q (k + 1)) := by
  apply List.ext_getElem (by simp)
  intro i h1 h2
  simp only [List.length_set, List.length_map, List.length_range] at h1
  rw [List.getElem_set]
  simp only [List.getElem_map, List.getElem_range, tot_succ]
  split
  · next e => subst e; first | rfl | (rw [if_pos rfl])
  · next e => first | omega | (rw [if_neg e]; omega)
theorem rowsK_same (cs : List Int) (q : Nat → Nat) (n k : Nat) (hk : fC cs k = 0) : (List.range n).map (totF cs q k) = (List.range n).map (totF cs q (k + 1)) := by
  apply List.map_congr_left
  intro i _
  rw [tot_succ, hk]; split <;> omega
theorem sum_ite (p : Nat → Bool) (f : Nat → Int) : ∀ l : List Nat, (l.map fun c => if p c = true then f c else 0).sum = ((l.filter p).map f).sum
  | [] => rfl
  | x :: l => by
    rw [List.map_cons, List.sum_cons, sum_ite p f l, List.filter_cons]
    split <;> simp
theorem tot_row (R C : Nat) (cs : List Int) (hO : Okn R C cs) : (List.range R).map (totF cs (· / C) cs.length) = rowsF R C cs := by
  apply List.map_congr_left
  intro i hi
  have h1 := sum_ite (fun c => decide (c / C = i)) (fC cs) (List.range cs.length)
  simp only [decide_eq_true_eq] at h1
  unfold totF
  rw [h1, hO.len, filt_row R C i hO.c1, if_pos (List.mem_range.1 hi), List.map_map]; rfl
theorem tot_col (R C : Nat) (cs : List Int) (hO : Okn R C cs) : (List.range C).map (totF cs (· % C) cs.length) = colsF R C cs := by
  apply List.map_congr_left
  intro i hi
  have h1 := sum_ite (fun c => decide (c % C = i)) (fC cs) (List.range cs.length)
  simp only [decide_eq_true_eq] at h1
  unfold totF
  rw [h1, hO.len, filt_col R C i (List.mem_range.1 hi), List.map_map]; rfl
theorem tot_zero (cs : List Int) (q : Nat → Nat) (n : Nat) : ((List.range n).map (totF cs q 0)).map iD = List.replicate n [D.int .i64 0] := by
  apply List.ext_getElem (by simp)
  intro i h1 h2
  simp [totF, iD]
theorem right_le {R C : Nat} {cs : List Int} (hr : rightB ⟨R, C, cs⟩ = true) : ∀ v ∈ cs, -1 ≤ v ∧ v ≤ 1000000 := by
  unfold rightB at hr
  have := (Bool.and_eq_true_iff.1 hr).2
  intro v hv
  exact of_decide_eq_true (List.all_eq_true.1 this v hv)
theorem fC_imax {cs : List Int} {c : Nat} (h : c < cs.length) : fC cs c = imax cs[c] 0 := by
  simp only [fC, imax, List.getD_eq_getElem?_getD, List.getElem?_eq_getElem h, Option.getD_some]
  omega
theorem c13 (R C : Nat) (cs : List Int) (hO : Okn R C cs) (hr : ∀ v ∈ cs, v ≤ 1000000) : AFn Try.prog Γ 13 [.agg (Tab.cs ⟨R, C, cs⟩)] [.d (.lst 1 ((rowsF R C cs).map iD)), .d (.lst 1 ((colsF R C cs).map iD))] := by
  refine AFn.vc [] Try.func13 rfl Try.mixed (by kernel_rfl) Try.ntmps13 Try.results13 (by simp) ?_
  have hR := hO.r8
  have hC := hO.c8
  have hC1 := hO.c1
  have hrl : (rowsF R C cs).length = R := by simp [rowsF]
  have hcl : (colsF R C cs).length = C := by simp [colsF]
  push_cast
  refine LoopV.cntH Try.mixed [1, 5] R (fun i => [(4, .c (.own 1 i)), (6, .c (.d (.int .i64 i)))]) (fun i => [.box 24 (Tab.cs ⟨R, C, cs⟩), .row 3 1 (((rowsF R C cs).take i).map iD) i, .row 3 1 [] 0]) (fun _ => True) trivial ?_ (by push_cast)
  intro i hi _
  push_cast
  refine ⟨fun h => ?_, fun h => ?_⟩
  · have hiR : i < R := by omega
    refine LoopV.cntH Try.mixed [1, 4, 5, 6] C (fun j => [(7, .c (.d (.int .i64 (((List.range j).map fun j => fC cs (i * C + j)).sum)))), (8, .c (.d (.int .i64 j)))]) (fun _ => [.box 24 (Tab.cs ⟨R, C, cs⟩), .row 3 1 (((rowsF R C cs).take i).map iD) i, .row 3 1 [] 0]) (fun _ => True) trivial ?_ (by push_cast; rfl)
    intro j hj _
    push_cast
    have hp : (i : Int) * (C : Int) = ((i * C : Nat) : Int) := (Int.natCast_mul _ _).symm
    have hsb := sum_bd (l := List.range j) (f := fun j => fC cs (i * C + j)) (fun c => fC_bd hr _)
    rw [List.length_range] at hsb
    rw [hp]
    refine ⟨fun h2 => ?_, fun h2 => ?_⟩
    · have hjC : j < C := by omega
      have hb := lt_of_rc hO hiR hjC
      have hle := hO.le
      have hf := fC_bd hr (i * C + j)
      have hn : ((i * C : Nat) : Int) + (j : Int) = ((i * C + j : Nat) : Int) := by omega
      have he := fC_imax hb
      rw [sum_next]
      simp only [hn, Int.toNat_natCast, ← he]
      refine ⟨⟨by omega, by omega⟩, ⟨by omega, by omega⟩, by omega, hb, ⟨by omega, by omega⟩, ⟨by omega, by omega⟩, hjC, trivial⟩
    · obtain rfl : j = C := by omega
      rw [hrl]
      refine ⟨⟨by omega, by omega⟩, ⟨by omega, by omega⟩, hiR, ?_⟩
      rw [map_take_next _ (show i < (rowsF R j cs).length by omega)]
      congr 1
      simp [rowsF, iD]
  obtain rfl : i = R := by omega
  rw [take_all (show (rowsF i C cs).length ≤ i by omega)]
  refine LoopV.cntH Try.mixed [1, 4] C (fun j => [(5, .c (.own 2 j)), (9, .c (.d (.int .i64 j)))]) (fun j => [.box 24 (Tab.cs ⟨i, C, cs⟩), .row 3 1 ((rowsF i C cs).map iD) i, .row 3 1 (((colsF i C cs).take j).map iD) j]) (fun _ => True) trivial ?_ (by push_cast)
  intro j hj _
  push_cast
  refine ⟨fun h => ?_, fun h => ?_⟩
  · have hjC : j < C := by omega
    refine LoopV.cntH Try.mixed [1, 4, 5, 9] i (fun r => [(10, .c (.d (.int .i64 (((List.range r).map fun r => fC cs (r * C + j)).sum)))), (11, .c (.d (.int .i64 r)))]) (fun _ => [.box 24 (Tab.cs ⟨i, C, cs⟩), .row 3 1 ((rowsF i C cs).map iD) i, .row 3 1 (((colsF i C cs).take j).map iD) j]) (fun _ => True) trivial ?_ (by push_cast; rfl)
    intro r hr' _
    push_cast
    have hp : (r : Int) * (C : Int) = ((r * C : Nat) : Int) := (Int.natCast_mul _ _).symm
    have hsb := sum_bd (l := List.range r) (f := fun r => fC cs (r * C + j)) (fun c => fC_bd hr _)
    rw [List.length_range] at hsb
    rw [hp]
    refine ⟨fun h2 => ?_, fun h2 => ?_⟩
    · have hrR : r < i := by omega
      have hb := lt_of_rc hO hrR hjC
      have hle := hO.le
      have hf := fC_bd hr (r * C + j)
      have hn : ((r * C : Nat) : Int) + (j : Int) = ((r * C + j : Nat) : Int) := by omega
      have he := fC_imax hb
      rw [sum_next]
      simp only [hn, Int.toNat_natCast, ← he]
      refine ⟨⟨by omega, by omega⟩, ⟨by omega, by omega⟩, by omega, hb, ⟨by omega, by omega⟩, ⟨by omega, by omega⟩, hrR, trivial⟩
    · obtain rfl : r = i := by omega
      rw [hcl]
      refine ⟨⟨by omega, by omega⟩, ⟨by omega, by omega⟩, hjC, ?_⟩
      rw [map_take_next _ (show j < (colsF r C cs).length by omega)]
      congr 1
      simp [colsF, iD]
  · rw [take_all (by omega)]
def tr12 : Tr := (.cons 0 (.cons 1 (.cons 2 (.cons 3 (.cons 4 (.cons 5 (.cons 6 (.cons 7 .leaf .nil) .nil) (.cons 6 (.cons 5 (.cons 7 .leaf .nil) .nil) .nil)) (.cons 6 (.cons 4 (.cons 5 (.cons 7 .leaf .nil) .nil) .nil) .nil)) (.cons 6 (.cons 3 (.cons 4 (.cons 5 (.cons 7 .leaf .nil) .nil) .nil) .nil) .nil)) (.cons 3 (.cons 2 (.cons 4 (.cons 5 (.cons 6 (.cons 7 .leaf .nil) .nil) (.cons 6 (.cons 5 (.cons 7 .leaf .nil) .nil) .nil)) (.cons 6 (.cons 4 (.cons 5 (.cons 7 .leaf .nil) .nil) .nil) .nil)) (.cons 4 (.cons 2 (.cons 5 (.cons 6 (.cons 7 .leaf .nil) .nil) (.cons 6 (.cons 5 (.cons 7 .leaf .nil) .nil) .nil)) (.cons 5 (.cons 2 (.cons 6 (.cons 7 .leaf .nil) .nil) .nil) .nil)) .nil)) .nil)) (.cons 3 (.cons 1 (.cons 2 (.cons 4 (.cons 5 (.cons 6 (.cons 7 .leaf .nil) .nil) (.cons 6 (.cons 5 (.cons 7 .leaf .nil) .nil) .nil)) (.cons 6 (.cons 4 (.cons 5 (.cons 7 .leaf .nil) .nil) .nil) .nil)) (.cons 4 (.cons 2 (.cons 5 (.cons 6 (.cons 7 .leaf .nil) .nil) (.cons 6 (.cons 5 (.cons 7 .leaf .nil) .nil) .nil)) (.cons 5 (.cons 2 (.cons 6 (.cons 7 .leaf .nil) .nil) .nil) .nil)) .nil)) (.cons 4 (.cons 1 (.cons 2 (.cons 5 (.cons 6 (.cons 7 .leaf .nil) .nil) (.cons 6 (.cons 5 (.cons 7 .leaf .nil) .nil) .nil)) (.cons 5 (.cons 2 (.cons 6 (.cons 7 .leaf .nil) .nil) .nil) .nil)) (.cons 5 (.cons 1 (.cons 2 (.cons 6 (.cons 7 .leaf .nil) .nil) .nil) .nil) .nil)) .nil)) .nil)) (.cons 3 (.cons 0 (.cons 1 (.cons 2 (.cons 4 (.cons 5 (.cons 6 (.cons 7 .leaf .nil) .nil) (.cons 6 (.cons 5 (.cons 7 .leaf .nil) .nil) .nil)) (.cons 6 (.cons 4 (.cons 5 (.cons 7 .leaf .nil) .nil) .nil) .nil)) (.cons 4 (.cons 2 (.cons 5 (.cons 6 (.cons 7 .leaf .nil) .nil) (.cons 6 (.cons 5 (.cons 7 .leaf .nil) .nil) .nil)) (.cons 5 (.cons 2 (.cons 6 (.cons 7 .leaf .nil) .nil) .nil) .nil)) .nil)) (.cons 4 (.cons 1 (.cons 2 (.cons 5 (.cons 6 (.cons 7 .leaf .nil) .nil) (.cons 6 (.cons 5 (.cons 7 .leaf .nil) .nil) .nil)) (.cons 5 (.cons 2 (.cons 6 (.cons 7 .leaf .nil) .nil) .nil) .nil)) (.cons 5 (.cons 1 (.cons 2 (.cons 6 (.cons 7 .leaf .nil) .nil) .nil) .nil) .nil)) .nil)) (.cons 4 (.cons 0 (.cons 1 (.cons 2 (.cons 5 (.cons 6 (.cons 7 .leaf .nil) .nil) (.cons 6 (.cons 5 (.cons 7 .leaf .nil) .nil) .nil)) (.cons 5 (.cons 2 (.cons 6 (.cons 7 .leaf .nil) .nil) .nil) .nil)) (.cons 5 (.cons 1 (.cons 2 (.cons 6 (.cons 7 .leaf .nil) .nil) .nil) .nil) .nil)) (.cons 5 (.cons 0 (.cons 1 (.cons 2 (.cons 6 (.cons 7 .leaf .nil) .nil) .nil) .nil) .nil) .nil)) .nil)) .nil))
def s12 (R C : Nat) (cs : List Int) (i j : Nat) (h1 h2 : LB) : St := ⟨[[.agg (Tab.cs ⟨R, C, cs⟩), .c (.loc 0 0), .c (.d (.raw (.slice none 0 0))), .c (.d (.raw (.slice none 0 0))), .c (.own i 0), .c (.own j 0)], [.agg (Tab.cs ⟨R, C, cs⟩), .c (.d (.bool true)), .c (.d (.bool (!true))), .c (.loc 0 0), .c (.d (.int .i64 R)), .c (.own i 0), .c (.loc 0 1), .c (.d (.int .i64 C))], [.c (.own j 0)]], [.box 24 (Tab.cs ⟨R, C, cs⟩), h1, h2]⟩
theorem c12 (R C : Nat) (cs : List Int) (hO : Okn R C cs) (hr : rightB ⟨R, C, cs⟩ = true) : AFn Try.prog Γ 12 [.agg (Tab.cs ⟨R, C, cs⟩)] [.d (.lst 1 ((rowsF R C cs).map iD)), .d (.lst 1 ((colsF R C cs).map iD))] := by
  refine AFn.vc [1000003] Try.func12 rfl Try.mixed (by kernel_rfl) Try.ntmps12 Try.results12 (by simp) ?_
  have hR := hO.r8
  have hC := hO.c8
  have hC1 := hO.c1
  push_cast
  refine CallL.q (c10 ⟨R, C, cs⟩) ?_
  rw [hr]
  push_cast
  refine RegV.any (E := []) Try.mixed tr12 (by kernel_rfl) (fun st => st = s12 R C cs 1 2 (.row 3 1 (List.replicate R [D.int .i64 0]) 0) (.row 3 1 (List.replicate C [D.int .i64 0]) 0) ∨ st = s12 R C cs 2 1 (.row 3 1 (List.replicate C [D.int .i64 0]) 0) (.row 3 1 (List.replicate R [D.int .i64 0]) 0)) ?_ ?_
  · unfold tr12
    push_cast
    repeat' apply And.intro
    all_goals first
      | omega
      | exact .inl rfl
      | exact .inr rfl
  intro st' hst
  rcases hst with rfl | rfl
  · unfold s12
    push_cast
    refine LoopV.cntH Try.mixed [1, 4, 5, 18, 19] cs.length (fun k => [(20, .c (.d (.int .i64 k)))]) (fun k => [.box 24 (Tab.cs ⟨R, C, cs⟩), .row 3 1 (((List.range R).map (totF cs (· / C) k)).map iD) 0, .row 3 1 (((List.range C).map (totF cs (· % C) k)).map iD) 0]) (fun _ => True) trivial ?_ (by push_cast; rw [tot_zero, tot_zero]; exact ⟨rfl, rfl⟩)
    intro k hk _
    push_cast
    have e1 : (k : Int) / C = ((k / C : Nat) : Int) := (Int.natCast_ediv _ _).symm
    have e2 : (k : Int) % C = ((k % C : Nat) : Int) := (Int.natCast_emod _ _).symm
    have hle := hO.le
    have hrr := right_le hr
    have hr2 : ∀ v ∈ cs, v ≤ 1000000 := fun v hv => (hrr v hv).2
    have b1 := tot_bd hr2 (fun x => x / C) k (k / C)
    have b2 := tot_bd hr2 (fun x => x % C) k (k % C)
    simp only [e1, e2, List.getElem_range]
    refine ⟨fun h => ?_, fun h => ?_⟩
    · have hk' : k < cs.length := by omega
      have hd := hO.div hk'
      have hm := hO.mod k
      have hv := hrr _ (List.getElem_mem hk')
      have hf := fC_imax hk'
      refine ⟨hk', fun a => ?_, fun a => ?_⟩
      · have hfv : fC cs k = cs[k] := by rw [hf, imax, if_neg (by omega)]
        rw [← hfv] at a hv ⊢
        have s1 := rowsK_set cs (fun x => x / C) R k hd
        have s2 := rowsK_set cs (fun x => x % C) C k hm
        refine ⟨⟨by omega, by omega⟩, by omega, hd, ⟨by omega, by omega⟩, by omega, hd, by omega, by omega, hm, ⟨by omega, by omega⟩, by omega, hm, ⟨by omega, by omega⟩, hk', ?_, ?_⟩
        · rw [← s1, ← map_set']; rfl
        · rw [← s2, ← map_set']; rfl
      · have h0 : fC cs k = 0 := by rw [hf, a]; rfl
        refine ⟨⟨by omega, by omega⟩, hk', ?_, ?_⟩
        · rw [rowsK_same cs (fun x => x / C) R k h0]
        · rw [rowsK_same cs (fun x => x % C) C k h0]
    · obtain rfl : k = cs.length := by omega
      exact ⟨by rw [← tot_row R C cs hO], by rw [← tot_col R C cs hO]⟩
  · unfold s12
    push_cast
    refine LoopV.cntH Try.mixed [1, 4, 5, 18, 19] cs.length (fun k => [(20, .c (.d (.int .i64 k)))]) (fun k => [.box 24 (Tab.cs ⟨R, C, cs⟩), .row 3 1 (((List.range C).map (totF cs (· % C) k)).map iD) 0, .row 3 1 (((List.range R).map (totF cs (· / C) k)).map iD) 0]) (fun _ => True) trivial ?_ (by push_cast; rw [tot_zero, tot_zero]; exact ⟨rfl, rfl⟩)
    intro k hk _
    push_cast
    have e1 : (k : Int) / C = ((k / C : Nat) : Int) := (Int.natCast_ediv _ _).symm
    have e2 : (k : Int) % C = ((k % C : Nat) : Int) := (Int.natCast_emod _ _).symm
    have hle := hO.le
    have hrr := right_le hr
    have hr2 : ∀ v ∈ cs, v ≤ 1000000 := fun v hv => (hrr v hv).2
    have b1 := tot_bd hr2 (fun x => x / C) k (k / C)
    have b2 := tot_bd hr2 (fun x => x % C) k (k % C)
    simp only [e1, e2, List.getElem_range]
    refine ⟨fun h => ?_, fun h => ?_⟩
    · have hk' : k < cs.length := by omega
      have hd := hO.div hk'
      have hm := hO.mod k
      have hv := hrr _ (List.getElem_mem hk')
      have hf := fC_imax hk'
      refine ⟨hk', fun a => ?_, fun a => ?_⟩
      · have hfv : fC cs k = cs[k] := by rw [hf, imax, if_neg (by omega)]
        rw [← hfv] at a hv ⊢
        have s1 := rowsK_set cs (fun x => x / C) R k hd
        have s2 := rowsK_set cs (fun x => x % C) C k hm
        refine ⟨⟨by omega, by omega⟩, by omega, hd, ⟨by omega, by omega⟩, by omega, hd, by omega, by omega, hm, ⟨by omega, by omega⟩, by omega, hm, ⟨by omega, by omega⟩, hk', ?_, ?_⟩
        · rw [← s2, ← map_set']; rfl
        · rw [← s1, ← map_set']; rfl
      · have h0 : fC cs k = 0 := by rw [hf, a]; rfl
        refine ⟨⟨by omega, by omega⟩, hk', ?_, ?_⟩
        · rw [rowsK_same cs (fun x => x % C) C k h0]
        · rw [rowsK_same cs (fun x => x / C) R k h0]
    · obtain rfl : k = cs.length := by omega
      exact ⟨by rw [← tot_row R C cs hO], by rw [← tot_col R C cs hO]⟩
end Go.Proofs
