/- Walks of the chapter on privacy, third part. -/
import Derived.Test.YtjnljbimandmcaaPGa
set_option linter.all false
namespace Go.Proofs
open Go Go.Ax Go.Pv
set_option maxRecDepth 100000
variable {Γ : List (Nat × List D)}
theorem c42 (R C : Nat) (cs : List Int) (hO : Okn R C cs) (row w : Nat) : AFn Try.prog Γ 42 [.agg (Tab.cs ⟨R, C, cs⟩), .c (.d (.int .i64 row)), .c (.d (.int .i64 w))] [.d (.lst 1 ((connN R C cs row w (R + C)).map bD))] := by
  refine AFn.vc [] Try.func42 rfl Try.mixed (by kernel_rfl) Try.ntmps42 Try.results42 (by simp) ?_
  have hR := hO.r8
  have hC := hO.c8
  push_cast
  refine LoopV.cntH Try.mixed [1, 2, 3] (R + C) (fun k => [(8, .c (.d (.int .i64 k))), (7, .c (.own 1 k))]) (fun k => [.box 24 (Tab.cs ⟨R, C, cs⟩), .row 4 1 (((List.range k).map fun i => i == row).map bD) k]) (fun _ => True) trivial ?_ (by push_cast; rfl)
  intro k hk _
  push_cast
  refine ⟨by omega, fun h => ⟨⟨by omega, by omega⟩, by omega, by omega, ?_⟩, fun h => ?_⟩
  · rw [List.range_succ, List.map_append, List.map_append]
    have : (k == row) = decide ((k : Int) = row) := by rw [Bool.eq_iff_iff]; simp; omega
    simp only [List.map_cons, List.map_nil, this]; rfl
  obtain rfl : k = R + C := by omega
  refine LoopV.cntH Try.mixed [2, 3] (R + C) (fun r => [(9, .c (.d (.int .i64 r))), (7, .c (.d (.lst 1 ((connN R C cs row w r).map bD))))]) (fun _ => [.box 24 (Tab.cs ⟨R, C, cs⟩)]) (fun _ => True) trivial ?_ (by push_cast; rfl)
  intro r hr _
  push_cast
  refine ⟨by omega, fun h => ?_, fun h => ?_⟩
  · have hlen := connN_len R C cs row w r
    refine LoopV.cntH Try.mixed [2, 3, 7, 9] (R + C) (fun i => [(11, .c (.d (.int .i64 i))), (10, .c (.own 1 i))]) (fun i => [.box 24 (Tab.cs ⟨R, C, cs⟩), .row 4 1 (((List.range i).map fun i => (connN R C cs row w r).getD i false || reachedF R C cs (connN R C cs row w r) i w).map bD) i]) (fun _ => True) trivial ?_ (by push_cast; rfl)
    intro i hi _
    push_cast
    have hst : ∀ i, ((List.range (i + 1)).map fun i => (connN R C cs row w r).getD i false || reachedF R C cs (connN R C cs row w r) i w).map bD = ((List.range i).map fun i => (connN R C cs row w r).getD i false || reachedF R C cs (connN R C cs row w r) i w).map bD ++ [bD ((connN R C cs row w r).getD i false || reachedF R C cs (connN R C cs row w r) i w)] := fun i => by
      rw [List.range_succ, List.map_append, List.map_append]; rfl
    refine ⟨fun h2 => ⟨by omega, fun a => ?_, fun a => ?_⟩, fun h2 => ?_⟩
    · refine CallL.q (c43 R C cs hO (connN R C cs row w r) hlen i w) ?_
      push_cast
      refine ⟨⟨by omega, by omega⟩, by omega, by omega, ?_⟩
      rw [hst]; simp [bD, List.getElem?_eq_getElem (show i < (connN R C cs row w r).length by omega), a]
    · refine ⟨⟨by omega, by omega⟩, by omega, by omega, ?_⟩
      rw [hst]; simp [bD, List.getElem?_eq_getElem (show i < (connN R C cs row w r).length by omega), a]
    · refine ⟨by omega, by omega, ?_⟩
      obtain rfl : i = R + C := by omega
      simp only [connN, connStep, hlen]
  · obtain rfl : r = R + C := by omega
    rfl
theorem c41 (R C : Nat) (cs : List Int) (hO : Okn R C cs) (row col : Int) : AFn Try.prog Γ 41 [.agg (Tab.cs ⟨R, C, cs⟩), .c (.d (.int .i64 row)), .c (.d (.int .i64 col))] [.d (.int .i64 (smallF cs ((List.range cs.length).filter fun c => decide ((c : Int) / C = row) || decide ((c : Int) % C = col))))] := by
  refine AFn.vc [] Try.func41 rfl Try.mixed (by kernel_rfl) Try.ntmps41 Try.results41 (by simp) ?_
  have hle := hO.le
  have hc1 := hO.c1
  push_cast
  refine LoopV.cnt Try.mixed [1, 2, 3] cs.length (fun k => [(8, .c (.d (.int .i64 k))), (7, .c (.d (.int .i64 (smallF cs ((List.range k).filter fun c => decide ((c : Int) / C = row) || decide ((c : Int) % C = col))))))]) (fun _ => True) trivial ?_ (by push_cast; rfl)
  intro k hk _
  push_cast
  have hb : -1 ≤ smallF cs ((List.range k).filter fun c => decide ((c : Int) / C = row) || decide ((c : Int) % C = col)) ∧ smallF cs ((List.range k).filter fun c => decide ((c : Int) / C = row) || decide ((c : Int) % C = col)) < cs.length :=
    small_bd cs _ fun x hx => by have := List.mem_range.1 (List.mem_filter.1 hx).1; omega
  have st : smallF cs ((List.range (k + 1)).filter fun c => decide ((c : Int) / C = row) || decide ((c : Int) % C = col)) = if (k : Int) / C = row ∨ (k : Int) % C = col then smStep cs (smallF cs ((List.range k).filter fun c => decide ((c : Int) / C = row) || decide ((c : Int) % C = col))) k else smallF cs ((List.range k).filter fun c => decide ((c : Int) / C = row) || decide ((c : Int) % C = col)) := by
    rw [List.range_succ, List.filter_append]
    unfold smallF
    rw [List.foldl_append]
    by_cases hq : (k : Int) / C = row ∨ (k : Int) % C = col
    · rw [if_pos hq, List.filter_cons_of_pos (by simpa using hq)]; rfl
    · rw [if_neg hq, List.filter_cons_of_neg (by simpa using hq)]; rfl
  have fin : k = cs.length → smallF cs ((List.range k).filter fun c => decide ((c : Int) / C = row) || decide ((c : Int) % C = col)) = smallF cs ((List.range cs.length).filter fun c => decide ((c : Int) / C = row) || decide ((c : Int) % C = col)) := fun h => by rw [h]
  generalize smallF cs ((List.range k).filter fun c => decide ((c : Int) / C = row) || decide ((c : Int) % C = col)) = b at *
  generalize smallF cs ((List.range (k + 1)).filter fun c => decide ((c : Int) / C = row) || decide ((c : Int) % C = col)) = b' at *
  subst st
  refine ⟨fun h => ?_, fun h => fin (by omega)⟩
  have hk' : k < cs.length := by omega
  have f1 : cs[k]? = some cs[k] := List.getElem?_eq_getElem hk'
  have f2 : 0 ≤ b → cs[b.toNat]? = some (cs.getD b.toNat 0) := fun h => by
    have : b.toNat < cs.length := by omega
    simp [List.getElem?_eq_getElem this]
  clear fin
  generalize hx : (k : Int) / C = x at *
  generalize hy : (k : Int) % C = y at *
  repeat' (first | apply And.intro | intro _ | refine Exists.intro (by omega) ?_)
  all_goals first | omega | skip
  all_goals
    by_cases hq : x = row ∨ y = col
    · rw [if_pos hq]
      first
      | (simp_all [smStep, better]; done)
      | (simp_all [smStep, better]
         try (rw [show decide (b < 0) = false from decide_eq_false (by omega), show decide (cs[k] < cs[b.toNat]) = false from decide_eq_false (by omega)]; rfl))
    · rw [if_neg hq] <;> first | (simp_all; done) | omega
theorem c36 (R C : Nat) (cs : List Int) (hO : Okn R C cs) (c : Nat) (hc : c < cs.length) : AFn Try.prog Γ 36 [.agg (Tab.cs ⟨R, C, cs⟩), .c (.d (.int .i64 c))] [.d (.bool (detF R C cs c))] := by
  refine AFn.vc [] Try.func36 rfl Try.mixed (by kernel_rfl) Try.ntmps36 Try.results36 (by simp) ?_
  have hR := hO.r8
  have hC := hO.c8
  have hC1 := hO.c1
  have hle := hO.le
  have hm := hO.mod c
  have g1 : (c : Int) / C = ((c / C : Nat) : Int) := (Int.natCast_ediv _ _).symm
  have g2 : (c : Int) % C = ((c % C : Nat) : Int) := (Int.natCast_emod _ _).symm
  push_cast
  refine ⟨by omega, ?_⟩
  rw [g1]
  refine CallX.q (c42 R C cs hO (c / C) c) ?_
  have hlen := connN_len R C cs (c / C) c (R + C)
  push_cast
  rw [g2]
  refine ⟨by omega, ⟨by omega, by omega⟩, by omega, by omega, ?_⟩
  simp [detF, List.getElem?_eq_getElem (show R + c % C < (connN R C cs (c / C) c (R + C)).length by omega)]
theorem findN_step {p : Nat → Bool} {n k : Nat} (h : k < n) : findN p (n - k) k = if p k = true then (k : Int) else findN p (n - (k + 1)) (k + 1) := by
  obtain ⟨m, hm⟩ : ∃ m, n - k = m + 1 := ⟨n - k - 1, by omega⟩
  have : n - (k + 1) = m := by omega
  rw [hm, this]; rfl
theorem findN_end {p : Nat → Bool} {n k : Nat} (h : n ≤ k) : findN p (n - k) k = -1 := by
  have : n - k = 0 := by omega
  rw [this]; rfl
theorem c28 (R C : Nat) (cs : List Int) (hO : Okn R C cs) : AFn Try.prog Γ 28 [.agg (Tab.cs ⟨R, C, cs⟩)] [.d (.int .i64 (firstF R C cs))] := by
  refine AFn.vc [] Try.func28 rfl Try.mixed (by kernel_rfl) Try.ntmps28 Try.results28 (by simp) ?_
  have hle := hO.le
  push_cast
  refine LoopV.cnt Try.mixed [1] cs.length (fun k => [(3, .c (.d (.int .i64 k)))]) (fun k => firstF R C cs = findN (fun c => cs.getD c 0 == -1 && detF R C cs c) (cs.length - k) k) rfl ?_ (by push_cast)
  intro k hk hinv
  push_cast
  refine ⟨fun h => ?_, fun h => ?_⟩
  · have hk' : k < cs.length := by omega
    rw [findN_step hk'] at hinv
    refine ⟨by omega, fun a => ?_, fun a => ?_⟩
    · refine CallL.q (c36 R C cs hO k hk') ?_
      push_cast
      refine ⟨fun b => ?_, fun b => ⟨by omega, hk', ?_⟩⟩
      · rw [hinv, if_pos (by simp [List.getElem?_eq_getElem hk', a, b])]
      · rw [hinv, if_neg (by simp [List.getElem?_eq_getElem hk', a, b])]
    · refine ⟨by omega, hk', ?_⟩
      rw [hinv, if_neg (by simp [List.getElem?_eq_getElem hk', a])]
  · rw [hinv, findN_end (by omega)]
theorem range_block (R C : Nat) : List.range ((R + 1) * C) = List.range (R * C) ++ (List.range C).map (R * C + ·) := by
  rw [Nat.succ_mul, List.range_add]
theorem filt_row (R C q : Nat) (hC : 1 ≤ C) : (List.range (R * C)).filter (fun c => decide (c / C = q)) = if q < R then (List.range C).map (fun j => q * C + j) else [] := by
  induction R with
  | zero => simp
  | succ R ih =>
    rw [range_block, List.filter_append, ih]
    have e : ((List.range C).map (R * C + ·)).filter (fun c => decide (c / C = q)) = if q = R then (List.range C).map (fun j => q * C + j) else [] := by
      have hd : ∀ j, j < C → (R * C + j) / C = R := fun j hj => by
        rw [Nat.mul_comm, Nat.mul_add_div (by omega), Nat.div_eq_of_lt hj]; rfl
      by_cases h : q = R
      · subst h
        rw [if_pos rfl]
        apply List.filter_eq_self.2
        intro a ha
        obtain ⟨j, hj, rfl⟩ := List.mem_map.1 ha
        simp [hd j (List.mem_range.1 hj)]
      · rw [if_neg h]
        apply List.filter_eq_nil_iff.2
        intro a ha
        obtain ⟨j, hj, rfl⟩ := List.mem_map.1 ha
        simp [hd j (List.mem_range.1 hj)]; omega
    rw [e]
    by_cases h : q < R
    · rw [if_pos h, if_neg (by omega), if_pos (by omega)]; simp
    · rw [if_neg h]
      by_cases h' : q = R
      · rw [if_pos h', if_pos (by omega)]; simp
      · rw [if_neg h', if_neg (by omega)]; rfl
theorem filt_col (R C r : Nat) (hr : r < C) : (List.range (R * C)).filter (fun c => decide (c % C = r)) = (List.range R).map (fun i => i * C + r) := by
  induction R with
  | zero => simp
  | succ R ih =>
    rw [range_block, List.filter_append, ih, List.range_succ, List.map_append]
    congr 1
    have hd : ∀ j, j < C → (R * C + j) % C = j := fun j hj => by
      rw [Nat.mul_comm, Nat.mul_add_mod, Nat.mod_eq_of_lt hj]
    rw [List.filter_map]
    have : (List.range C).filter ((fun c => decide (c % C = r)) ∘ (R * C + ·)) = [r] := by
      have e2 : (List.range C).filter ((fun c => decide (c % C = r)) ∘ (R * C + ·)) = (List.range C).filter (fun j => decide (j = r)) := by
        apply List.filter_congr
        intro j hj
        simp [hd j (List.mem_range.1 hj)]
      rw [e2]
      have : ∀ n, r < n → (List.range n).filter (fun j => decide (j = r)) = [r] := by
        intro n
        induction n with
        | zero => intro h; omega
        | succ n ih =>
          intro h
          rw [List.range_succ, List.filter_append]
          by_cases q : r = n
          · subst q
            have : (List.range r).filter (fun j => decide (j = r)) = [] := by
              apply List.filter_eq_nil_iff.2
              intro a ha
              have := List.mem_range.1 ha
              simp; omega
            rw [this]; simp
          · rw [ih (by omega)]
            simp; omega
      exact this C hr
    rw [this]; rfl
theorem small_row (R C : Nat) (cs : List Int) (hO : Okn R C cs) (x : Nat) (hx : x < cs.length) : smallF cs ((List.range cs.length).filter fun c => decide ((c : Int) / C = (x : Int) / C) || decide ((c : Int) % C = -1)) = smallF cs (rowL C x) := by
  congr 1
  have hc1 := hO.c1
  rw [hO.len]
  have e : ((List.range (R * C)).filter fun (c : Nat) => decide ((c : Int) / C = (x : Int) / C) || decide ((c : Int) % C = -1)) = (List.range (R * C)).filter (fun c => decide (c / C = x / C)) := by
    apply List.filter_congr
    intro c _
    have h1 : ((c : Int) / C = (x : Int) / C) = (c / C = x / C) := by
      rw [← Int.natCast_ediv, ← Int.natCast_ediv]; exact propext ⟨fun h => by omega, fun h => by omega⟩
    have h2 : ((c : Int) % C = -1) = False := eq_false (by rw [← Int.natCast_emod]; omega)
    simp [h1, h2]
  rw [e, filt_row R C _ hO.c1, if_pos (hO.div hx)]; rfl
theorem small_col (R C : Nat) (cs : List Int) (hO : Okn R C cs) (x : Nat) : smallF cs ((List.range cs.length).filter fun c => decide ((c : Int) / C = -1) || decide ((c : Int) % C = (x : Int) % C)) = smallF cs (colL R C x) := by
  congr 1
  have hc1 := hO.c1
  rw [hO.len]
  have e : ((List.range (R * C)).filter fun (c : Nat) => decide ((c : Int) / C = -1) || decide ((c : Int) % C = (x : Int) % C)) = (List.range (R * C)).filter (fun c => decide (c % C = x % C)) := by
    apply List.filter_congr
    intro c _
    have h1 : ((c : Int) % C = (x : Int) % C) = (c % C = x % C) := by
      rw [← Int.natCast_emod, ← Int.natCast_emod]; exact propext ⟨fun h => by omega, fun h => by omega⟩
    have h2 : ((c : Int) / C = -1) = False := eq_false (by rw [← Int.natCast_ediv]; have := Int.natCast_nonneg (c / C); omega)
    simp [h1, h2]
  rw [e, filt_col R C _ (hO.mod x)]; rfl
theorem c35 (R C : Nat) (cs : List Int) (hO : Okn R C cs) (x : Nat) (hx : x < cs.length) : AFn Try.prog Γ 35 [.agg (Tab.cs ⟨R, C, cs⟩), .c (.d (.int .i64 x))] [.d (.int .i64 (nextF R C cs x))] := by
  refine AFn.vc [] Try.func35 rfl Try.mixed (by kernel_rfl) Try.ntmps35 Try.results35 (by simp) ?_
  have hle := hO.le
  have hC1 := hO.c1
  push_cast
  refine ⟨by omega, ?_⟩
  refine CallX.q (c41 R C cs hO _ _) ?_
  push_cast
  rw [small_row R C cs hO x hx]
  unfold nextF
  generalize smallF cs (rowL C x) = a
  refine ⟨fun h => ⟨by omega, ?_⟩, fun h => ⟨fun _ => by rw [if_pos h], fun h' => by exfalso; omega⟩⟩
  refine CallX.q (c41 R C cs hO _ _) ?_
  push_cast
  rw [small_col R C cs hO x, if_neg (by omega)]
  generalize smallF cs (colL R C x) = b
  refine ⟨fun h => by rw [if_pos h], fun h => ?_⟩
  rw [if_neg (by omega)]
  refine LoopV.cnt Try.mixed [2] cs.length (fun k => [(6, .c (.d (.int .i64 k)))]) (fun k => visF cs = findN (fun k => decide (cs.getD k 0 ≠ -1)) (cs.length - k) k) rfl ?_ (by push_cast)
  intro k hk hinv
  push_cast
  refine ⟨fun h => ?_, fun h => ?_⟩
  · have hk' : k < cs.length := by omega
    rw [findN_step hk'] at hinv
    refine ⟨by omega, fun a => ?_, fun a => ⟨by omega, hk', ?_⟩⟩
    · rw [hinv, if_pos (by simp [List.getElem?_eq_getElem hk', a])]
    · rw [hinv, if_neg (by simp [List.getElem?_eq_getElem hk', a])]
  · rw [hinv, findN_end (by omega)]
theorem okn_of {t : Tab} (h : rightB t = true) : ∃ R C : Nat, t = ⟨R, C, t.cells⟩ ∧ Okn R C t.cells := by
  unfold rightB at h
  obtain ⟨h1, h2, h3, h4, h5⟩ := of_decide_eq_true (Bool.and_eq_true_iff.1 h).1
  refine ⟨t.rows.toNat, t.cols.toNat, ?_, ⟨by omega, by omega, by omega, by omega, ?_⟩⟩
  · rw [Int.toNat_of_nonneg (by omega), Int.toNat_of_nonneg (by omega)]
  · have : (t.cells.length : Int) = ((t.rows.toNat * t.cols.toNat : Nat) : Int) := by
      rw [h5, Int.natCast_mul, Int.toNat_of_nonneg (by omega), Int.toNat_of_nonneg (by omega)]
    omega
theorem c24 (t : Tab) (k : Int) (hl : t.cells.length ≤ 100) : AFn Try.prog Γ 24 [.agg (t.ds.map C.d), .c (.d (.int .i64 k))] [.agg (Tab.ds (hideF t k))] := by
  refine AFn.vc [] Try.func24 rfl Try.mixed (by kernel_rfl) Try.ntmps24 Try.results24 (by simp) ?_
  push_cast
  refine CallL.q (c11 t) ?_
  push_cast
  refine ⟨fun hr => ?_, fun hr => by simp [hideF, hr]⟩
  refine CallL.q (c25 t (by omega)) ?_
  push_cast
  refine ⟨fun ho => ⟨fun h3 => ⟨fun h4 => by simp [hideF, Int.not_le.2 h4], fun h4 => ?_⟩, fun h3 => by simp [hideF, Int.not_le.2 h3]⟩, fun hn => by simp [hideF, hn]⟩
  obtain ⟨R, C, ht, hO⟩ := okn_of hr
  obtain ⟨rows, cols, cs⟩ := t
  cases ht
  dsimp only at h3 h4 hO hl ⊢
  rw [hideF_eq R C cs k hr ho h3 h4]
  refine LoopV.cntH Try.mixed [1, 2, 4, 5] cs.length (fun c => [(6, .c (.d (.int .i64 c)))]) (fun c => [.box 24 [.d (.int .i64 R), .d (.int .i64 C), .d (.lst 1 (cs.map iD))], .box 24 [.d (.int .i64 0), .d (.int .i64 0), .d (.raw (Value.slice none 0 0))], .box 24 [.d (.int .i64 R), .d (.int .i64 C), .d (.lst 1 ((upto (hidV k) c cs).map iD))]]) (fun _ => True) trivial ?_ (by push_cast; rw [upto_zero])
  intro c hc _
  push_cast
  refine ⟨fun h => ?_, fun h => ?_⟩
  · have hk' : c < cs.length := by omega
    have hs := upto_set (hidV k) hk'
    refine ⟨hk', fun a => ⟨hk', fun b => ?_, fun b => ⟨by omega, hk', ?_⟩⟩, fun a => ⟨by omega, hk', ?_⟩⟩
    · refine CallL.q (c34 R C (upto (hidV k) c cs) c (by rw [upto_len]; exact hk') (by rw [upto_len]; omega)) ?_
      push_cast
      refine ⟨by omega, hk', ?_⟩
      rw [← hs, hidV, if_pos ⟨a, b⟩]
    · rw [upto_same (hidV k) hk' (by rw [hidV, if_neg (by omega)])]
    · rw [upto_same (hidV k) hk' (by rw [hidV, if_neg (by omega)])]
  obtain rfl : c = cs.length := by omega
  have e0 : upto (hidV k) cs.length cs = hide0 cs k := by rw [upto_end _ (Nat.le_refl _)]; rfl
  rw [e0]
  have hl0 : (hide0 cs k).length = cs.length := by simp [hide0]
  refine LoopV.cntH Try.mixed [2, 4, 5] cs.length (fun i => [(7, .c (.d (.int .i64 i)))]) (fun i => [.box 24 [.d (.int .i64 R), .d (.int .i64 C), .d (.lst 1 (cs.map iD))], .box 24 [.d (.int .i64 0), .d (.int .i64 0), .d (.raw (Value.slice none 0 0))], .box 24 [.d (.int .i64 R), .d (.int .i64 C), .d (.lst 1 ((hideIt R C (hide0 cs k) i).map iD))]]) (fun i => hideLoop R C cs.length (hide0 cs k) = hideLoop R C (cs.length - i) (hideIt R C (hide0 cs k) i)) rfl ?_ (by push_cast; rfl)
  intro i hi hinv
  have hlen := hideIt_len R C (hide0 cs k) i
  generalize hcu : hideIt R C (hide0 cs k) i = cu at *
  have hOu : Okn R C cu := Okn.of_len hO (by omega)
  push_cast
  refine ⟨fun h => ?_, fun h => ?_⟩
  · have hi' : i < cs.length := by omega
    refine CallL.q (c28 R C cu hOu) ?_
    push_cast
    refine ⟨fun a => by rw [hinv, hideLoop_stop R C cu _ a], fun a => ?_⟩
    have hlt := first_lt a
    have hn := next_ok R C cu hOu (by omega) (by omega) a
    have hb := next_bd R C cu hOu _ hlt
    have hnx : hideLoop R C cs.length (hide0 cs k) = hideLoop R C (cs.length - (i + 1)) (hideIt R C (hide0 cs k) (i + 1)) := by
      rw [hinv, show cs.length - i = (cs.length - (i + 1)) + 1 by omega, hideLoop_next R C cu _ a]
      simp only [hideIt, hcu]
    have hit : hideIt R C (hide0 cs k) (i + 1) = cu.set (nextF R C cu (firstF R C cu).toNat).toNat (-1) := by simp only [hideIt, hcu]
    generalize firstF R C cu = x at *
    obtain ⟨x, rfl⟩ := Int.eq_ofNat_of_zero_le a
    rw [Int.toNat_natCast] at *
    refine CallX.q (c35 R C cu hOu x hlt) ?_
    push_cast
    generalize nextF R C cu x = y at *
    obtain ⟨y, rfl⟩ := Int.eq_ofNat_of_zero_le hn
    refine CallX.q (c34 R C cu y (by omega) (by omega)) ?_
    push_cast
    exact ⟨⟨by omega, by omega⟩, ⟨hi', hnx⟩, by rw [hit]; rfl⟩
  · rw [hinv, show cs.length - i = 0 by omega]; rfl
end Go.Proofs
