/- Walks of the chapter on privacy, twelfth part: other tables, the statement. -/
import Derived.Test.YtjnljbimandmcaaPWk
set_option linter.all false
namespace Go.Proofs
open Go Go.Ax Go.Pv
set_option maxRecDepth 100000
variable {Γ : List (Nat × List D)}
theorem tS_bd {add : List Int} (h : ∀ x, -20 ≤ add.getD x 0 ∧ add.getD x 0 ≤ 20) (q : Nat → Nat) (i : Nat) : ∀ k : Nat, -(20 * k : Int) ≤ tS q add k i ∧ tS q add k i ≤ 20 * k
  | 0 => by simp [tS]
  | k + 1 => by
    have := tS_bd h q i k
    have hk := h k
    rw [tS_succ]
    split <;> push_cast <;> omega
theorem tSr_set (add : List Int) (q : Nat → Nat) (n k : Nat) (hk : q k < n) : ((List.range n).map (tS q add k)).set (q k) (tS q add k (q k) + add.getD k 0) = (List.range n).map (tS q add (k + 1)) := by
  apply List.ext_getElem (by simp)
  intro i h1 h2
  simp only [List.length_set, List.length_map, List.length_range] at h1
  rw [List.getElem_set]
  simp only [List.getElem_map, List.getElem_range, tS_succ]
  split
  · next e => subst e; first | rfl | (rw [if_pos rfl])
  · next e => first | omega | (rw [if_neg e]; omega)
theorem tSr_zero (add : List Int) (q : Nat → Nat) (n : Nat) : ((List.range n).map (tS q add 0)).map iD = List.replicate n [D.int .i64 0] := by
  apply List.ext_getElem (by simp)
  intro i h1 h2
  simp [tS, iD]
def s7 (R C : Nat) (cs us add : List Int) (c : Nat) (x y : Int) (i j : Nat) (h1 h2 : LB) : St :=
  ⟨[[.any, .any, .c (.loc 0 0), .any, .any, .c (.loc 1 0), .c (.d (.int .i64 c)), .c (.d (.lst 1 (add.map iD)))], [.c (.own i 0), .c (.own j 0)], [], [], [], [], [],
    [.any, .any, .any, .any, .c (.d (.int .i64 us.length)), .c (.d (.int .i64 c)), .c (.d (.bool (decide ((c : Int) < us.length)))), .c (.d (.int .i64 c))],
    [.c (.loc 1 2), .c (.d (.lst 1 (us.map iD))), .c (.d (.int .i64 c)), .c (.ptr [.int .i64 x]), .c (.d (.int .i64 x)), .c (.d (.bool (decide (¬ x = -1)))), .agg [.d (.int .i64 R), .d (.int .i64 C), .d (.lst 1 (us.map iD))], .c (.d (.int .i64 c))],
    [.c (.d (.lst 1 (add.map iD))), .c (.d (.lst 1 (add.map iD))), .c (.d (.int .i64 c)), .c (.ptr [.int .i64 y]), .c (.d (.int .i64 y)), .c (.d (.bool (decide (¬ y = 1)))), .c (.loc 0 0), .c (.d (.int .i64 R))],
    [.c (.own i 0), .c (.loc 0 1), .c (.d (.int .i64 C)), .c (.own j 0)]], [.box 24 [.d (.int .i64 R), .d (.int .i64 C), .d (.lst 1 (cs.map iD))], .box 24 [.d (.int .i64 R), .d (.int .i64 C), .d (.lst 1 (us.map iD))], h1, h2]⟩
theorem c7 (t : Tab) (k : Int) : AFn Try.prog Γ 7 [.agg (t.ds.map C.d), .c (.d (.int .i64 k))] [.d (.bool true)] := by
  refine AFn.vc [1000013] Try.func7 rfl Try.mixed (by kernel_rfl) Try.ntmps7 Try.results7 (by simp) ?_
  push_cast
  refine ⟨fun h => ?_, fun h => ?_⟩
  · refine CallL.q (c10 t) ?_
    push_cast
    refine ⟨fun hr => ?_, fun _ => ?_⟩
    · refine CallL.q (c25 t (by omega)) ?_
      push_cast
      refine ⟨fun ho => ⟨fun h3 => ⟨fun h4 => ?_, fun h4 => ?_⟩, fun h3 => ?_⟩, fun _ => ?_⟩
      · refine CallL.q c9 ?_
        push_cast
      · obtain ⟨R, C, ht, hO⟩ := okn_of hr
        obtain ⟨rows, cols, cs⟩ := t
        cases ht
        dsimp only at h3 h4 hO h ⊢
        have hh := hide_hid k hO (by omega) (by omega) hr
        refine CallL.q (c23' ⟨R, C, cs⟩ _ k (by dsimp only; omega) (hideF_eq R C cs k hr ho h3 h4)) ?_
        generalize hideLoop R C cs.length (hide0 cs k) = us at *
        have hOu := Okn.of_len hO hh.len
        push_cast
        refine CallL.q (c10 ⟨R, C, us⟩) ?_
        rw [hh.right]
        push_cast
        have hlen := hh.len
        refine LoopV.cnt Try.mixed [2, 5, 60] us.length (fun i => [(61, .c (.d (.int .i64 i)))]) (fun _ => True) trivial ?_ (by push_cast)
        intro c hc _
        push_cast
        refine ⟨fun h2 => ?_, fun h2 => ?_⟩
        · have hc' : c < us.length := by omega
          refine ⟨hc', fun hv => ⟨⟨by omega, by omega⟩, hc'⟩, fun hv => ?_⟩
          · have hg : us.getD c 0 = -1 := by simp [List.getElem?_eq_getElem hc', hv]
            have hdet : detF R C us c = false := by
              have := findN_none.1 hh.safe c (Nat.zero_le _) (by omega)
              simp only [hg] at this
              simpa using this
            have hgood := cyc_good hOu hc' hg hdet
            refine CallL.q (c26 R C us hOu c hc' hg hdet) ?_
            generalize cycF R C us c = add at *
            have hal := hgood.len
            push_cast
            have rc : add.getD c 0 = add[c]'(by omega) := by simp [List.getElem?_eq_getElem (show c < add.length by omega)]
            have hone := hgood.one
            have hR := hO.r8
            have hC := hO.c8
            have hC1 := hO.c1
            refine ⟨by omega, fun hq => hq (by omega), fun _ => ?_⟩
            refine RegV.any (E := []) Try.mixed tr12 (by kernel_rfl) (fun st => st = s7 R C cs us add c us[c] (add[c]'(by omega)) 2 3 (.row 3 1 (List.replicate R [D.int .i64 0]) 0) (.row 3 1 (List.replicate C [D.int .i64 0]) 0) ∨ st = s7 R C cs us add c us[c] (add[c]'(by omega)) 3 2 (.row 3 1 (List.replicate C [D.int .i64 0]) 0) (.row 3 1 (List.replicate R [D.int .i64 0]) 0)) ?_ ?_
            · unfold tr12
              push_cast
              repeat' apply And.intro
              all_goals first
                | omega
                | exact .inl rfl
                | exact .inr rfl
            intro st' hst
            rcases hst with rfl | rfl
            · unfold s7
              push_cast
              refine LoopV.cntH Try.mixed [2, 5, 7, 8, 9, 60, 61, 85] add.length (fun i => [(86, .c (.d (.int .i64 i)))]) (fun i => [.box 24 [.d (.int .i64 R), .d (.int .i64 C), .d (.lst 1 (cs.map iD))], .box 24 [.d (.int .i64 R), .d (.int .i64 C), .d (.lst 1 (us.map iD))], .row 3 1 (((List.range R).map (tS (· / C) add i)).map iD) 0, .row 3 1 (((List.range C).map (tS (· % C) add i)).map iD) 0]) (fun _ => True) trivial ?_ (by push_cast; rw [tSr_zero, tSr_zero]; exact ⟨rfl, rfl⟩)
              intro i hi _
              push_cast
              have q1 : (i : Int) / C = ((i / C : Nat) : Int) := (Int.natCast_ediv _ _).symm
              have q2 : (i : Int) % C = ((i % C : Nat) : Int) := (Int.natCast_emod _ _).symm
              have hle := hOu.le
              simp only [q1, q2, List.getElem_range]
              refine ⟨fun h5 => ?_, fun h5 => ?_⟩
              · have hi' : i < add.length := by omega
                have hiu : i < us.length := by omega
                have hdi := hOu.div hiu
                have hmi := hOu.mod i
                have ri : add.getD i 0 = add[i] := by simp [List.getElem?_eq_getElem hi']
                have ru : us.getD i 0 = us[i] := by simp [List.getElem?_eq_getElem hiu]
                have b1 := tS_bd hgood.bd (fun x => x / C) (i / C) i
                have b2 := tS_bd hgood.bd (fun x => x % C) (i % C) i
                have b3 := hgood.bd i
                have hd0 := hgood.hid i hiu
                have s1 := tSr_set add (fun x => x / C) R i hdi
                have s2 := tSr_set add (fun x => x % C) C i hmi
                rw [ri] at b3 s1 s2 hd0
                rw [ru] at hd0
                have t1 : (List.map iD (List.map (tS (fun x => x / C) add i) (List.range R))).set (i / C) [D.int .i64 (tS (fun x => x / C) add i (i / C) + add[i])] = List.map iD (List.map (tS (fun x => x / C) add (i + 1)) (List.range R)) := by
                  rw [← s1, ← map_set']; rfl
                have t2 : (List.map iD (List.map (tS (fun x => x % C) add i) (List.range C))).set (i % C) [D.int .i64 (tS (fun x => x % C) add i (i % C) + add[i])] = List.map iD (List.map (tS (fun x => x % C) add (i + 1)) (List.range C)) := by
                  rw [← s2, ← map_set']; rfl
                clear s1 s2
                refine ⟨hi', fun z => ⟨hiu, fun z2 => z2 (hd0 z), fun z2 => ?_⟩, fun z => ?_⟩
                all_goals
                  repeat' (first | apply And.intro | intro _ | refine Exists.intro (by omega) ?_)
                  all_goals first | omega | exact t1 | exact t2
              obtain rfl : i = add.length := by omega
              refine LoopV.cnt Try.mixed [2, 5, 8, 9, 60, 61, 130] R (fun r => [(131, .c (.d (.int .i64 r)))]) (fun _ => True) trivial ?_ (by push_cast)
              intro r hr' _
              push_cast
              simp only [List.getElem_range]
              refine ⟨fun h6 => ?_, fun h6 => ?_⟩
              · have hrR : r < R := by omega
                have z := hgood.row r hrR
                rw [← hal] at z
                exact ⟨by omega, hrR, fun a => a z, fun _ => ⟨⟨by omega, by omega⟩, hrR⟩⟩
              refine LoopV.cnt Try.mixed [2, 5, 9, 60, 61, 141] C (fun r => [(142, .c (.d (.int .i64 r)))]) (fun _ => True) trivial ?_ (by push_cast)
              intro j hj _
              push_cast
              simp only [List.getElem_range]
              refine ⟨fun h7 => ?_, fun h7 => ⟨⟨by omega, by omega⟩, hc'⟩⟩
              have hjC : j < C := by omega
              have z := hgood.col j hjC
              rw [← hal] at z
              exact ⟨by omega, hjC, fun a => a z, fun _ => ⟨⟨by omega, by omega⟩, hjC⟩⟩
            · unfold s7
              push_cast
              refine LoopV.cntH Try.mixed [2, 5, 7, 8, 9, 60, 61, 85] add.length (fun i => [(86, .c (.d (.int .i64 i)))]) (fun i => [.box 24 [.d (.int .i64 R), .d (.int .i64 C), .d (.lst 1 (cs.map iD))], .box 24 [.d (.int .i64 R), .d (.int .i64 C), .d (.lst 1 (us.map iD))], .row 3 1 (((List.range C).map (tS (· % C) add i)).map iD) 0, .row 3 1 (((List.range R).map (tS (· / C) add i)).map iD) 0]) (fun _ => True) trivial ?_ (by push_cast; rw [tSr_zero, tSr_zero]; exact ⟨rfl, rfl⟩)
              intro i hi _
              push_cast
              have q1 : (i : Int) / C = ((i / C : Nat) : Int) := (Int.natCast_ediv _ _).symm
              have q2 : (i : Int) % C = ((i % C : Nat) : Int) := (Int.natCast_emod _ _).symm
              have hle := hOu.le
              simp only [q1, q2, List.getElem_range]
              refine ⟨fun h5 => ?_, fun h5 => ?_⟩
              · have hi' : i < add.length := by omega
                have hiu : i < us.length := by omega
                have hdi := hOu.div hiu
                have hmi := hOu.mod i
                have ri : add.getD i 0 = add[i] := by simp [List.getElem?_eq_getElem hi']
                have ru : us.getD i 0 = us[i] := by simp [List.getElem?_eq_getElem hiu]
                have b1 := tS_bd hgood.bd (fun x => x / C) (i / C) i
                have b2 := tS_bd hgood.bd (fun x => x % C) (i % C) i
                have b3 := hgood.bd i
                have hd0 := hgood.hid i hiu
                have s1 := tSr_set add (fun x => x / C) R i hdi
                have s2 := tSr_set add (fun x => x % C) C i hmi
                rw [ri] at b3 s1 s2 hd0
                rw [ru] at hd0
                have t1 : (List.map iD (List.map (tS (fun x => x / C) add i) (List.range R))).set (i / C) [D.int .i64 (tS (fun x => x / C) add i (i / C) + add[i])] = List.map iD (List.map (tS (fun x => x / C) add (i + 1)) (List.range R)) := by
                  rw [← s1, ← map_set']; rfl
                have t2 : (List.map iD (List.map (tS (fun x => x % C) add i) (List.range C))).set (i % C) [D.int .i64 (tS (fun x => x % C) add i (i % C) + add[i])] = List.map iD (List.map (tS (fun x => x % C) add (i + 1)) (List.range C)) := by
                  rw [← s2, ← map_set']; rfl
                clear s1 s2
                refine ⟨hi', fun z => ⟨hiu, fun z2 => z2 (hd0 z), fun z2 => ?_⟩, fun z => ?_⟩
                all_goals
                  repeat' (first | apply And.intro | intro _ | refine Exists.intro (by omega) ?_)
                  all_goals first | omega | exact t1 | exact t2
              obtain rfl : i = add.length := by omega
              refine LoopV.cnt Try.mixed [2, 5, 8, 9, 60, 61, 130] R (fun r => [(131, .c (.d (.int .i64 r)))]) (fun _ => True) trivial ?_ (by push_cast)
              intro r hr' _
              push_cast
              simp only [List.getElem_range]
              refine ⟨fun h6 => ?_, fun h6 => ?_⟩
              · have hrR : r < R := by omega
                have z := hgood.row r hrR
                rw [← hal] at z
                exact ⟨by omega, hrR, fun a => a z, fun _ => ⟨⟨by omega, by omega⟩, hrR⟩⟩
              refine LoopV.cnt Try.mixed [2, 5, 9, 60, 61, 141] C (fun r => [(142, .c (.d (.int .i64 r)))]) (fun _ => True) trivial ?_ (by push_cast)
              intro j hj _
              push_cast
              simp only [List.getElem_range]
              refine ⟨fun h7 => ?_, fun h7 => ⟨⟨by omega, by omega⟩, hc'⟩⟩
              have hjC : j < C := by omega
              have z := hgood.col j hjC
              rw [← hal] at z
              exact ⟨by omega, hjC, fun a => a z, fun _ => ⟨⟨by omega, by omega⟩, hjC⟩⟩
        · refine CallL.q c9 ?_
          push_cast
      · refine CallL.q c9 ?_
        push_cast
      · refine CallL.q c9 ?_
        push_cast
    · refine CallL.q c9 ?_
      push_cast
  · refine CallL.q c9 ?_
    push_cast
end Go.Proofs
