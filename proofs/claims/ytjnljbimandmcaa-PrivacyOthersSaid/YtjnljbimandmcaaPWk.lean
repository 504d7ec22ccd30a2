/- Walks of the chapter on privacy, eleventh part: other tables. -/
import Derived.Test.YtjnljbimandmcaaPWj
import Derived.Test.YtjnljbimandmcaaPGc
set_option linter.all false
namespace Go.Proofs
open Go Go.Ax Go.Pv
set_option maxRecDepth 100000
variable {Γ : List (Nat × List D)}
theorem c26 (R C : Nat) (cs : List Int) (hO : Okn R C cs) (c : Nat) (hc : c < cs.length) (hc1 : cs.getD c 0 = -1) (hs : detF R C cs c = false) : AFn Try.prog Γ 26 [.agg (Tab.cs ⟨R, C, cs⟩), .c (.d (.int .i64 c))] [.d (.lst 1 ((cycF R C cs c).map iD))] := by
  refine AFn.vc [] Try.func26 rfl Try.mixed (by kernel_rfl) Try.ntmps26 Try.results26 (by simp) ?_
  have hle := hO.le
  have hC1 := hO.c1
  have hR := hO.r8
  have hC := hO.c8
  have hd := hO.div hc
  have hm := hO.mod c
  have g1 : (c : Int) / C = ((c / C : Nat) : Int) := (Int.natCast_ediv _ _).symm
  have g2 : (c : Int) % C = ((c % C : Nat) : Int) := (Int.natCast_emod _ _).symm
  have e1 : ((R : Int) + C).toNat = R + C := by omega
  have hz : ∀ n : Nat, List.replicate n [D.int .i64 0] = (List.replicate n (0 : Int)).map iD := fun n => by simp [iD]
  push_cast
  refine ⟨⟨by omega, by omega⟩, ⟨by omega, by omega⟩, ⟨by omega, by omega, by omega⟩, ?_⟩
  rw [e1, hz, hz]
  refine LoopV.cntH Try.mixed [1, 2, 5, 6, 7, 29] (R + C) (fun k => [(30, .c (.d (.int .i64 k)))]) (fun k => [.box 24 (Tab.cs ⟨R, C, cs⟩), .row 3 1 ((List.replicate cs.length (0 : Int)).map iD) 0, .row 3 1 ((upto (fun _ => (-1 : Int)) k (List.replicate (R + C) 0)).map iD) 0]) (fun _ => True) trivial ?_ (by push_cast; rw [upto_zero])
  intro k hk _
  have hul := upto_len (fun _ => (-1 : Int)) k (List.replicate (R + C) 0)
  rw [List.length_replicate] at hul
  push_cast
  refine ⟨fun h => ?_, fun h => ?_⟩
  · have hk' : k < (List.replicate (R + C) (0 : Int)).length := by rw [List.length_replicate]; omega
    have hsx := upto_set (fun _ => (-1 : Int)) hk'
    refine ⟨by omega, by omega, ⟨by omega, by omega⟩, by omega, ?_⟩
    rw [← hsx, ← map_set']; rfl
  obtain rfl : k = R + C := by omega
  have e0 : upto (fun _ => (-1 : Int)) (R + C) (List.replicate (R + C) 0) = List.replicate (R + C) (-1) := by rw [upto_end _ (by simp)]; simp
  rw [e0]
  have hst : ((List.replicate (R + C) (-1)).map iD).set (c / C) [D.int .i64 (c : Int)] = (fr0 R C c).map iD := by
    rw [fr0, ← map_set']; rfl
  rw [g1, hst, List.length_replicate]
  refine ⟨⟨by omega, by omega⟩, by omega, by omega, ?_⟩
  refine LoopV.cntH Try.mixed [1, 2, 5, 6, 7, 44] (R + C) (fun n => [(45, .c (.d (.int .i64 n)))]) (fun n => [.box 24 (Tab.cs ⟨R, C, cs⟩), .row 3 1 ((List.replicate cs.length (0 : Int)).map iD) 0, .row 3 1 ((frN R C cs c n).map iD) 0]) (fun _ => True) trivial ?_ (by push_cast; rfl)
  intro n hn _
  push_cast
  have hfl := frN_len (R := R) (C := C) (cs := cs) (c := c) n
  refine ⟨fun h => ?_, fun h => ?_⟩
  · refine LoopV.cntH Try.mixed [1, 2, 5, 6, 7, 44, 45, 49] cs.length (fun x => [(50, .c (.d (.int .i64 x)))]) (fun x => [.box 24 (Tab.cs ⟨R, C, cs⟩), .row 3 1 ((List.replicate cs.length (0 : Int)).map iD) 0, .row 3 1 (((List.range x).foldl (frStep R C cs c) (frN R C cs c n)).map iD) 0]) (fun _ => True) trivial ?_ (by push_cast; rfl)
    intro x hx _
    have hst : (List.range (x + 1)).foldl (frStep R C cs c) (frN R C cs c n) = frStep R C cs c ((List.range x).foldl (frStep R C cs c) (frN R C cs c n)) x := by rw [List.range_succ, List.foldl_append]; rfl
    have hflx := fold_len (R := R) (C := C) (cs := cs) (c := c) (List.range x) (frN R C cs c n)
    have hfin : x = cs.length → (List.range x).foldl (frStep R C cs c) (frN R C cs c n) = frN R C cs c (n + 1) := fun e => by rw [e]; rfl
    generalize (List.range x).foldl (frStep R C cs c) (frN R C cs c n) = fr at *
    generalize (List.range (x + 1)).foldl (frStep R C cs c) (frN R C cs c n) = fr' at *
    push_cast
    have q1 : (x : Int) / C = ((x / C : Nat) : Int) := (Int.natCast_ediv _ _).symm
    have q2 : (x : Int) % C = ((x % C : Nat) : Int) := (Int.natCast_emod _ _).symm
    simp only [q1, q2]
    refine ⟨fun h2 => ?_, fun h2 => ⟨⟨by omega, by omega⟩, by omega, by rw [hfin (by omega)]⟩⟩
    have hx' : x < cs.length := by omega
    have hdx := hO.div hx'
    have hmx := hO.mod x
    have r1 : fr.getD (x / C) 0 = fr[x / C]'(by omega) := by simp [List.getElem?_eq_getElem (show x / C < fr.length by omega)]
    have r2 : fr.getD (R + x % C) 0 = fr[R + x % C]'(by omega) := by simp [List.getElem?_eq_getElem (show R + x % C < fr.length by omega)]
    have r3 : cs.getD x 0 = cs[x] := by simp [List.getElem?_eq_getElem hx']
    have k1 : ¬ (cs[x] = -1 ∧ ¬ (x : Int) = c) → fr' = fr := fun a => by
      have : hidB cs c x = false := by
        unfold hidB; rw [r3]
        cases b1 : (cs[x] == -1)
        · rfl
        · cases b2 : (x != c)
          · rfl
          · exfalso; apply a
            simp at b1 b2
            exact ⟨b1, by omega⟩
      rw [hst, frStep, this]; rfl
    have hhid : (cs[x] = -1 ∧ ¬ (x : Int) = c) → hidB cs c x = true := fun a => by
      unfold hidB; rw [r3]; simp [a.1]; omega
    have k2 : (cs[x] = -1 ∧ ¬ (x : Int) = c) → (0 ≤ fr[x / C]'(by omega) ∧ fr[R + x % C]'(by omega) < 0) → fr' = fr.set (R + x % C) (x : Int) := fun a b => by
      rw [hst, frStep, hhid a, r1, r2, decide_eq_true b.1, decide_eq_true b.2]; rfl
    have k3 : (cs[x] = -1 ∧ ¬ (x : Int) = c) → (fr[x / C]'(by omega) < 0 ∧ 0 ≤ fr[R + x % C]'(by omega)) → fr' = fr.set (x / C) (x : Int) := fun a b => by
      rw [hst, frStep, hhid a, r1, r2, decide_eq_true b.1, decide_eq_true b.2, decide_eq_false (by omega : ¬ 0 ≤ fr[x / C]'(by omega))]; rfl
    have k4 : (cs[x] = -1 ∧ ¬ (x : Int) = c) → (0 ≤ fr[x / C]'(by omega) ∧ 0 ≤ fr[R + x % C]'(by omega)) ∨ (fr[x / C]'(by omega) < 0 ∧ fr[R + x % C]'(by omega) < 0) → fr' = fr := fun a b => by
      rw [hst, frStep, hhid a, r1, r2]
      rcases b with b | b
      · rw [decide_eq_true b.1, decide_eq_true b.2, decide_eq_false (by omega : ¬ fr[R + x % C]'(by omega) < 0), decide_eq_false (by omega : ¬ fr[x / C]'(by omega) < 0)]; rfl
      · rw [decide_eq_true b.1, decide_eq_true b.2, decide_eq_false (by omega : ¬ 0 ≤ fr[R + x % C]'(by omega)), decide_eq_false (by omega : ¬ 0 ≤ fr[x / C]'(by omega))]; rfl
    repeat' (first | apply And.intro | intro _ | refine Exists.intro (by omega) ?_)
    all_goals first | omega | skip
    all_goals first
      | (rw [k1 (by omega)]; done)
      | (rw [k4 (by omega) (by omega)]; done)
      | (rw [k2 (by omega) (by omega), ← map_set']; rfl)
      | (rw [k3 (by omega) (by omega), ← map_set']; rfl)
  obtain rfl : n = R + C := by omega
  obtain ⟨d, ht⟩ := tree_n (c := c) hO hd (R + C)
  have hb0 := ht.bd (R + c % C) (by omega)
  have hcl : cnt (frN R C cs c (R + C)) ≤ R + C := by
    have := List.countP_le_length (p := fun v : Int => decide (0 ≤ v)) (l := frN R C cs c (R + C))
    rw [frN_len] at this; exact this
  have hcy : cycF R C cs c = if (frN R C cs c (R + C)).getD (R + c % C) 0 < 0 then List.replicate cs.length 0 else back R C c (frN R C cs c (R + C)) (R + C) (R + c % C) (-1) ((List.replicate cs.length 0).set c 1) := rfl
  generalize frN R C cs c (R + C) = fr at *
  have r0 : fr.getD (R + c % C) 0 = fr[R + c % C]'(by omega) := by simp [List.getElem?_eq_getElem (show R + c % C < fr.length by omega)]
  rw [r0] at hcy hb0
  rw [g2]
  refine ⟨by omega, ⟨by omega, by omega⟩, ⟨by omega, by omega⟩, by omega, fun a => by rw [hcy, if_pos a], fun a => ⟨by omega, hc, ?_⟩⟩
  rw [if_neg (by omega)] at hcy
  have hs1 : (List.map iD (List.replicate cs.length 0)).set c [D.int .i64 1] = ((List.replicate cs.length 0).set c 1).map iD := by rw [← map_set']; rfl
  rw [hs1]
  refine LoopV.of Try.mixed [1, 2, 5, 7, 125] (S := Nat × Nat × Int × List Int) (fun s => [(12, .c (.d (.int .i64 s.2.1))), (13, .c (.d (.int .i64 s.2.2.1))), (126, .c (.d (.int .i64 s.1)))]) (fun s => [.box 24 (Tab.cs ⟨R, C, cs⟩), .row 3 1 (s.2.2.2.map iD) 0, .row 3 1 (fr.map iD) 0]) (fun s => Walk R C cs c s.1 s.2.1 s.2.2.1 s.2.2.2 ∧ 0 ≤ fr.getD s.2.1 0 ∧ d s.2.1 + s.1 < R + C ∧ cycF R C cs c = back R C c fr (R + C - s.1) s.2.1 s.2.2.1 s.2.2.2) (fun s => R + C - s.1) (0, R + c % C, -1, (List.replicate cs.length 0).set c 1) ⟨walk_zero hO hc hc1, by rw [r0]; exact a, by have := hb0 a; show d (R + c % C) + 0 < R + C; omega, hcy⟩ (by push_cast) ?_
  intro st hst
  obtain ⟨i, v, s, add⟩ := st
  obtain ⟨hw, h0, hdv, hbk⟩ := hst
  dsimp only at hw h0 hdv hbk
  have hvl := hw.lt
  have rv : fr.getD v 0 = fr[v]'(by omega) := by simp [List.getElem?_eq_getElem (show v < fr.length by omega)]
  have hal := hw.len
  push_cast
  refine ⟨fun hi => ?_, fun hi => by omega⟩
  have hbn : back R C c fr (R + C - i) v s add = if fr.getD v 0 = c then add else back R C c fr (R + C - (i + 1)) (oth R C v (fr.getD v 0).toNat) (-s) (add.set (fr.getD v 0).toNat (add.getD (fr.getD v 0).toNat 0 + s)) := by
    rw [show R + C - i = (R + C - (i + 1)) + 1 by omega]; rfl
  rw [rv] at hbn
  refine ⟨by omega, by omega, fun b => by rw [hbk, hbn, if_pos b], fun b => ?_⟩
  rw [if_neg b] at hbn
  obtain ⟨x, h1, h2, h3, h4, h5, h6⟩ := ht.at hvl h0 (by rw [rv]; exact b)
  rw [rv] at h1
  have q1 : (x : Int) / C = ((x / C : Nat) : Int) := (Int.natCast_ediv _ _).symm
  have q2 : (x : Int) % C = ((x % C : Nat) : Int) := (Int.natCast_emod _ _).symm
  have hdx := hO.div h2
  have hmx := hO.mod x
  have hbx := hw.bd x
  have hnx := hw.next hO h2 h3 h4
  have hxa : x < add.length := by omega
  have rx : add.getD x 0 = add[x] := by simp [List.getElem?_eq_getElem hxa]
  have hss : s = 1 ∨ s = -1 := by
    by_cases a : v < R
    · exact .inl (hw.pr a)
    · exact .inr (hw.pc (by omega))
  rw [h1, Int.toNat_natCast] at hbn
  rw [rx] at hbx hnx hbn
  simp only [h1, Int.toNat_natCast, q1, q2]
  have hset : (List.map iD add).set x [D.int .i64 (add[x] + s)] = (add.set x (add[x] + s)).map iD := by rw [← map_set']; rfl
  refine ⟨⟨by omega, by omega⟩, hxa, ⟨by omega, by omega⟩, ⟨by omega, by omega⟩, hxa, ⟨by omega, by omega⟩, ⟨by omega, by omega, by omega⟩, ⟨by omega, by omega⟩, ⟨by omega, by omega⟩, fun e => ⟨⟨by omega, by omega⟩, (i + 1, oth R C v x, -s, add.set x (add[x] + s)), ⟨⟨hnx, h5, by show d (oth R C v x) + (i + 1) < R + C; omega, by rw [hbk, hbn]⟩, by show R + C - (i + 1) < R + C - i; omega⟩, ⟨⟨?_, rfl⟩, rfl⟩, hset⟩, fun e => ⟨⟨by omega, by omega⟩, (i + 1, oth R C v x, -s, add.set x (add[x] + s)), ⟨⟨hnx, h5, by show d (oth R C v x) + (i + 1) < R + C; omega, by rw [hbk, hbn]⟩, by show R + C - (i + 1) < R + C - i; omega⟩, ⟨⟨?_, rfl⟩, rfl⟩, hset⟩⟩
  · show ((oth R C v x : Nat) : Int) = _
    unfold oth; rw [if_pos (by omega)]; omega
  · show ((oth R C v x : Nat) : Int) = _
    unfold oth; rw [if_neg (by omega)]
end Go.Proofs
