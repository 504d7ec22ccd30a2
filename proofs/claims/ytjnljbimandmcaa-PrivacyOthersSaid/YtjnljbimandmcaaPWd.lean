/- Walks of the chapter on privacy, fourth part. -/
import Derived.Test.YtjnljbimandmcaaPWc
set_option linter.all false
namespace Go.Proofs
open Go Go.Ax Go.Pv
set_option maxRecDepth 100000
variable {Γ : List (Nat × List D)}
theorem fI_findN {p : Int → Bool} {q : Nat → Bool} : ∀ (l : List Int) (i : Nat), (∀ (j : Nat) (h : j < l.length), q (i + j) = p l[j]) → fI p i l = findN q l.length i
  | [], _, _ => rfl
  | x :: r, i, hq => by
    have h0 : q i = p x := hq 0 (by simp)
    have ht := fI_findN r (i + 1) (fun j h => by have := hq (j + 1) (by simpa using h); rw [show i + (j + 1) = i + 1 + j by omega] at this; simpa using this)
    simp only [fI, findN, List.length_cons, h0, ht]
theorem c33 (R C : Nat) (cs : List Int) (hO : Okn R C cs) (x : Nat) (hx : x < cs.length) : AFn Try.prog Γ 33 [.agg (Tab.cs ⟨R, C, cs⟩), .c (.d (.int .i64 x))] [.d (.int .i64 (nextF R C cs x))] := by
  refine AFn.vc [] Try.func33 rfl Try.mixed (by kernel_rfl) Try.ntmps33 Try.results33 (by simp) ?_
  have hle := hO.le
  have hC1 := hO.c1
  have hR := hO.r8
  have hC := hO.c8
  have hd := hO.div hx
  have hm := hO.mod x
  have g1 : (x : Int) / C = ((x / C : Nat) : Int) := (Int.natCast_ediv _ _).symm
  have g2 : (x : Int) % C = ((x % C : Nat) : Int) := (Int.natCast_emod _ _).symm
  push_cast
  refine LoopV.nilrow 5 3 1 ?_
  push_cast
  refine LoopV.cntH Try.mixed [1, 2, 6, 12] C (fun k => [(5, .c (.own 1 k)), (13, .c (.d (.int .i64 k)))]) (fun k => [.box 24 (Tab.cs ⟨R, C, cs⟩), .row 3 1 (((rowL C x).take k).map fun (n : Nat) => iD (n : Int)) k]) (fun _ => True) trivial ?_ (by push_cast)
  intro k hk _
  push_cast
  have hq : (x : Int) / C * C = ((x / C * C : Nat) : Int) := by rw [g1]; exact (Int.natCast_mul _ _).symm
  have hrl : (rowL C x).length = C := by simp [rowL]
  have hb0 := lt_of_rc hO hd hC1
  rw [hrl, hq]
  refine ⟨fun h => ?_, fun h => ?_⟩
  · have hkC : k < C := by omega
    have hb := lt_of_rc hO hd hkC
    refine ⟨⟨by omega, by omega⟩, ⟨by omega, by omega⟩, ⟨by omega, by omega⟩, ⟨by omega, by omega⟩, ⟨by omega, by omega⟩, hkC, ?_⟩
    rw [map_take_next _ (show k < (rowL C x).length by omega)]
    congr 1
    simp [rowL]
  obtain rfl : k = C := by omega
  rw [take_all (by omega)]
  refine LoopV.nilrow 6 3 1 ?_
  push_cast
  refine LoopV.cntH Try.mixed [1, 2, 5, 30] R (fun i => [(6, .c (.own 2 i)), (31, .c (.d (.int .i64 i)))]) (fun i => [.box 24 (Tab.cs ⟨R, k, cs⟩), .row 3 1 ((rowL k x).map fun (n : Nat) => iD (n : Int)) k, .row 3 1 (((colL R k x).take i).map fun (n : Nat) => iD (n : Int)) i]) (fun _ => True) trivial ?_ (by push_cast)
  intro i hi _
  have hcl : (colL R k x).length = R := by simp [colL]
  push_cast
  have hp : (i : Int) * (k : Int) = ((i * k : Nat) : Int) := (Int.natCast_mul _ _).symm
  rw [g2, hcl, hp]
  refine ⟨fun h => ?_, fun h => ?_⟩
  · have hiR : i < R := by omega
    have hb := lt_of_rc hO hiR hm
    refine ⟨⟨by omega, by omega⟩, by omega, ⟨by omega, by omega⟩, ⟨by omega, by omega⟩, ⟨by omega, by omega⟩, hiR, ?_⟩
    rw [map_take_next _ (show i < (colL R k x).length by omega)]
    congr 1
    simp [colL]
  rw [take_all (by omega)]
  refine CallL.q (c38 R k cs (rowL k x) (row_lt hO hx) (by omega) (by omega)) ?_
  push_cast
  unfold nextF
  refine ⟨fun a => by rw [if_pos a], fun a => ?_⟩
  refine CallL.q (c38 R k cs (colL R k x) (col_lt hO) (by omega) (by omega)) ?_
  push_cast
  rw [if_neg (by omega)]
  refine ⟨fun b => by rw [if_pos b], fun b => ?_⟩
  rw [if_neg (by omega)]
  refine CallL.q (c39 cs (fun x => decide (x ≠ -1)) (by omega)) ?_ (.cons (ArgOk.bor rfl) (.cons (ArgOk.clo (c40 0 (Γ := [])).1 (dss := []) rfl (fun args rs hF => by
    obtain ⟨x, rfl, rfl⟩ := hF
    exact c40 x)) .nil))
  push_cast
  refine fI_findN cs 0 fun j h => ?_
  simp [List.getElem?_eq_getElem h]
end Go.Proofs
