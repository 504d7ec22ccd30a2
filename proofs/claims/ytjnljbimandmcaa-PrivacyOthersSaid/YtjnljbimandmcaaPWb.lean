/- Walks of the chapter on privacy, second part. -/
import Derived.Test.YtjnljbimandmcaaPWa
set_option linter.all false
namespace Go.Proofs
open Go Go.Ax Go.Pv
set_option maxRecDepth 100000
variable {Γ : List (Nat × List D)}
structure Okn (R C : Nat) (cs : List Int) : Prop where
  r1 : 1 ≤ R
  r8 : R ≤ 8
  c1 : 1 ≤ C
  c8 : C ≤ 8
  len : cs.length = R * C
theorem Okn.le {R C : Nat} {cs : List Int} (h : Okn R C cs) : cs.length ≤ 64 := by rw [h.len]; exact Nat.mul_le_mul h.r8 h.c8
theorem Okn.div {R C : Nat} {cs : List Int} (h : Okn R C cs) {k : Nat} (hk : k < cs.length) : k / C < R := Nat.div_lt_of_lt_mul (by rw [Nat.mul_comm, ← h.len]; exact hk)
theorem Okn.mod {R C : Nat} {cs : List Int} (h : Okn R C cs) (k : Nat) : k % C < C := Nat.mod_lt _ h.c1
theorem c43 (R C : Nat) (cs : List Int) (hO : Okn R C cs) (inn : List Bool) (hi : inn.length = R + C) (v w : Nat) : AFn Try.prog Γ 43 [.agg (Tab.cs ⟨R, C, cs⟩), .c (.bor 1 (inn.map bD)), .c (.d (.int .i64 v)), .c (.d (.int .i64 w))] [.d (.bool (reachedF R C cs inn v w))] := by
  refine AFn.vc [] Try.func43 rfl Try.mixed (by kernel_rfl) Try.ntmps43 Try.results43 (by simp) ?_
  have hle := hO.le
  have hR := hO.r8
  have hC := hO.c8
  push_cast
  refine LoopV.cnt Try.mixed [1, 2, 3, 4] cs.length (fun k => [(9, .c (.d (.int .i64 k)))]) (fun k => reachedF R C cs inn v w = ((List.range cs.length).drop k).any fun c => hidB cs w c && edgB R C inn v c) (by simp [reachedF]) ?_
  intro k hk hinv
  push_cast
  have hm := hO.mod k
  have hd : k < cs.length → k / C < R := fun h => hO.div h
  have st : ∀ h : k < cs.length, reachedF R C cs inn v w = ((hidB cs w k && edgB R C inn v k) || ((List.range cs.length).drop (k + 1)).any fun c => hidB cs w c && edgB R C inn v c) := fun h => by
    rw [hinv, any_drop _ (by simpa using h)]; simp
  refine ⟨fun h => ?_, fun h => ?_⟩
  · have hk' : k < cs.length := by omega
    have hd := hd hk'
    have g1 : (-1 : Int) < (k : Int) % C := by rw [← Int.natCast_emod]; omega
    have g2 : (k : Int) % C < C := by rw [← Int.natCast_emod]; omega
    have g3 : (k : Int) / C = ((k / C : Nat) : Int) := (Int.natCast_ediv _ _).symm
    have g4 : (k : Int) % C = ((k % C : Nat) : Int) := (Int.natCast_emod _ _).symm
    have st := st hk'
    have f1 : cs[k]? = some cs[k] := List.getElem?_eq_getElem hk'
    have f2 : inn[R + k % C]? = some inn[R + k % C] := List.getElem?_eq_getElem (by omega)
    have f3 : inn[k / C]? = some inn[k / C] := List.getElem?_eq_getElem (by omega)
    have e5 : ((v : Int) = (R : Int) + ((k % C : Nat) : Int)) = (v = R + k % C) := propext ⟨fun h => by omega, fun h => by omega⟩
    simp only [g3, g4, e5, Int.natCast_inj] at *
    repeat' (first | apply And.intro | intro _ | refine Exists.intro (by omega) ?_)
    all_goals first | omega | skip
    all_goals
      rw [st]
      clear st hinv g3 g4 e5
      first
      | (have q : (hidB cs w k && edgB R C inn v k) = false := by simp_all [hidB, edgB]
         rw [q]; rfl)
      | (have q : (hidB cs w k && edgB R C inn v k) = true := by simp_all [hidB, edgB]
         rw [q]; rfl)
  · rw [hinv, drop_end (by simp; omega)]; rfl
theorem c34 (R C : Int) (cs : List Int) (c : Nat) (hc : c < cs.length) (hl : cs.length ≤ 1000000) : AFn Try.prog Γ 34 [.agg (Tab.cs ⟨R, C, cs⟩), .c (.d (.int .i64 c))] [.agg (Tab.ds ⟨R, C, cs.set c (-1)⟩)] := by
  refine AFn.vc [] Try.func34 rfl Try.mixed (by kernel_rfl) Try.ntmps34 Try.results34 (by simp) ?_
  push_cast
  have e : ((c : Int) + 1).toNat = c + 1 := by omega
  rw [e]
  refine ⟨by omega, by omega, by omega, by omega, by omega, by omega, by omega, ?_⟩
  rw [List.take_of_length_le (show ((cs.map iD).drop (c + 1)).length ≤ _ by simp), List.set_eq_take_append_cons_drop, if_pos hc]
  simp [iD]
theorem small_bd (cs : List Int) (l : List Nat) (hl : ∀ k ∈ l, k < cs.length) : -1 ≤ smallF cs l ∧ smallF cs l < cs.length := by
  have key : ∀ (l : List Nat) (a : Int), (∀ k ∈ l, k < cs.length) → -1 ≤ a ∧ a < cs.length → -1 ≤ l.foldl (smStep cs) a ∧ l.foldl (smStep cs) a < cs.length := by
    intro l
    induction l with
    | nil => intro a _ h; exact h
    | cons x l ih =>
      intro a hx h
      refine ih _ (fun k hk => hx k (by simp [hk])) ?_
      have := hx x (by simp)
      unfold smStep; cases (decide (cs.getD x 0 ≠ -1) && better cs a x) <;> simp only [cond_true, cond_false] <;> omega
  exact key l (-1) hl (by omega)
theorem c38 (R C : Int) (cs : List Int) (l : List Nat) (hl : ∀ k ∈ l, k < cs.length) (hlen : l.length ≤ 1000000) (hc : cs.length ≤ 1000000) : AFn Try.prog Γ 38 [.agg (Tab.cs ⟨R, C, cs⟩), .c (.bor 1 (l.map fun (n : Nat) => [D.int .i64 (n : Int)]))] [.d (.int .i64 (smallF cs l))] := by
  refine AFn.vc [] Try.func38 rfl Try.mixed (by kernel_rfl) Try.ntmps38 Try.results38 (by simp) ?_
  push_cast
  refine LoopV.cnt Try.mixed [2, 8, 9] l.length (fun k => [(10, .c (.d (.int .i64 k))), (5, .c (.d (.int .i64 (smallF cs (l.take k)))))]) (fun k => True) trivial ?_ (by push_cast; rfl)
  intro k hk _
  push_cast
  have hsm : -1 ≤ smallF cs (l.take k) ∧ smallF cs (l.take k) < cs.length := small_bd cs _ (fun x hx => hl x (List.mem_of_mem_take hx))
  refine ⟨fun h => ?_, fun h => by rw [take_all (by omega)]⟩
  have hk' : k < l.length := by omega
  have hlk := hl l[k] (List.getElem_mem hk')
  have st : smallF cs (l.take (k + 1)) = smStep cs (smallF cs (l.take k)) l[k] := foldl_take _ _ hk'
  refine ⟨hk', hlk, fun a => ⟨fun b => ⟨hlk, b, by omega, fun c => ⟨by omega, hk', ?_⟩, fun c => ⟨by omega, hk', ?_⟩⟩, fun b => ⟨by omega, hk', ?_⟩⟩, fun a => ⟨by omega, hk', ?_⟩⟩
  · rw [st]; simp [smStep, better, List.getElem?_eq_getElem hlk, a, List.getElem?_eq_getElem (show (smallF cs (l.take k)).toNat < cs.length by omega), c]
  · rw [st]; simp [smStep, better, List.getElem?_eq_getElem hlk, a, List.getElem?_eq_getElem (show (smallF cs (l.take k)).toNat < cs.length by omega), Int.not_lt.2 c, Int.not_lt.2 b]
  · rw [st]; simp [smStep, better, List.getElem?_eq_getElem hlk, a, b]
  · rw [st]; simp [smStep, better, List.getElem?_eq_getElem hlk, a]
theorem c39 (l : List Int) (p : Int → Bool) (hl : l.length ≤ 1000000) : AFn Try.prog Γ 39 [.c (.bor 1 (l.map iD)), .c (.fn (FnSpec Try.prog Γ (fun a r => ∃ x : Int, a = [.c (.d (.int .i64 x))] ∧ r = [.d (.bool (p x))])))] [.d (.int .i64 (fI p 0 l))] := by
  refine AFn.vc [] Try.func39 rfl Try.mixed (by kernel_rfl) Try.ntmps39 Try.results39 (by simp) ?_
  push_cast
  refine LoopV.cnt Try.mixed [0, 1, 7] l.length (fun k => [(8, .c (.d (.int .i64 k)))]) (fun k => fI p k (l.drop k) = fI p 0 l) (by simp) ?_
  intro k hk hinv
  push_cast
  refine ⟨fun h => ⟨by omega, CallL.fn _ _ ⟨l[k], rfl, rfl⟩ ?_⟩, fun h => ?_⟩
  · push_cast
    refine ⟨fun a => ?_, fun a => ⟨by omega, by omega, ?_⟩⟩
    · rw [← hinv, drop_cons (by omega), fI, if_pos a]
    · rw [← hinv, drop_cons (show k < l.length by omega), fI, if_neg (by simp [a])]
  · rw [← hinv, drop_end (by omega)]; rfl
theorem c40 (x : Int) : AFn Try.prog Γ 40 [.c (.d (.int .i64 x))] [.d (.bool (decide (x ≠ -1)))] := by
  refine AFn.vc [] Try.func40 rfl Try.mixed (by kernel_rfl) Try.ntmps40 Try.results40 (by simp) ?_
  push_cast
end Go.Proofs
