/- Part of a proof about this program; no condition of its own. -/
import Derived.Test.YticdcapnomageaaDoorIWd
set_option linter.all false
/- Walks of the chapters on loans between libraries, fifth part: kinds of messages. -/
namespace Go.Proofs
open Go Go.Ax Go.Tx Go.Il
set_option maxRecDepth 100000
variable {Γ : List (Nat × List D)}
theorem c95 (r : Int) (h1 : -1000 ≤ r) (h2 : r ≤ 1000) : AFn Tryd.prog Γ 95 [.c (.d (.int .i64 r))] [.d (.int .i64 (3 - r))] := by
  refine AFn.vc [] Tryd.func95 rfl Tryd.mixed (by kernel_rfl) Tryd.ntmps95 Tryd.results95 (by simp) ?_
  push_cast
  exact ⟨by omega, by omega⟩
theorem c94 (l : List Int) (n : Int) (hl : l.length ≤ 1000000) : AFn Tryd.prog Γ 94 [.c (.bor 1 (l.map iD)), .c (.d (.int .i64 n))] [.d (.int .i64 (fI (fun x => decide (x = n)) 0 l))] := by
  refine AFn.vc [] Tryd.func94 rfl Tryd.mixed (by kernel_rfl) Tryd.ntmps94 Tryd.results94 (by simp) ?_
  push_cast
  refine LoopV.cnt Tryd.mixed [0, 1, 7] l.length (fun k => [(8, .c (.d (.int .i64 k)))]) (fun k => fI (fun x => decide (x = n)) k (l.drop k) = fI (fun x => decide (x = n)) 0 l) (by simp) ?_ (by push_cast)
  intro k hk hinv
  push_cast
  refine ⟨fun h => ?_, fun h => ?_⟩
  · have hk' : k < l.length := by omega
    rw [drop_cons hk', fI] at hinv
    refine ⟨hk', fun a => ?_, fun a => ⟨by omega, by omega, ?_⟩⟩
    · rw [← hinv, if_pos (decide_eq_true a.symm)]
    · rw [← hinv, if_neg (by simpa using fun e => a e.symm)]
  · rw [← hinv, drop_end (by omega)]; rfl
theorem c63 (l : List Int) (n : Int) (hl : l.length ≤ 1000000) : AFn Tryd.prog Γ 63 [.c (.bor 1 (l.map iD)), .c (.d (.int .i64 n))] [.d (.bool (hasF l n))] := by
  refine AFn.vc [] Tryd.func63 rfl Tryd.mixed (by kernel_rfl) Tryd.ntmps63 Tryd.results63 (by simp) ?_
  push_cast
  refine CallL.q (c94 l n hl) ?_
  push_cast
  exact fI_ge _ l
theorem lkG0 : lkG 0 Γ0 = .c (.ptr ((kinds.map Kd.ds).flatten)) := rfl
theorem c62 (kind : Int) : AFn Tryd.prog Γ0 62 [.c (.d (.int .i64 kind))] [.agg (ofF kind).ds] := by
  by_cases h : kind < 1 ∨ 12 ≤ kind
  · have e : ofF kind = kd0 := by unfold ofF; rw [if_pos h]
    rw [e]
    rcases h with h | h
    · have h1 : (kind < 1) = True := eq_true h
      refine AFn.vc [] Tryd.func62 rfl Tryd.mixed (by kernel_rfl) Tryd.ntmps62 Tryd.results62 (by simp) ?_
      push_cast [h1]
      exact ⟨rfl, rfl, rfl, rfl, rfl⟩
    · have h1 : (kind < 1) = False := eq_false (by omega)
      have h2 : (12 ≤ kind) = True := eq_true h
      refine AFn.vc [] Tryd.func62 rfl Tryd.mixed (by kernel_rfl) Tryd.ntmps62 Tryd.results62 (by simp) ?_
      push_cast [h1, h2]
      exact ⟨rfl, rfl, rfl, rfl, rfl⟩
  · have : kind = 1 ∨ kind = 2 ∨ kind = 3 ∨ kind = 4 ∨ kind = 5 ∨ kind = 6 ∨ kind = 7 ∨ kind = 8 ∨ kind = 9 ∨ kind = 10 ∨ kind = 11 := by omega
    rcases this with rfl | rfl | rfl | rfl | rfl | rfl | rfl | rfl | rfl | rfl | rfl
    all_goals
      refine AFn.vc [] Tryd.func62 rfl Tryd.mixed (by kernel_rfl) Tryd.ntmps62 Tryd.results62 (by simp) ?_
      push_cast [lkG0]
      refine ⟨by decide, ⟨by decide, by decide⟩, ?_⟩
      exact ⟨⟨rfl, rfl, rfl, rfl, rfl, trivial⟩, trivial⟩
end Go.Proofs
