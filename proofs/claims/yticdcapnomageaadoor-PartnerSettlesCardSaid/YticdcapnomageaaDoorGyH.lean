/- Part of a proof about this program; no condition of its own. -/
import Derived.Test.YticdcapnomageaaDoorGyG
import Derived.Test.YticdcapnomageaaDoorGxK
import Derived.Test.YticdcapnomageaaDoorGyE
set_option linter.all false
/- Walks of the chapter on partners, seventh part: Say. No condition. -/
namespace Go.Proofs
open Go Go.Ax Go.Tx Go.Il
set_option maxRecDepth 100000
variable {Γ : List (Nat × List D)}
def tab47 : List (Nat × List Bool × List (Nat × Nat)) := [(0, [true, true, true, true, true, true, true, true, true, true, true, true, false, false, false, false, false, false, false, false], [(12, 0), (13, 0), (14, 0), (15, 0), (16, 1)]), (0, [true, true, true, true, true, true, true, true, true, true, true, true, false, false, false, true, false, false, false, false], [(12, 0), (13, 0), (14, 0), (16, 0)]), (0, [true, true, true, true, true, true, true, true, true, true, true, true, false, false, false, true, true, false, false, false], [(12, 0), (13, 0), (14, 0)]), (1, [true, true, true, true, true, true, true, true, true, true, true, true, false, false, false, false, true, false, false, false], [(12, 1), (13, 1), (14, 1), (15, 2)]), (2, [true, true, true, true, true, true, true, true, true, true, true, true, false, false, false, true, true, false, false, false], [(12, 2), (13, 2), (14, 2)]), (0, [true, true, true, true, true, true, true, true, true, true, true, true, true, false, false, false, false, false, false, false], [(13, 0), (14, 0), (15, 0), (16, 1)]), (0, [true, true, true, true, true, true, true, true, true, true, true, true, false, true, false, false, false, false, false, false], [(12, 0), (14, 0), (15, 0), (16, 1)]), (0, [true, true, true, true, true, true, true, true, true, true, true, true, false, false, true, false, false, false, false, false], [(12, 0), (13, 0), (15, 0), (16, 1)]), (0, [true, true, true, true, true, true, true, true, true, true, true, true, true, false, false, true, false, false, false, false], [(13, 0), (14, 0), (16, 0)]), (0, [true, true, true, true, true, true, true, true, true, true, true, true, false, true, false, true, false, false, false, false], [(12, 0), (14, 0), (16, 0)]), (0, [true, true, true, true, true, true, true, true, true, true, true, true, false, false, true, true, false, false, false, false], [(12, 0), (13, 0), (16, 0)]), (0, [true, true, true, true, true, true, true, true, true, true, true, true, true, false, false, true, true, false, false, false], [(13, 0), (14, 0), (17, 0)]), (0, [true, true, true, true, true, true, true, true, true, true, true, true, false, true, false, true, true, false, false, false], [(12, 0), (14, 0)]), (0, [true, true, true, true, true, true, true, true, true, true, true, true, false, false, true, true, true, false, false, false], [(12, 0), (13, 0)]), (1, [true, true, true, true, true, true, true, true, true, true, true, true, true, false, false, false, true, false, false, false], [(13, 1), (14, 1), (15, 2)]), (1, [true, true, true, true, true, true, true, true, true, true, true, true, false, true, false, false, true, false, false, false], [(12, 1), (14, 1), (15, 2)]), (1, [true, true, true, true, true, true, true, true, true, true, true, true, false, false, true, false, true, false, false, false], [(12, 1), (13, 1), (15, 2)]), (2, [true, true, true, true, true, true, true, true, true, true, true, true, true, false, false, true, true, false, false, false], [(13, 2), (14, 2), (17, 2)]), (2, [true, true, true, true, true, true, true, true, true, true, true, true, false, true, false, true, true, false, false, false], [(12, 2), (14, 2)]), (2, [true, true, true, true, true, true, true, true, true, true, true, true, false, false, true, true, true, false, false, false], [(12, 2), (13, 2)]), (0, [true, true, true, true, true, true, true, true, true, true, true, true, true, true, false, false, false, false, false, false], [(14, 0), (15, 0), (16, 1)]), (0, [true, true, true, true, true, true, true, true, true, true, true, true, true, false, true, false, false, false, false, false], [(13, 0), (15, 0), (16, 1)]), (0, [true, true, true, true, true, true, true, true, true, true, true, true, false, true, true, false, false, false, false, false], [(12, 0), (15, 0), (16, 1)]), (0, [true, true, true, true, true, true, true, true, true, true, true, true, true, true, false, true, false, false, false, false], [(14, 0), (16, 0)]), (0, [true, true, true, true, true, true, true, true, true, true, true, true, true, false, true, true, false, false, false, false], [(13, 0), (16, 0)]), (0, [true, true, true, true, true, true, true, true, true, true, true, true, false, true, true, true, false, false, false, false], [(12, 0), (16, 0)]), (0, [true, true, true, true, true, true, true, true, true, true, true, true, true, true, false, true, true, false, false, false], [(14, 0), (17, 0)]), (0, [true, true, true, true, true, true, true, true, true, true, true, true, true, false, true, true, true, false, false, false], [(13, 0), (17, 0)]), (0, [true, true, true, true, true, true, true, true, true, true, true, true, true, false, false, true, true, true, false, false], [(13, 0), (14, 0)]), (0, [true, true, true, true, true, true, true, true, true, true, true, true, false, true, true, true, true, false, false, false], [(12, 0)]), (1, [true, true, true, true, true, true, true, true, true, true, true, true, true, true, false, false, true, false, false, false], [(14, 1), (15, 2)]), (1, [true, true, true, true, true, true, true, true, true, true, true, true, true, false, true, false, true, false, false, false], [(13, 1), (15, 2)]), (1, [true, true, true, true, true, true, true, true, true, true, true, true, false, true, true, false, true, false, false, false], [(12, 1), (15, 2)]), (2, [true, true, true, true, true, true, true, true, true, true, true, true, true, true, false, true, true, false, false, false], [(14, 2), (17, 2)]), (2, [true, true, true, true, true, true, true, true, true, true, true, true, true, false, true, true, true, false, false, false], [(13, 2), (17, 2)]), (2, [true, true, true, true, true, true, true, true, true, true, true, true, true, false, false, true, true, true, false, false], [(13, 2), (14, 2)]), (2, [true, true, true, true, true, true, true, true, true, true, true, true, false, true, true, true, true, false, false, false], [(12, 2)]), (0, [true, true, true, true, true, true, true, true, true, true, true, true, true, true, true, false, false, false, false, false], [(15, 0), (16, 1)]), (0, [true, true, true, true, true, true, true, true, true, true, true, true, true, true, true, true, false, false, false, false], [(16, 0)]), (0, [true, true, true, true, true, true, true, true, true, true, true, true, true, true, true, true, true, false, false, false], [(17, 0)]), (0, [true, true, true, true, true, true, true, true, true, true, true, true, true, true, false, true, true, true, false, false], [(14, 0), (18, 0)]), (0, [true, true, true, true, true, true, true, true, true, true, true, true, true, false, true, true, true, true, false, false], [(13, 0)]), (1, [true, true, true, true, true, true, true, true, true, true, true, true, true, true, true, false, true, false, false, false], [(15, 2)]), (2, [true, true, true, true, true, true, true, true, true, true, true, true, true, true, true, true, true, false, false, false], [(17, 2)]), (2, [true, true, true, true, true, true, true, true, true, true, true, true, true, true, false, true, true, true, false, false], [(14, 2), (18, 2)]), (2, [true, true, true, true, true, true, true, true, true, true, true, true, true, false, true, true, true, true, false, false], [(13, 2)]), (0, [true, true, true, true, true, true, true, true, true, true, true, true, true, true, true, true, true, true, false, false], [(18, 0)]), (0, [true, true, true, true, true, true, true, true, true, true, true, true, true, true, false, true, true, true, true, false], [(14, 0)]), (2, [true, true, true, true, true, true, true, true, true, true, true, true, true, true, true, true, true, true, false, false], [(18, 2)]), (2, [true, true, true, true, true, true, true, true, true, true, true, true, true, true, false, true, true, true, true, false], [(14, 2)]), (0, [true, true, true, true, true, true, true, true, true, true, true, true, true, true, true, true, true, true, true, false], [(19, 0)]), (2, [true, true, true, true, true, true, true, true, true, true, true, true, true, true, true, true, true, true, true, false], [(19, 2)]), (0, [true, true, true, true, true, true, true, true, true, true, true, true, true, true, true, true, true, true, true, true], []), (2, [true, true, true, true, true, true, true, true, true, true, true, true, true, true, true, true, true, true, true, true], [])]
def tab47b : List (List Bool × List Nat) := [([false, false, false, false, false, false, false, false], [0, 1, 2, 4]), ([true, false, false, false, false, false, false, false], [1, 2, 4]), ([false, true, false, false, false, false, false, false], [0, 2, 4]), ([false, false, true, false, false, false, false, false], [0, 1, 4]), ([false, false, false, false, true, false, false, false], [0, 1, 2]), ([true, true, false, false, false, false, false, false], [2, 4]), ([true, false, true, false, false, false, false, false], [1, 4]), ([true, false, false, false, true, false, false, false], [1, 2]), ([false, true, true, false, false, false, false, false], [0, 4]), ([false, true, false, false, true, false, false, false], [0, 2]), ([false, false, true, false, true, false, false, false], [0, 1]), ([true, true, true, false, false, false, false, false], [3, 4]), ([true, true, false, false, true, false, false, false], [2]), ([true, false, true, false, true, false, false, false], [1]), ([false, true, true, false, true, false, false, false], [0]), ([true, true, true, true, false, false, false, false], [4, 5]), ([true, true, true, false, true, false, false, false], [3]), ([true, true, true, true, true, false, false, false], [5]), ([true, true, true, true, false, true, false, false], [4]), ([true, true, true, true, true, true, false, false], [6]), ([true, true, true, true, true, true, true, false], [7]), ([true, true, true, true, true, true, true, true], [])]
def tab48b : List (List Bool × List Nat) := [([false, false, false, false, false, false, false, false], [0, 1, 2, 4]), ([true, false, false, false, false, false, false, false], [1, 2, 4]), ([false, true, false, false, false, false, false, false], [0, 2, 4]), ([false, false, true, false, false, false, false, false], [0, 1, 4]), ([false, false, false, false, true, false, false, false], [0, 1, 2]), ([true, true, false, false, false, false, false, false], [2, 4]), ([true, false, true, false, false, false, false, false], [1, 4]), ([true, false, false, false, true, false, false, false], [1, 2]), ([false, true, true, false, false, false, false, false], [0, 4]), ([false, true, false, false, true, false, false, false], [0, 2]), ([false, false, true, false, true, false, false, false], [0, 1]), ([true, true, true, false, false, false, false, false], [3, 4]), ([true, true, false, false, true, false, false, false], [2]), ([true, false, true, false, true, false, false, false], [1]), ([false, true, true, false, true, false, false, false], [0]), ([true, true, true, true, false, false, false, false], [4, 5]), ([true, true, true, false, true, false, false, false], [3]), ([true, true, true, true, true, false, false, false], [5]), ([true, true, true, true, false, true, false, false], [4]), ([true, true, true, true, true, true, false, false], [6]), ([true, true, true, true, true, true, true, false], [7]), ([true, true, true, true, true, true, true, true], [])]
def tab48 : List (Nat × List Bool × List (Nat × Nat)) := [(0, [true, true, true, true, true, true, true, true, true, true, true, true, false, false, false, false, false, false, false, false], [(12, 0), (13, 0), (14, 0), (15, 0), (16, 1)]), (0, [true, true, true, true, true, true, true, true, true, true, true, true, false, false, false, true, false, false, false, false], [(12, 0), (13, 0), (14, 0), (16, 0)]), (0, [true, true, true, true, true, true, true, true, true, true, true, true, false, false, false, true, true, false, false, false], [(12, 0), (13, 0), (14, 0)]), (1, [true, true, true, true, true, true, true, true, true, true, true, true, false, false, false, false, true, false, false, false], [(12, 1), (13, 1), (14, 1), (15, 2)]), (2, [true, true, true, true, true, true, true, true, true, true, true, true, false, false, false, true, true, false, false, false], [(12, 2), (13, 2), (14, 2)]), (0, [true, true, true, true, true, true, true, true, true, true, true, true, true, false, false, false, false, false, false, false], [(13, 0), (14, 0), (15, 0), (16, 1)]), (0, [true, true, true, true, true, true, true, true, true, true, true, true, false, true, false, false, false, false, false, false], [(12, 0), (14, 0), (15, 0), (16, 1)]), (0, [true, true, true, true, true, true, true, true, true, true, true, true, false, false, true, false, false, false, false, false], [(12, 0), (13, 0), (15, 0), (16, 1)]), (0, [true, true, true, true, true, true, true, true, true, true, true, true, true, false, false, true, false, false, false, false], [(13, 0), (14, 0), (16, 0)]), (0, [true, true, true, true, true, true, true, true, true, true, true, true, false, true, false, true, false, false, false, false], [(12, 0), (14, 0), (16, 0)]), (0, [true, true, true, true, true, true, true, true, true, true, true, true, false, false, true, true, false, false, false, false], [(12, 0), (13, 0), (16, 0)]), (0, [true, true, true, true, true, true, true, true, true, true, true, true, true, false, false, true, true, false, false, false], [(13, 0), (14, 0), (17, 0)]), (0, [true, true, true, true, true, true, true, true, true, true, true, true, false, true, false, true, true, false, false, false], [(12, 0), (14, 0)]), (0, [true, true, true, true, true, true, true, true, true, true, true, true, false, false, true, true, true, false, false, false], [(12, 0), (13, 0)]), (1, [true, true, true, true, true, true, true, true, true, true, true, true, true, false, false, false, true, false, false, false], [(13, 1), (14, 1), (15, 2)]), (1, [true, true, true, true, true, true, true, true, true, true, true, true, false, true, false, false, true, false, false, false], [(12, 1), (14, 1), (15, 2)]), (1, [true, true, true, true, true, true, true, true, true, true, true, true, false, false, true, false, true, false, false, false], [(12, 1), (13, 1), (15, 2)]), (2, [true, true, true, true, true, true, true, true, true, true, true, true, true, false, false, true, true, false, false, false], [(13, 2), (14, 2), (17, 2)]), (2, [true, true, true, true, true, true, true, true, true, true, true, true, false, true, false, true, true, false, false, false], [(12, 2), (14, 2)]), (2, [true, true, true, true, true, true, true, true, true, true, true, true, false, false, true, true, true, false, false, false], [(12, 2), (13, 2)]), (0, [true, true, true, true, true, true, true, true, true, true, true, true, true, true, false, false, false, false, false, false], [(14, 0), (15, 0), (16, 1)]), (0, [true, true, true, true, true, true, true, true, true, true, true, true, true, false, true, false, false, false, false, false], [(13, 0), (15, 0), (16, 1)]), (0, [true, true, true, true, true, true, true, true, true, true, true, true, false, true, true, false, false, false, false, false], [(12, 0), (15, 0), (16, 1)]), (0, [true, true, true, true, true, true, true, true, true, true, true, true, true, true, false, true, false, false, false, false], [(14, 0), (16, 0)]), (0, [true, true, true, true, true, true, true, true, true, true, true, true, true, false, true, true, false, false, false, false], [(13, 0), (16, 0)]), (0, [true, true, true, true, true, true, true, true, true, true, true, true, false, true, true, true, false, false, false, false], [(12, 0), (16, 0)]), (0, [true, true, true, true, true, true, true, true, true, true, true, true, true, true, false, true, true, false, false, false], [(14, 0), (17, 0)]), (0, [true, true, true, true, true, true, true, true, true, true, true, true, true, false, true, true, true, false, false, false], [(13, 0), (17, 0)]), (0, [true, true, true, true, true, true, true, true, true, true, true, true, true, false, false, true, true, true, false, false], [(13, 0), (14, 0)]), (0, [true, true, true, true, true, true, true, true, true, true, true, true, false, true, true, true, true, false, false, false], [(12, 0)]), (1, [true, true, true, true, true, true, true, true, true, true, true, true, true, true, false, false, true, false, false, false], [(14, 1), (15, 2)]), (1, [true, true, true, true, true, true, true, true, true, true, true, true, true, false, true, false, true, false, false, false], [(13, 1), (15, 2)]), (1, [true, true, true, true, true, true, true, true, true, true, true, true, false, true, true, false, true, false, false, false], [(12, 1), (15, 2)]), (2, [true, true, true, true, true, true, true, true, true, true, true, true, true, true, false, true, true, false, false, false], [(14, 2), (17, 2)]), (2, [true, true, true, true, true, true, true, true, true, true, true, true, true, false, true, true, true, false, false, false], [(13, 2), (17, 2)]), (2, [true, true, true, true, true, true, true, true, true, true, true, true, true, false, false, true, true, true, false, false], [(13, 2), (14, 2)]), (2, [true, true, true, true, true, true, true, true, true, true, true, true, false, true, true, true, true, false, false, false], [(12, 2)]), (0, [true, true, true, true, true, true, true, true, true, true, true, true, true, true, true, false, false, false, false, false], [(15, 0), (16, 1)]), (0, [true, true, true, true, true, true, true, true, true, true, true, true, true, true, true, true, false, false, false, false], [(16, 0)]), (0, [true, true, true, true, true, true, true, true, true, true, true, true, true, true, true, true, true, false, false, false], [(17, 0)]), (0, [true, true, true, true, true, true, true, true, true, true, true, true, true, true, false, true, true, true, false, false], [(14, 0), (18, 0)]), (0, [true, true, true, true, true, true, true, true, true, true, true, true, true, false, true, true, true, true, false, false], [(13, 0)]), (1, [true, true, true, true, true, true, true, true, true, true, true, true, true, true, true, false, true, false, false, false], [(15, 2)]), (2, [true, true, true, true, true, true, true, true, true, true, true, true, true, true, true, true, true, false, false, false], [(17, 2)]), (2, [true, true, true, true, true, true, true, true, true, true, true, true, true, true, false, true, true, true, false, false], [(14, 2), (18, 2)]), (2, [true, true, true, true, true, true, true, true, true, true, true, true, true, false, true, true, true, true, false, false], [(13, 2)]), (0, [true, true, true, true, true, true, true, true, true, true, true, true, true, true, true, true, true, true, false, false], [(18, 0)]), (0, [true, true, true, true, true, true, true, true, true, true, true, true, true, true, false, true, true, true, true, false], [(14, 0)]), (2, [true, true, true, true, true, true, true, true, true, true, true, true, true, true, true, true, true, true, false, false], [(18, 2)]), (2, [true, true, true, true, true, true, true, true, true, true, true, true, true, true, false, true, true, true, true, false], [(14, 2)]), (0, [true, true, true, true, true, true, true, true, true, true, true, true, true, true, true, true, true, true, true, false], [(19, 0)]), (2, [true, true, true, true, true, true, true, true, true, true, true, true, true, true, true, true, true, true, true, false], [(19, 2)]), (0, [true, true, true, true, true, true, true, true, true, true, true, true, true, true, true, true, true, true, true, true], []), (2, [true, true, true, true, true, true, true, true, true, true, true, true, true, true, true, true, true, true, true, true], [])]
theorem c47 (p : Partner) (ot req kind dy : Int) (note : List UInt8) (hl : p.sides.length ≤ 1000) (hs : ∀ s ∈ p.sides, s.sent.length ≤ 1000) (hn : note.length ≤ 100000) :
    AFn Tryd.prog Γ0 47 [.agg (p.ds.map C.d), .c (.d (.int .i64 ot)), .c (.d (.int .i64 req)), .c (.d (.int .i64 kind)), .c (.d (.int .i64 dy)), .c (.d (.str note))] [.agg (pSayP p ot req kind dy note).ds, .agg (pSayM p ot req kind dy note).ds, .d (.int .i64 (pSayE p ot req kind dy note))] := by
  refine AFn.vc [1000007, 1000010] Tryd.func47 rfl Tryd.mixed (by kernel_rfl) Tryd.ntmps47 Tryd.results47 (by simp) ?_
  push_cast
  have hF : pSayE p ot req kind dy note ≠ 0 → pSayP p ot req kind dy note = partner0 ∧ pSayM p ot req kind dy note = msg0 := fun c => ⟨by unfold pSayP; rw [decide_eq_false c]; rfl, by unfold pSayM; rw [decide_eq_false c]; rfl⟩
  refine CallL.q (c80 kind) ?_
  push_cast
  refine ⟨fun h1 => ?_, fun h1 => ?_⟩
  · have e : pSayE p ot req kind dy note = 1 := by unfold pSayE; rw [decide_eq_true h1]; rfl
    obtain ⟨e1, e2⟩ := hF (by omega)
    rw [e, e1, e2]
    exact ⟨⟨rfl, rfl, rfl⟩, ⟨rfl, rfl, rfl, rfl, rfl, rfl, rfl, rfl⟩, rfl⟩
  refine CallL.q (c81 p.sides (ofF kind).role ot req (by omega)) ?_
  have hi : findN p.sides (ofF kind).role ot req = sayI p ot req kind := rfl
  unfold findI
  rw [hi]
  by_cases h2 : sayI p ot req kind < p.sides.length
  case neg =>
    rw [if_neg h2]
    push_cast
    have e : pSayE p ot req kind dy note = 9 := by unfold pSayE; rw [decide_eq_false h1, decide_eq_true (show p.sides.length ≤ sayI p ot req kind by omega)]; rfl
    obtain ⟨e1, e2⟩ := hF (by omega)
    rw [e, e1, e2]
    exact ⟨⟨rfl, rfl, rfl⟩, ⟨rfl, rfl, rfl, rfl, rfl, rfl, rfl, rfl⟩, rfl⟩
  rw [if_pos h2]
  have hat : sayAt p ot req kind = p.sides[sayI p ot req kind] := by
    unfold sayAt
    rw [List.getD_eq_getElem?_getD, List.getElem?_eq_getElem h2]; rfl
  have e : pSayE p ot req kind dy note = sayE p.id p.sides[sayI p ot req kind] kind dy note := by unfold pSayE; rw [decide_eq_false h1, decide_eq_false (show ¬ p.sides.length ≤ sayI p ot req kind by omega), hat]; rfl
  have eP : sayE p.id p.sides[sayI p ot req kind] kind dy note = 0 → pSayP p ot req kind dy note = setF p (sayI p ot req kind) (sayR p.id p.sides[sayI p ot req kind] kind dy note) ∧ pSayM p ot req kind dy note = sayN p.id p.sides[sayI p ot req kind] kind dy note := fun h => by
    unfold pSayP pSayM sayR sayN
    rw [e, decide_eq_true h, hat]; exact ⟨rfl, rfl⟩
  have hsi := hs _ (List.getElem_mem h2)
  revert hF e eP hsi
  generalize pSayP p ot req kind dy note = rP
  generalize pSayM p ot req kind dy note = rM
  generalize pSayE p ot req kind dy note = rE
  clear hat hi
  revert h2
  generalize sayI p ot req kind = i
  intro h2 hF e eP hsi
  subst e
  push_cast
  refine ⟨fun h => by omega, ?_⟩
  refine RegV.preA (E := [1000007, 1000010]) Tryd.mixed 12 [⟨15, 17, 26, Side.ds0 side0⟩, ⟨16, 18, 28, msg0.ds.map C.d⟩] (by kernel_rfl) (by kernel_rfl) ?_ ?_
  · intro x hx
    simp only [List.mem_cons, List.not_mem_nil, or_false] at hx
    rcases hx with rfl | rfl
    · push_cast [Side.ds0]
    · push_cast [msg0]
  simp only [List.take_succ_cons, List.take_zero]
  push_cast
  refine ⟨h2, ?_⟩
  refine CallX.q (c32 p.id p.sides[i] kind dy note hsi hn) ?_
  revert hF eP
  generalize hsR : sayR p.id p.sides[i] kind dy note = sR
  generalize hsM : sayN p.id p.sides[i] kind dy note = sM
  generalize hsE : sayE p.id p.sides[i] kind dy note = sE
  intro eP hF
  push_cast
  refine ⟨fun hA => ?_, ?_⟩
  · refine ⟨h2, ?_⟩
    refine CallX.q (c32 p.id p.sides[i] kind dy note hsi hn) ?_
    rw [hsR, hsM, hsE]
    push_cast
  refine RestA.tab2 (E := [1000007, 1000010]) tab47 [([none, none, none, none, none, none, none, none, none, none, none, none, some (48, .agg (sR.ds.map C.d)), some (49, .agg (sM.ds.map C.d)), some (50, .c (.d (.int .i64 sE))), some (17, .c (.loc 3 0)), some (18, .c (.loc 4 0)), none, none, some (19, .c (.d (.int .i64 sE)))], [none, none, none, none, none, none, none, none, none, none, none, none, none, none, none, some [.box 53 (p.ds.map C.d), .box 53 [.d (.int .i64 0), .d (.int .i64 0), .d (.raw (.slice none 0 0))], .box 28 (msg0.ds.map C.d), .box 26 (Side.ds0 side0)], some [.box 53 (p.ds.map C.d), .box 53 [.d (.int .i64 0), .d (.int .i64 0), .d (.raw (.slice none 0 0))], .box 28 (msg0.ds.map C.d), .box 26 (Side.ds0 side0), .box 28 (msg0.ds.map C.d)], some [.box 53 (p.ds.map C.d), .box 53 [.d (.int .i64 0), .d (.int .i64 0), .d (.raw (.slice none 0 0))], .box 28 (msg0.ds.map C.d), .box 26 (sR.ds.map C.d), .box 28 (msg0.ds.map C.d)], some [.box 53 (p.ds.map C.d), .box 53 [.d (.int .i64 0), .d (.int .i64 0), .d (.raw (.slice none 0 0))], .box 28 (msg0.ds.map C.d), .box 26 (sR.ds.map C.d), .box 28 (sM.ds.map C.d)], none]), ([none, none, none, none, none, none, none, none, none, none, none, none, some (48, .agg (sR.ds.map C.d)), some (49, .agg (sM.ds.map C.d)), some (50, .c (.d (.int .i64 sE))), none, some (18, .c (.loc 3 0)), none, none, none], [none, none, none, none, none, none, none, none, none, none, none, none, none, none, none, none, some [.box 53 (p.ds.map C.d), .box 53 [.d (.int .i64 0), .d (.int .i64 0), .d (.raw (.slice none 0 0))], .box 28 (msg0.ds.map C.d), .box 28 (msg0.ds.map C.d)], none, none, none]), ([none, none, none, none, none, none, none, none, none, none, none, none, some (48, .agg (sR.ds.map C.d)), some (49, .agg (sM.ds.map C.d)), some (50, .c (.d (.int .i64 sE))), some (17, .c (.loc 4 0)), some (18, .c (.loc 3 0)), none, none, some (19, .c (.d (.int .i64 sE)))], [none, none, none, none, none, none, none, none, none, none, none, none, none, none, none, none, some [.box 53 (p.ds.map C.d), .box 53 [.d (.int .i64 0), .d (.int .i64 0), .d (.raw (.slice none 0 0))], .box 28 (msg0.ds.map C.d), .box 28 (msg0.ds.map C.d), .box 26 (Side.ds0 side0)], some [.box 53 (p.ds.map C.d), .box 53 [.d (.int .i64 0), .d (.int .i64 0), .d (.raw (.slice none 0 0))], .box 28 (msg0.ds.map C.d), .box 28 (msg0.ds.map C.d), .box 26 (sR.ds.map C.d)], some [.box 53 (p.ds.map C.d), .box 53 [.d (.int .i64 0), .d (.int .i64 0), .d (.raw (.slice none 0 0))], .box 28 (msg0.ds.map C.d), .box 28 (sM.ds.map C.d), .box 26 (sR.ds.map C.d)], none])] (by kernel_rfl) (by kernel_rfl) rfl rfl rfl rfl rfl rfl ?_ ?_ ?_
  · push_cast [tab47, Side.ds0, msg0]
  · push_cast
    refine ⟨fun h3 => ?_, fun h3 => ?_⟩
    · obtain ⟨e1, e2⟩ := hF h3
      rw [e1, e2]
      exact ⟨⟨rfl, rfl, rfl⟩, ⟨rfl, rfl, rfl, rfl, rfl, rfl, rfl, rfl⟩⟩
    obtain ⟨e1, e2⟩ := eP h3
    rw [e1, e2, h3]
    obtain ⟨q, hq⟩ : ∃ q, setF p i sR = q := ⟨_, rfl⟩
    rw [hq]
    refine RegV.tab (E := [1000007, 1000010]) Tryd.mixed tab47b [some (56, .agg (p.ds.map C.d)), some (57, .c (.d (.int .i64 i))), some (58, .agg (sR.ds.map C.d)), some (59, .agg (q.ds.map C.d)), some (60, .agg (sM.ds.map C.d)), none, none, some (14, .c (.d (.int .i64 0)))]
      [none, none, none, none, none, some [.box 53 (p.ds.map C.d), .box 53 (q.ds.map C.d), .box 28 (msg0.ds.map C.d), .box 26 (sR.ds.map C.d), .box 28 (sM.ds.map C.d)], some [.box 53 (p.ds.map C.d), .box 53 (q.ds.map C.d), .box 28 (sM.ds.map C.d), .box 26 (sR.ds.map C.d), .box 28 (sM.ds.map C.d)], none] (by kernel_rfl) (by kernel_rfl) rfl ?_ ?_
    · push_cast [tab47b, msg0]
      refine ⟨CallL.q (c77 p i sR (by omega) (by omega)) ?_, CallL.q (c77 p i sR (by omega) (by omega)) ?_⟩
      all_goals
        rw [hq]
        push_cast
    · push_cast [msg0]
  · push_cast
    refine ⟨fun h3 => ?_, fun h3 => ?_⟩
    · obtain ⟨e1, e2⟩ := hF h3
      rw [e1, e2]
      exact ⟨⟨rfl, rfl, rfl⟩, ⟨rfl, rfl, rfl, rfl, rfl, rfl, rfl, rfl⟩⟩
    obtain ⟨e1, e2⟩ := eP h3
    rw [e1, e2, h3]
    obtain ⟨q, hq⟩ : ∃ q, setF p i sR = q := ⟨_, rfl⟩
    rw [hq]
    refine RegV.tab (E := [1000007, 1000010]) Tryd.mixed tab47b [some (56, .agg (p.ds.map C.d)), some (57, .c (.d (.int .i64 i))), some (58, .agg (sR.ds.map C.d)), some (59, .agg (q.ds.map C.d)), some (60, .agg (sM.ds.map C.d)), none, none, some (14, .c (.d (.int .i64 0)))]
      [none, none, none, none, none, some [.box 53 (p.ds.map C.d), .box 53 (q.ds.map C.d), .box 28 (msg0.ds.map C.d), .box 28 (sM.ds.map C.d), .box 26 (sR.ds.map C.d)], some [.box 53 (p.ds.map C.d), .box 53 (q.ds.map C.d), .box 28 (sM.ds.map C.d), .box 28 (sM.ds.map C.d), .box 26 (sR.ds.map C.d)], none] (by kernel_rfl) (by kernel_rfl) rfl ?_ ?_
    · push_cast [tab47b, msg0]
      refine ⟨CallL.q (c77 p i sR (by omega) (by omega)) ?_, CallL.q (c77 p i sR (by omega) (by omega)) ?_⟩
      all_goals
        rw [hq]
        push_cast
    · push_cast [msg0]
theorem c48 (p : Partner) (ot req kind dy : Int) (note : List UInt8) (hl : p.sides.length ≤ 1000) (hs : ∀ s ∈ p.sides, s.sent.length ≤ 1000) (hn : note.length ≤ 100000) :
    AFn Tryd.prog Γ 48 [.agg (p.ds.map C.d), .c (.d (.int .i64 ot)), .c (.d (.int .i64 req)), .c (.d (.int .i64 kind)), .c (.d (.int .i64 dy)), .c (.d (.str note))] [.agg (pSayP p ot req kind dy note).ds, .agg (pSayM p ot req kind dy note).ds, .d (.int .i64 (pSayE p ot req kind dy note))] := by
  refine AFn.vc [1000006, 1000009] Tryd.func48 rfl Tryd.mixed (by kernel_rfl) Tryd.ntmps48 Tryd.results48 (by simp) ?_
  push_cast
  have hF : pSayE p ot req kind dy note ≠ 0 → pSayP p ot req kind dy note = partner0 ∧ pSayM p ot req kind dy note = msg0 := fun c => ⟨by unfold pSayP; rw [decide_eq_false c]; rfl, by unfold pSayM; rw [decide_eq_false c]; rfl⟩
  refine CallL.q (c83 kind) ?_
  push_cast
  refine ⟨fun h1 => ?_, fun h1 => ?_⟩
  · have e : pSayE p ot req kind dy note = 1 := by unfold pSayE; rw [decide_eq_true h1]; rfl
    obtain ⟨e1, e2⟩ := hF (by omega)
    rw [e, e1, e2]
    exact ⟨⟨rfl, rfl, rfl⟩, ⟨rfl, rfl, rfl, rfl, rfl, rfl, rfl, rfl⟩, rfl⟩
  refine CallX.q (c83 kind) ?_
  push_cast
  refine CallX.q (c84 p (ofF kind).role ot req (by omega)) ?_
  have hi : findN p.sides (ofF kind).role ot req = sayI p ot req kind := rfl
  unfold findI
  rw [hi]
  by_cases h2 : sayI p ot req kind < p.sides.length
  case neg =>
    rw [if_neg h2]
    push_cast
    have e : pSayE p ot req kind dy note = 9 := by unfold pSayE; rw [decide_eq_false h1, decide_eq_true (show p.sides.length ≤ sayI p ot req kind by omega)]; rfl
    obtain ⟨e1, e2⟩ := hF (by omega)
    rw [e, e1, e2]
    exact ⟨⟨rfl, rfl, rfl⟩, ⟨rfl, rfl, rfl, rfl, rfl, rfl, rfl, rfl⟩, rfl⟩
  rw [if_pos h2]
  have hat : sayAt p ot req kind = p.sides[sayI p ot req kind] := by
    unfold sayAt
    rw [List.getD_eq_getElem?_getD, List.getElem?_eq_getElem h2]; rfl
  have e : pSayE p ot req kind dy note = sayE p.id p.sides[sayI p ot req kind] kind dy note := by unfold pSayE; rw [decide_eq_false h1, decide_eq_false (show ¬ p.sides.length ≤ sayI p ot req kind by omega), hat]; rfl
  have eP : sayE p.id p.sides[sayI p ot req kind] kind dy note = 0 → pSayP p ot req kind dy note = setF p (sayI p ot req kind) (sayR p.id p.sides[sayI p ot req kind] kind dy note) ∧ pSayM p ot req kind dy note = sayN p.id p.sides[sayI p ot req kind] kind dy note := fun h => by
    unfold pSayP pSayM sayR sayN
    rw [e, decide_eq_true h, hat]; exact ⟨rfl, rfl⟩
  have hsi := hs _ (List.getElem_mem h2)
  revert hF e eP hsi
  generalize pSayP p ot req kind dy note = rP
  generalize pSayM p ot req kind dy note = rM
  generalize pSayE p ot req kind dy note = rE
  clear hat hi
  revert h2
  generalize sayI p ot req kind = i
  intro h2 hF e eP hsi
  subst e
  push_cast
  refine ⟨fun h => by omega, ?_⟩
  refine RegV.preA (E := [1000006, 1000009]) Tryd.mixed 12 [⟨15, 16, 26, Side.ds0 side0⟩, ⟨16, 17, 28, msg0.ds.map C.d⟩] (by kernel_rfl) (by kernel_rfl) ?_ ?_
  · intro x hx
    simp only [List.mem_cons, List.not_mem_nil, or_false] at hx
    rcases hx with rfl | rfl
    · push_cast [Side.ds0]
    · push_cast [msg0]
  simp only [List.take_succ_cons, List.take_zero]
  push_cast
  refine ⟨h2, ?_⟩
  refine CallX.q (c33 p.id p.sides[i] kind dy note hsi hn) ?_
  revert hF eP
  generalize hsR : sayR p.id p.sides[i] kind dy note = sR
  generalize hsM : sayN p.id p.sides[i] kind dy note = sM
  generalize hsE : sayE p.id p.sides[i] kind dy note = sE
  intro eP hF
  push_cast
  refine ⟨fun hA => ?_, ?_⟩
  · refine ⟨h2, ?_⟩
    refine CallX.q (c33 p.id p.sides[i] kind dy note hsi hn) ?_
    rw [hsR, hsM, hsE]
    push_cast
  refine RestA.tab2 (E := [1000006, 1000009]) tab48 [([none, none, none, none, none, none, none, none, none, none, none, none, some (46, .agg (sR.ds.map C.d)), some (47, .agg (sM.ds.map C.d)), some (48, .c (.d (.int .i64 sE))), some (16, .c (.loc 3 0)), some (17, .c (.loc 4 0)), none, none, some (18, .c (.d (.int .i64 sE)))], [none, none, none, none, none, none, none, none, none, none, none, none, none, none, none, some [.box 53 (p.ds.map C.d), .box 53 [.d (.int .i64 0), .d (.int .i64 0), .d (.raw (.slice none 0 0))], .box 28 (msg0.ds.map C.d), .box 26 (Side.ds0 side0)], some [.box 53 (p.ds.map C.d), .box 53 [.d (.int .i64 0), .d (.int .i64 0), .d (.raw (.slice none 0 0))], .box 28 (msg0.ds.map C.d), .box 26 (Side.ds0 side0), .box 28 (msg0.ds.map C.d)], some [.box 53 (p.ds.map C.d), .box 53 [.d (.int .i64 0), .d (.int .i64 0), .d (.raw (.slice none 0 0))], .box 28 (msg0.ds.map C.d), .box 26 (sR.ds.map C.d), .box 28 (msg0.ds.map C.d)], some [.box 53 (p.ds.map C.d), .box 53 [.d (.int .i64 0), .d (.int .i64 0), .d (.raw (.slice none 0 0))], .box 28 (msg0.ds.map C.d), .box 26 (sR.ds.map C.d), .box 28 (sM.ds.map C.d)], none]), ([none, none, none, none, none, none, none, none, none, none, none, none, some (46, .agg (sR.ds.map C.d)), some (47, .agg (sM.ds.map C.d)), some (48, .c (.d (.int .i64 sE))), none, some (17, .c (.loc 3 0)), none, none, none], [none, none, none, none, none, none, none, none, none, none, none, none, none, none, none, none, some [.box 53 (p.ds.map C.d), .box 53 [.d (.int .i64 0), .d (.int .i64 0), .d (.raw (.slice none 0 0))], .box 28 (msg0.ds.map C.d), .box 28 (msg0.ds.map C.d)], none, none, none]), ([none, none, none, none, none, none, none, none, none, none, none, none, some (46, .agg (sR.ds.map C.d)), some (47, .agg (sM.ds.map C.d)), some (48, .c (.d (.int .i64 sE))), some (16, .c (.loc 4 0)), some (17, .c (.loc 3 0)), none, none, some (18, .c (.d (.int .i64 sE)))], [none, none, none, none, none, none, none, none, none, none, none, none, none, none, none, none, some [.box 53 (p.ds.map C.d), .box 53 [.d (.int .i64 0), .d (.int .i64 0), .d (.raw (.slice none 0 0))], .box 28 (msg0.ds.map C.d), .box 28 (msg0.ds.map C.d), .box 26 (Side.ds0 side0)], some [.box 53 (p.ds.map C.d), .box 53 [.d (.int .i64 0), .d (.int .i64 0), .d (.raw (.slice none 0 0))], .box 28 (msg0.ds.map C.d), .box 28 (msg0.ds.map C.d), .box 26 (sR.ds.map C.d)], some [.box 53 (p.ds.map C.d), .box 53 [.d (.int .i64 0), .d (.int .i64 0), .d (.raw (.slice none 0 0))], .box 28 (msg0.ds.map C.d), .box 28 (sM.ds.map C.d), .box 26 (sR.ds.map C.d)], none])] (by kernel_rfl) (by kernel_rfl) rfl rfl rfl rfl rfl rfl ?_ ?_ ?_
  · push_cast [tab48, Side.ds0, msg0]
  · push_cast
    refine ⟨fun h3 => ?_, fun h3 => ?_⟩
    · obtain ⟨e1, e2⟩ := hF h3
      rw [e1, e2]
      exact ⟨⟨rfl, rfl, rfl⟩, ⟨rfl, rfl, rfl, rfl, rfl, rfl, rfl, rfl⟩⟩
    obtain ⟨e1, e2⟩ := eP h3
    rw [e1, e2, h3]
    obtain ⟨q, hq⟩ : ∃ q, setF p i sR = q := ⟨_, rfl⟩
    rw [hq]
    refine RegV.tab (E := [1000006, 1000009]) Tryd.mixed tab48b [some (54, .agg (p.ds.map C.d)), some (55, .c (.d (.int .i64 i))), some (56, .agg (sR.ds.map C.d)), some (57, .agg (q.ds.map C.d)), some (58, .agg (sM.ds.map C.d)), none, none, some (14, .c (.d (.int .i64 0)))]
      [none, none, none, none, none, some [.box 53 (p.ds.map C.d), .box 53 (q.ds.map C.d), .box 28 (msg0.ds.map C.d), .box 26 (sR.ds.map C.d), .box 28 (sM.ds.map C.d)], some [.box 53 (p.ds.map C.d), .box 53 (q.ds.map C.d), .box 28 (sM.ds.map C.d), .box 26 (sR.ds.map C.d), .box 28 (sM.ds.map C.d)], none] (by kernel_rfl) (by kernel_rfl) rfl ?_ ?_
    · push_cast [tab48b, msg0]
      refine ⟨CallL.q (c78 p i sR (by omega) (by omega)) ?_, CallL.q (c78 p i sR (by omega) (by omega)) ?_⟩
      all_goals
        rw [hq]
        push_cast
    · push_cast [msg0]
  · push_cast
    refine ⟨fun h3 => ?_, fun h3 => ?_⟩
    · obtain ⟨e1, e2⟩ := hF h3
      rw [e1, e2]
      exact ⟨⟨rfl, rfl, rfl⟩, ⟨rfl, rfl, rfl, rfl, rfl, rfl, rfl, rfl⟩⟩
    obtain ⟨e1, e2⟩ := eP h3
    rw [e1, e2, h3]
    obtain ⟨q, hq⟩ : ∃ q, setF p i sR = q := ⟨_, rfl⟩
    rw [hq]
    refine RegV.tab (E := [1000006, 1000009]) Tryd.mixed tab48b [some (54, .agg (p.ds.map C.d)), some (55, .c (.d (.int .i64 i))), some (56, .agg (sR.ds.map C.d)), some (57, .agg (q.ds.map C.d)), some (58, .agg (sM.ds.map C.d)), none, none, some (14, .c (.d (.int .i64 0)))]
      [none, none, none, none, none, some [.box 53 (p.ds.map C.d), .box 53 (q.ds.map C.d), .box 28 (msg0.ds.map C.d), .box 28 (sM.ds.map C.d), .box 26 (sR.ds.map C.d)], some [.box 53 (p.ds.map C.d), .box 53 (q.ds.map C.d), .box 28 (sM.ds.map C.d), .box 28 (sM.ds.map C.d), .box 26 (sR.ds.map C.d)], none] (by kernel_rfl) (by kernel_rfl) rfl ?_ ?_
    · push_cast [tab48b, msg0]
      refine ⟨CallL.q (c78 p i sR (by omega) (by omega)) ?_, CallL.q (c78 p i sR (by omega) (by omega)) ?_⟩
      all_goals
        rw [hq]
        push_cast
    · push_cast [msg0]
end Go.Proofs

/- Walks of the chapter on partners, eighth part: Hear. No condition. -/
namespace Go.Proofs
open Go Go.Ax Go.Tx Go.Il
set_option maxRecDepth 100000
variable {Γ : List (Nat × List D)}
def tab43 : List (List Bool × List Nat) := [([false, false, false, false, false, false], [0, 1]), ([true, false, false, false, false, false], [1, 4]), ([false, true, false, false, false, false], [0, 2]), ([true, true, false, false, false, false], [2, 4]), ([true, false, false, false, true, false], [1]), ([false, true, true, false, false, false], [0, 3]), ([true, true, true, false, false, false], [3, 4]), ([true, true, false, false, true, false], [2]), ([false, true, true, true, false, false], [0]), ([true, true, true, true, false, false], [4]), ([true, true, true, false, true, false], [3]), ([true, true, true, true, true, false], [5]), ([true, true, true, true, true, true], [])]
theorem c43 (p : Partner) (m : Msg) (hl : p.sides.length ≤ 1000) (hK : ∀ s ∈ p.sides, hearK s) (hm : m.note.length ≤ 100000) :
    AFn Tryd.prog Γ0 43 [.agg (p.ds.map C.d), .agg (m.ds.map C.d)] [.agg (pHearP p m).ds, .d (.int .i64 (pHearE p m))] := by
  refine AFn.vc [1000015] Tryd.func43 rfl Tryd.mixed (by kernel_rfl) Tryd.ntmps43 Tryd.results43 (by simp) ?_
  push_cast
  have hF : pHearE p m ≠ 0 → pHearP p m = partner0 := fun c => by unfold pHearP; rw [decide_eq_false c]; rfl
  have hB : msgF m ≠ 0 ∨ m.dst ≠ p.id → pHearE p m = 1 := fun c => by unfold pHearE; rw [decide_eq_true c]; rfl
  have hb : msgF m ≠ 0 ∨ m.dst ≠ p.id → (0 = (pHearP p m).id ∧ 0 = (pHearP p m).next ∧ (pHearP p m).sides = []) ∧ 1 = pHearE p m := fun c => by
    have e := hB c
    rw [hF (by omega), e]
    exact ⟨⟨rfl, rfl, rfl⟩, rfl⟩
  refine CallL.q (c72 m hm) ?_
  push_cast
  refine ⟨fun h1 => ⟨fun h2 => hb (.inr h2), fun h2 => ?_⟩, fun h1 => hb (.inl h1)⟩
  have hrole := msg_role h1
  refine CallL.q (c80 m.kind) ?_
  push_cast
  refine CallL.q (c79 (ofF m.kind).role (by omega) (by omega)) ?_
  push_cast
  refine CallL.q (c81 p.sides (3 - (ofF m.kind).role) m.frm m.req (by omega)) ?_
  have hi : findN p.sides (3 - (ofF m.kind).role) m.frm m.req = hearI p m := rfl
  unfold findI
  rw [hi]
  have hn12 : ¬ (msgF m ≠ 0 ∨ m.dst ≠ p.id) := not_or.2 ⟨fun x => x h1, fun x => x h2⟩
  by_cases h3 : hearI p m < p.sides.length
  · rw [if_pos h3]
    have hat : hearAt p m = p.sides[hearI p m] := by
      unfold hearAt
      rw [List.getD_eq_getElem?_getD, List.getElem?_eq_getElem h3]; rfl
    have e : pHearE p m = hearE p.id p.sides[hearI p m] m := by
      unfold pHearE; rw [decide_eq_false hn12, decide_eq_false (show ¬ p.sides.length ≤ hearI p m by omega), hat]; rfl
    have eP : pHearE p m = 0 → pHearP p m = setF p (hearI p m) (hearS p.id p.sides[hearI p m] m) := fun h => by
      unfold pHearP; rw [decide_eq_true h, hat]; rfl
    have hk := hK _ (List.getElem_mem h3)
    push_cast
    refine ⟨h3, CallL.q (c23 p.id p.sides[hearI p m] m hk hm) ?_⟩
    push_cast
    rw [e]
    refine ⟨fun h4 => ?_, fun h4 => ?_⟩
    · rw [hF (by rw [e]; exact h4)]
      exact ⟨⟨rfl, rfl, rfl⟩, rfl⟩
    refine CallL.q (c77 p (hearI p m) (hearS p.id p.sides[hearI p m] m) (by omega) (by omega)) ?_
    rw [eP (by rw [e]; exact h4), h4]
    push_cast
  · rw [if_neg h3]
    push_cast
    have hge : p.sides.length ≤ hearI p m := by omega
    have hil : hearI p m = p.sides.length := by have := findN_le p.sides (3 - (ofF m.kind).role) m.frm m.req; omega
    have e0 : pHearE p m = bif decide (3 - (ofF m.kind).role = 1) then 9 else bif decide (openE p.id m ≠ 0) then openE p.id m else bif decide (32 ≤ p.sides.length) then 13 else hearE p.id (openS m) m := by
      unfold pHearE; rw [decide_eq_false hn12, decide_eq_true hge]; rfl
    refine ⟨fun h4 => ?_, fun h4 => ?_⟩
    · rw [decide_eq_true h4] at e0
      have e0 : pHearE p m = 9 := e0
      rw [hF (by omega), e0]
      exact ⟨⟨rfl, rfl, rfl⟩, rfl⟩
    rw [decide_eq_false h4] at e0
    refine CallL.q (c36 p.id m hm) ?_
    push_cast
    refine ⟨fun h5 => ?_, fun h5 => ?_⟩
    · rw [decide_eq_true (show openE p.id m ≠ 0 from h5)] at e0
      have e0 : pHearE p m = openE p.id m := e0
      rw [hF (by rw [e0]; exact h5), e0]
      exact ⟨⟨rfl, rfl, rfl⟩, rfl⟩
    rw [decide_eq_false (show ¬ openE p.id m ≠ 0 from fun x => x h5)] at e0
    refine ⟨fun h6 => ?_, fun h6 => ?_⟩
    · rw [decide_eq_true (show 32 ≤ p.sides.length by omega)] at e0
      have e0 : pHearE p m = 13 := e0
      rw [hF (by omega), e0]
      exact ⟨⟨rfl, rfl, rfl⟩, rfl⟩
    rw [decide_eq_false (show ¬ 32 ≤ p.sides.length by omega)] at e0
    have e : pHearE p m = hearE p.id (openS m) m := e0
    have eO : openR p.id m = openS m := by unfold openR; rw [decide_eq_true h5]; rfl
    have hk : hearK (openS m) := by
      have := (open_right p.id m h5).1
      rw [eO] at this
      exact hearK_of this
    have hat : hearAt p m = openS m := by
      unfold hearAt
      rw [List.getD_eq_getElem?_getD, List.getElem?_eq_none hge]; rfl
    have eP : pHearE p m = 0 → pHearP p m = setF p p.sides.length (hearS p.id (openS m) m) := fun h => by
      unfold pHearP; rw [decide_eq_true h, hat, hil]; rfl
    rw [eO]
    obtain ⟨sO, hsO⟩ : ∃ sO, openS m = sO := ⟨_, rfl⟩
    rw [hsO] at e eP hk ⊢
    refine RegV.tab (E := [1000015]) Tryd.mixed tab43 [some (62, .agg (sO.ds.map C.d)), some (63, .c (.loc 0 2)), some (64, .c (.d (.lst 9 (p.sides.map Side.ds)))), some (65, .c (.d (.int .i64 p.sides.length))), none, some (7, .c (.d (.int .i64 p.sides.length)))]
      [none, none, none, none, some [.box 53 (p.ds.map C.d), .box 28 (m.ds.map C.d), .box 53 [.d (.int .i64 0), .d (.int .i64 0), .d (.raw (.slice none 0 0))], .box 26 (sO.ds.map C.d), .box 26 (sO.ds.map C.d)], none] (by kernel_rfl) (by kernel_rfl) rfl ?_ ?_
    · push_cast [tab43]
    push_cast
    refine CallL.q (c23 p.id sO m hk hm) ?_
    push_cast
    rw [e]
    refine ⟨fun h4 => ?_, fun h4 => ?_⟩
    · rw [hF (by rw [e]; exact h4)]
      exact ⟨⟨rfl, rfl, rfl⟩, rfl⟩
    refine CallL.q (c77 p p.sides.length (hearS p.id sO m) (by omega) (by omega)) ?_
    rw [eP (by rw [e]; exact h4), h4]
    push_cast
theorem c44 (p : Partner) (m : Msg) (hl : p.sides.length ≤ 1000) (hK : ∀ s ∈ p.sides, hearK s) (hkd : ∀ s ∈ p.sides, ∀ x ∈ s.early, 1 ≤ x.kind ∧ x.kind ≤ 11) (hm : m.note.length ≤ 100000) :
    AFn Tryd.prog Γ 44 [.agg (p.ds.map C.d), .agg (m.ds.map C.d)] [.agg (pHearP p m).ds, .d (.int .i64 (pHearE p m))] := by
  refine AFn.vc [] Tryd.func44 rfl Tryd.mixed (by kernel_rfl) Tryd.ntmps44 Tryd.results44 (by simp) ?_
  push_cast
  have hF : pHearE p m ≠ 0 → pHearP p m = partner0 := fun c => by unfold pHearP; rw [decide_eq_false c]; rfl
  have hB : msgF m ≠ 0 ∨ m.dst ≠ p.id → pHearE p m = 1 := fun c => by unfold pHearE; rw [decide_eq_true c]; rfl
  have hb : msgF m ≠ 0 ∨ m.dst ≠ p.id → (0 = (pHearP p m).id ∧ 0 = (pHearP p m).next ∧ (pHearP p m).sides = []) ∧ 1 = pHearE p m := fun c => by
    have e := hB c
    rw [hF (by omega), e]
    exact ⟨⟨rfl, rfl, rfl⟩, rfl⟩
  refine CallL.q (c61 m hm) ?_
  push_cast
  refine ⟨fun h1 => ⟨fun h2 => hb (.inr h2), fun h2 => ?_⟩, fun h1 => hb (.inl h1)⟩
  have hrole := msg_role h1
  refine CallL.q (c83 m.kind) ?_
  push_cast
  refine CallL.q (c82' (ofF m.kind).role hrole) ?_
  push_cast
  refine CallL.q (c84 p (3 - (ofF m.kind).role) m.frm m.req (by omega)) ?_
  have hi : findN p.sides (3 - (ofF m.kind).role) m.frm m.req = hearI p m := rfl
  unfold findI
  rw [hi]
  have hn12 : ¬ (msgF m ≠ 0 ∨ m.dst ≠ p.id) := not_or.2 ⟨fun x => x h1, fun x => x h2⟩
  by_cases h3 : hearI p m < p.sides.length
  · rw [if_pos h3]
    have hat : hearAt p m = p.sides[hearI p m] := by
      unfold hearAt
      rw [List.getD_eq_getElem?_getD, List.getElem?_eq_getElem h3]; rfl
    have e : pHearE p m = hearE p.id p.sides[hearI p m] m := by
      unfold pHearE; rw [decide_eq_false hn12, decide_eq_false (show ¬ p.sides.length ≤ hearI p m by omega), hat]; rfl
    have eP : pHearE p m = 0 → pHearP p m = setF p (hearI p m) (hearS p.id p.sides[hearI p m] m) := fun h => by
      unfold pHearP; rw [decide_eq_true h, hat]; rfl
    have hk := hK _ (List.getElem_mem h3)
    push_cast
    refine ⟨h3, CallL.q (c34 p.id p.sides[hearI p m] m hk (hkd _ (List.getElem_mem h3)) hm) ?_⟩
    push_cast
    rw [e]
    refine ⟨fun h4 => ?_, fun h4 => ?_⟩
    · rw [hF (by rw [e]; exact h4)]
      exact ⟨⟨rfl, rfl, rfl⟩, rfl⟩
    refine CallL.q (c78 p (hearI p m) (hearS p.id p.sides[hearI p m] m) (by omega) (by omega)) ?_
    rw [eP (by rw [e]; exact h4), h4]
    push_cast
  · rw [if_neg h3]
    push_cast
    have hge : p.sides.length ≤ hearI p m := by omega
    have hil : hearI p m = p.sides.length := by have := findN_le p.sides (3 - (ofF m.kind).role) m.frm m.req; omega
    have e0 : pHearE p m = bif decide (3 - (ofF m.kind).role = 1) then 9 else bif decide (openE p.id m ≠ 0) then openE p.id m else bif decide (32 ≤ p.sides.length) then 13 else hearE p.id (openS m) m := by
      unfold pHearE; rw [decide_eq_false hn12, decide_eq_true hge]; rfl
    refine ⟨fun h4 => ?_, fun h4 => ?_⟩
    · rw [decide_eq_true h4] at e0
      have e0 : pHearE p m = 9 := e0
      rw [hF (by omega), e0]
      exact ⟨⟨rfl, rfl, rfl⟩, rfl⟩
    rw [decide_eq_false h4] at e0
    refine CallL.q (c37 p.id m hm) ?_
    push_cast
    refine ⟨fun h5 => ?_, fun h5 => ?_⟩
    · rw [decide_eq_true (show openE p.id m ≠ 0 from h5)] at e0
      have e0 : pHearE p m = openE p.id m := e0
      rw [hF (by rw [e0]; exact h5), e0]
      exact ⟨⟨rfl, rfl, rfl⟩, rfl⟩
    rw [decide_eq_false (show ¬ openE p.id m ≠ 0 from fun x => x h5)] at e0
    refine ⟨fun h6 => ?_, fun h6 => ?_⟩
    · rw [decide_eq_true (show 32 ≤ p.sides.length by omega)] at e0
      have e0 : pHearE p m = 13 := e0
      rw [hF (by omega), e0]
      exact ⟨⟨rfl, rfl, rfl⟩, rfl⟩
    rw [decide_eq_false (show ¬ 32 ≤ p.sides.length by omega)] at e0
    have e : pHearE p m = hearE p.id (openS m) m := e0
    have eO : openR p.id m = openS m := by unfold openR; rw [decide_eq_true h5]; rfl
    have hk : hearK (openS m) := by
      have := (open_right p.id m h5).1
      rw [eO] at this
      exact hearK_of this
    have hat : hearAt p m = openS m := by
      unfold hearAt
      rw [List.getD_eq_getElem?_getD, List.getElem?_eq_none hge]; rfl
    have eP : pHearE p m = 0 → pHearP p m = setF p p.sides.length (hearS p.id (openS m) m) := fun h => by
      unfold pHearP; rw [decide_eq_true h, hat, hil]; rfl
    rw [eO]
    obtain ⟨sO, hsO⟩ : ∃ sO, openS m = sO := ⟨_, rfl⟩
    rw [hsO] at e eP hk ⊢
    have hke : ∀ x ∈ sO.early, 1 ≤ x.kind ∧ x.kind ≤ 11 := by rw [← hsO]; exact fun x hx => (List.not_mem_nil hx).elim
    push_cast
    refine CallL.q (c34 p.id sO m hk hke hm) ?_
    push_cast
    rw [e]
    refine ⟨fun h4 => ?_, fun h4 => ?_⟩
    · rw [hF (by rw [e]; exact h4)]
      exact ⟨⟨rfl, rfl, rfl⟩, rfl⟩
    refine CallL.q (c78 p p.sides.length (hearS p.id sO m) (by omega) (by omega)) ?_
    rw [eP (by rw [e]; exact h4), h4]
    push_cast
end Go.Proofs

/- Walks of the chapter on partners, ninth part: small, Right, valid. No condition. -/
namespace Go.Proofs
open Go Go.Ax Go.Tx Go.Il
set_option maxRecDepth 100000
variable {Γ : List (Nat × List D)}
def shortM (m : Msg) : Bool := decide (m.note.length ≤ 100)
def smallS (s : Side) : Bool := decide (s.sent.length ≤ 30) && decide (s.early.length ≤ 30) && s.sent.all shortM && s.early.all shortM
theorem smallP_eq (p : Partner) : smallP p = (decide (p.sides.length ≤ 40) && p.sides.all smallS) := rfl
theorem c56 (p : Partner) : AFn Tryd.prog Γ 56 [.agg (p.ds.map C.d)] [.d (.bool (smallP p))] := by
  refine AFn.vc [] Tryd.func56 rfl Tryd.mixed (by kernel_rfl) Tryd.ntmps56 Tryd.results56 (by simp) ?_
  push_cast
  rw [smallP_eq]
  refine ⟨fun h => by rw [decide_eq_false (by omega)]; rfl, fun h => ?_⟩
  rw [decide_eq_true (show p.sides.length ≤ 40 by omega), Bool.true_and]
  refine LoopV.cnt Tryd.mixed [1] p.sides.length (fun k => [(3, .c (.d (.int .i64 k)))]) (fun k => (p.sides.drop k).all smallS = p.sides.all smallS) rfl ?_ (by push_cast)
  intro k hk hin
  push_cast
  refine ⟨fun h1 => ?_, fun h1 => ?_⟩
  · have hk' : k < p.sides.length := by omega
    rw [drop_cons hk', List.all_cons] at hin
    have bad : smallS p.sides[k] = false → false = p.sides.all smallS := fun c => by rw [← hin, c]; rfl
    refine ⟨hk', fun h2 => ⟨fun h3 => bad ?_, fun h3 => ?_⟩, fun h2 => bad ?_⟩
    · unfold smallS; rw [decide_eq_false (show ¬ p.sides[k].early.length ≤ 30 by omega), Bool.and_false]; rfl
    · have e : smallS p.sides[k] = (p.sides[k].sent.all shortM && p.sides[k].early.all shortM) := by
        unfold smallS; rw [decide_eq_true (show p.sides[k].sent.length ≤ 30 by omega), decide_eq_true (show p.sides[k].early.length ≤ 30 by omega)]; rfl
      refine LoopV.cnt Tryd.mixed [1, 3, 4] p.sides[k].sent.length (fun j => [(5, .c (.d (.int .i64 j)))]) (fun j => p.sides[k].sent.all shortM = (p.sides[k].sent.drop j).all shortM) rfl ?_ (by push_cast)
      intro j hj hin2
      push_cast
      refine ⟨fun h4 => ?_, fun h4 => ?_⟩
      · have hj' : j < p.sides[k].sent.length := by omega
        rw [all_drop _ hj'] at hin2
        refine ⟨hj', fun h5 => bad ?_, fun h5 => ⟨⟨by omega, by omega⟩, ?_⟩⟩
        · rw [e, hin2, show shortM p.sides[k].sent[j] = false from decide_eq_false (by omega)]; rfl
        · rw [hin2, show shortM p.sides[k].sent[j] = true from decide_eq_true (by omega), Bool.true_and]; exact ⟨hj', rfl⟩
      rw [List.drop_eq_nil_of_le (by omega), List.all_nil] at hin2
      rw [hin2, Bool.true_and] at e
      refine LoopV.cnt Tryd.mixed [1, 3, 4] p.sides[k].early.length (fun j => [(6, .c (.d (.int .i64 j)))]) (fun j => p.sides[k].early.all shortM = (p.sides[k].early.drop j).all shortM) rfl ?_ (by push_cast)
      intro j hj hin3
      push_cast
      refine ⟨fun h4 => ?_, fun h4 => ?_⟩
      · have hj' : j < p.sides[k].early.length := by omega
        rw [all_drop _ hj'] at hin3
        refine ⟨hj', fun h5 => bad ?_, fun h5 => ⟨⟨by omega, by omega⟩, ?_⟩⟩
        · rw [e, hin3, show shortM p.sides[k].early[j] = false from decide_eq_false (by omega)]; rfl
        · rw [hin3, show shortM p.sides[k].early[j] = true from decide_eq_true (by omega), Bool.true_and]; exact ⟨hj', rfl⟩
      rw [List.drop_eq_nil_of_le (by omega), List.all_nil] at hin3
      rw [e, hin3, Bool.true_and] at hin
      exact ⟨⟨by omega, by omega⟩, hk', hin⟩
    · unfold smallS; rw [decide_eq_false (show ¬ p.sides[k].sent.length ≤ 30 by omega)]; rfl
  · rw [← hin, List.drop_eq_nil_of_le (by omega)]; rfl
theorem smallP_val {p : Partner} (h : smallP p = true) : p.sides.length ≤ 40 ∧ ∀ s ∈ p.sides, (s.sent.length ≤ 30 ∧ s.early.length ≤ 30) ∧ SmN s := by
  rw [smallP_eq, Bool.and_eq_true, decide_eq_true_eq, List.all_eq_true] at h
  refine ⟨h.1, fun s hs => ?_⟩
  have := h.2 s hs
  unfold smallS at this
  simp only [Bool.and_eq_true, decide_eq_true_eq, List.all_eq_true] at this
  obtain ⟨⟨⟨a, b⟩, c⟩, d⟩ := this
  exact ⟨⟨a, b⟩, by omega, by omega, fun m hm => by have := of_decide_eq_true (c m hm); omega, fun m hm => by have := of_decide_eq_true (d m hm); omega⟩
theorem c59 (p : Partner) (hl : p.sides.length ≤ 100000) (hs : ∀ s ∈ p.sides, SmN s) : AFn Tryd.prog Γ0 59 [.agg (p.ds.map C.d)] [.d (.int .i64 (prightF p))] := by
  have hin4 : inB p.id 1 4 = true ↔ (1 ≤ p.id ∧ p.id ≤ 4) := inB_iff
  have hin5 : inB p.next 1 10000 = true ↔ (1 ≤ p.next ∧ p.next ≤ 10000) := inB_iff
  have hbad : ¬ ((1 ≤ p.id ∧ p.id ≤ 4) ∧ 1 ≤ p.next ∧ p.next ≤ 10000) → 2 = prightF p := fun c => by
    have : (inB p.id 1 4 && inB p.next 1 10000) = false := by rw [← Bool.not_eq_true, Bool.and_eq_true, hin4, hin5]; exact c
    unfold prightF; rw [this]; rfl
  refine AFn.vc [] Tryd.func59 rfl Tryd.mixed (by kernel_rfl) Tryd.ntmps59 Tryd.results59 (by simp) ?_
  push_cast
  refine ⟨fun a1 => ⟨fun a2 => ⟨fun a3 => ⟨fun a4 => hbad fun c => by omega, fun a4 => ?_⟩, fun a3 => hbad fun c => by omega⟩, fun a2 => hbad fun c => by omega⟩, fun a1 => hbad fun c => by omega⟩
  have hgood : (inB p.id 1 4 && inB p.next 1 10000) = true := by rw [Bool.and_eq_true, hin4, hin5]; exact ⟨⟨a1, a2⟩, a3, a4⟩
  have e0 : prightF p = bif decide (32 < p.sides.length) then 13 else firstE (errAt p.id p.next p.sides) 0 p.sides.length := by unfold prightF; rw [hgood]; rfl
  refine ⟨fun h => by rw [e0, decide_eq_true (show 32 < p.sides.length by omega)]; rfl, fun h => ?_⟩
  rw [decide_eq_false (show ¬ 32 < p.sides.length by omega)] at e0
  refine LoopV.cnt Tryd.mixed [1, 29, 30] p.sides.length (fun k => [(31, .c (.d (.int .i64 k)))]) (fun k => prightF p = firstE (errAt p.id p.next p.sides) k (p.sides.length - k)) e0 ?_ (by push_cast)
  intro k hk hin
  push_cast
  refine ⟨fun h1 => ?_, fun h1 => ?_⟩
  · have hk' : k < p.sides.length := by omega
    have hn : p.sides.length - k = (p.sides.length - (k + 1)) + 1 := by omega
    rw [hn] at hin
    have hE : errAt p.id p.next p.sides k = bif decide (checkF p.id p.next p.sides[k] ≠ 0) then checkF p.id p.next p.sides[k] else bif decide (findN p.sides p.sides[k].role p.sides[k].ptn p.sides[k].req < k) then 7 else 0 := by
      unfold errAt; rw [List.getElem?_eq_getElem hk']
    have hbad2 : errAt p.id p.next p.sides k ≠ 0 → prightF p = errAt p.id p.next p.sides k := fun c => by
      rw [hin, firstE, decide_eq_true c]; rfl
    have hnext : errAt p.id p.next p.sides k = 0 → prightF p = firstE (errAt p.id p.next p.sides) (k + 1) (p.sides.length - (k + 1)) := fun c => by
      rw [hin, firstE, decide_eq_false (fun x => x c)]; rfl
    refine ⟨hk', CallL.q (c91 p p.sides[k] (hs _ (List.getElem_mem hk'))) ?_⟩
    push_cast
    refine ⟨fun h2 => ?_, fun h2 => ?_⟩
    · rw [decide_eq_true (show checkF p.id p.next p.sides[k] ≠ 0 from h2)] at hE
      have hE : errAt p.id p.next p.sides k = checkF p.id p.next p.sides[k] := hE
      rw [hbad2 (by rw [hE]; exact h2), hE]
    rw [decide_eq_false (show ¬ checkF p.id p.next p.sides[k] ≠ 0 from fun x => x h2)] at hE
    have hE : errAt p.id p.next p.sides k = bif decide (findN p.sides p.sides[k].role p.sides[k].ptn p.sides[k].req < k) then 7 else 0 := hE
    rw [← List.map_take]
    refine ⟨⟨Nat.zero_le _, by omega⟩, CallX.q (c81 (p.sides.take k) p.sides[k].role p.sides[k].ptn p.sides[k].req (by rw [List.length_take]; omega)) ?_⟩
    have hlt : (p.sides.take k).length = k := by rw [List.length_take]; omega
    unfold findI
    rw [findN_take, hlt]
    by_cases h3 : findN p.sides p.sides[k].role p.sides[k].ptn p.sides[k].req < k
    · rw [decide_eq_true h3] at hE
      have hE : errAt p.id p.next p.sides k = 7 := hE
      rw [if_pos (by omega)]
      push_cast
      rw [hbad2 (by omega), hE]
    · rw [decide_eq_false h3] at hE
      have hE : errAt p.id p.next p.sides k = 0 := hE
      rw [if_neg (by omega)]
      push_cast
      exact ⟨⟨by omega, by omega⟩, hk', hnext hE⟩
  · rw [hin, show p.sides.length - k = 0 by omega]; rfl
theorem c60 (p : Partner) (hl : p.sides.length ≤ 100000) (hs : ∀ s ∈ p.sides, SmN s) : AFn Tryd.prog Γ 60 [.agg (p.ds.map C.d)] [.d (.int .i64 (prightF p))] := by
  have hin4 : inB p.id 1 4 = true ↔ (1 ≤ p.id ∧ p.id ≤ 4) := inB_iff
  have hin5 : inB p.next 1 10000 = true ↔ (1 ≤ p.next ∧ p.next ≤ 10000) := inB_iff
  have hbad : ¬ ((1 ≤ p.id ∧ p.id ≤ 4) ∧ 1 ≤ p.next ∧ p.next ≤ 10000) → 2 = prightF p := fun c => by
    have : (inB p.id 1 4 && inB p.next 1 10000) = false := by rw [← Bool.not_eq_true, Bool.and_eq_true, hin4, hin5]; exact c
    unfold prightF; rw [this]; rfl
  refine AFn.vc [] Tryd.func60 rfl Tryd.mixed (by kernel_rfl) Tryd.ntmps60 Tryd.results60 (by simp) ?_
  push_cast
  refine ⟨fun a1 => ⟨fun a2 => ⟨fun a3 => ⟨fun a4 => hbad fun c => by omega, fun a4 => ?_⟩, fun a3 => hbad fun c => by omega⟩, fun a2 => hbad fun c => by omega⟩, fun a1 => hbad fun c => by omega⟩
  have hgood : (inB p.id 1 4 && inB p.next 1 10000) = true := by rw [Bool.and_eq_true, hin4, hin5]; exact ⟨⟨a1, a2⟩, a3, a4⟩
  have e0 : prightF p = bif decide (32 < p.sides.length) then 13 else firstE (errAt p.id p.next p.sides) 0 p.sides.length := by unfold prightF; rw [hgood]; rfl
  refine ⟨fun h => by rw [e0, decide_eq_true (show 32 < p.sides.length by omega)]; rfl, fun h => ?_⟩
  rw [decide_eq_false (show ¬ 32 < p.sides.length by omega)] at e0
  refine LoopV.cnt Tryd.mixed [1] p.sides.length (fun k => [(3, .c (.d (.int .i64 k)))]) (fun k => prightF p = firstE (errAt p.id p.next p.sides) k (p.sides.length - k)) e0 ?_ (by push_cast)
  intro k hk hin
  push_cast
  refine ⟨fun h1 => ?_, fun h1 => ?_⟩
  · have hk' : k < p.sides.length := by omega
    have hn : p.sides.length - k = (p.sides.length - (k + 1)) + 1 := by omega
    rw [hn] at hin
    have hE : errAt p.id p.next p.sides k = bif decide (checkF p.id p.next p.sides[k] ≠ 0) then checkF p.id p.next p.sides[k] else bif decide (findN p.sides p.sides[k].role p.sides[k].ptn p.sides[k].req < k) then 7 else 0 := by
      unfold errAt; rw [List.getElem?_eq_getElem hk']
    have hbad2 : errAt p.id p.next p.sides k ≠ 0 → prightF p = errAt p.id p.next p.sides k := fun c => by
      rw [hin, firstE, decide_eq_true c]; rfl
    have hnext : errAt p.id p.next p.sides k = 0 → prightF p = firstE (errAt p.id p.next p.sides) (k + 1) (p.sides.length - (k + 1)) := fun c => by
      rw [hin, firstE, decide_eq_false (fun x => x c)]; rfl
    have hc : checkF p.id p.next p.sides[k] = bif decide (sideF p.sides[k] ≠ 0) then sideF p.sides[k] else bif decide (p.sides[k].ptn = p.id) || decide (p.sides[k].role = 1 ∧ p.next ≤ p.sides[k].req) then 1
      else bif p.sides[k].sent.any (fun m => decide (m.frm ≠ p.id)) || p.sides[k].early.any (fun m => decide (m.dst ≠ p.id)) then 1 else 0 := rfl
    have hS := hs _ (List.getElem_mem hk')
    have l1 := hS.l1
    have l2 := hS.l2
    have hbc : checkF p.id p.next p.sides[k] ≠ 0 → prightF p = checkF p.id p.next p.sides[k] := fun x => by
      rw [decide_eq_true x] at hE
      have hE : errAt p.id p.next p.sides k = checkF p.id p.next p.sides[k] := hE
      rw [hbad2 (by rw [hE]; exact x), hE]
    have hfs := findN_self p.sides k hk'
    refine ⟨hk', CallL.q (c27 p.sides[k] hS) ?_⟩
    push_cast
    refine ⟨fun h2 => ?_, fun h2 => ?_⟩
    · rw [decide_eq_true (show sideF p.sides[k] ≠ 0 from h2)] at hc
      have hc : checkF p.id p.next p.sides[k] = sideF p.sides[k] := hc
      rw [hbc (by rw [hc]; exact h2), hc]
    rw [decide_eq_false (show ¬ sideF p.sides[k] ≠ 0 from fun x => x h2)] at hc
    have hone : p.sides[k].ptn = p.id ∨ (p.sides[k].role = 1 ∧ p.next ≤ p.sides[k].req) → 1 = prightF p := fun x => by
      have hc : checkF p.id p.next p.sides[k] = 1 := by
        rw [hc, show (decide (p.sides[k].ptn = p.id) || decide (p.sides[k].role = 1 ∧ p.next ≤ p.sides[k].req)) = true by simpa using x]; rfl
      rw [hbc (by omega), hc]
    by_cases h3 : p.sides[k].ptn = p.id
    · have e3 : (p.sides[k].ptn = p.id) = True := eq_true h3
      push_cast [e3]
      exact hone (.inl h3)
    have e3 : (p.sides[k].ptn = p.id) = False := eq_false h3
    by_cases h4 : p.sides[k].role = 1 <;> by_cases h5 : p.next ≤ p.sides[k].req
    · have e4 : (p.sides[k].role = 1) = True := eq_true h4
      have e5 : (p.next ≤ p.sides[k].req) = True := eq_true h5
      have e6 : (p.sides[k].req < p.next) = False := eq_false (by omega)
      push_cast [e3, e4, e5, e6]
      exact hone (.inr ⟨h4, h5⟩)
    all_goals
      first | have e4 : (p.sides[k].role = 1) = True := eq_true h4 | have e4 : (p.sides[k].role = 1) = False := eq_false h4
      first | have e5 : (p.next ≤ p.sides[k].req) = True := eq_true h5 | have e5 : (p.next ≤ p.sides[k].req) = False := eq_false h5
      first | have e6 : (p.sides[k].req < p.next) = False := eq_false (by omega) | have e6 : (p.sides[k].req < p.next) = True := eq_true (by omega)
      have hnot : ¬ (p.sides[k].role = 1 ∧ p.next ≤ p.sides[k].req) := fun x => by first | exact h4 x.1 | exact h5 x.2
      rw [decide_eq_false h3, decide_eq_false hnot] at hc
      have hc : checkF p.id p.next p.sides[k] = bif p.sides[k].sent.any (fun m => decide (m.frm ≠ p.id)) || p.sides[k].early.any (fun m => decide (m.dst ≠ p.id)) then 1 else 0 := hc
      push_cast [e3, e4, e5, e6]
      obtain ⟨fr, hfr⟩ : ∃ f : Msg → Bool, f = fun m => decide (m.frm ≠ p.id) := ⟨_, rfl⟩
      obtain ⟨tr, htr⟩ : ∃ f : Msg → Bool, f = fun m => decide (m.dst ≠ p.id) := ⟨_, rfl⟩
      rw [← hfr, ← htr] at hc
      have hone2 : (p.sides[k].sent.any fr || p.sides[k].early.any tr) = true → 1 = prightF p := fun x => by
        rw [x] at hc
        have hc : checkF p.id p.next p.sides[k] = 1 := hc
        rw [hbc (by omega), hc]
      refine LoopV.cnt Tryd.mixed [1, 3, 4] p.sides[k].sent.length (fun j => [(6, .c (.d (.int .i64 j)))]) (fun j => p.sides[k].sent.any fr = (p.sides[k].sent.drop j).any fr) rfl ?_ (by push_cast)
      intro j hj hin2
      push_cast
      refine ⟨fun h6 => ?_, fun h6 => ?_⟩
      · have hj' : j < p.sides[k].sent.length := by omega
        rw [drop_cons hj', List.any_cons] at hin2
        refine ⟨hj', fun h7 => hone2 ?_, fun h7 => ⟨⟨by omega, by omega⟩, hj', ?_⟩⟩
        · rw [hin2, show fr p.sides[k].sent[j] = true by rw [hfr]; exact decide_eq_true h7]; rfl
        · rw [hin2, show fr p.sides[k].sent[j] = false by rw [hfr]; exact decide_eq_false (fun x => x h7), Bool.false_or]
      rw [List.drop_eq_nil_of_le (by omega), List.any_nil] at hin2
      refine LoopV.cnt Tryd.mixed [1, 3, 4] p.sides[k].early.length (fun j => [(7, .c (.d (.int .i64 j)))]) (fun j => p.sides[k].early.any tr = (p.sides[k].early.drop j).any tr) rfl ?_ (by push_cast)
      intro j hj hin3
      push_cast
      refine ⟨fun h6 => ?_, fun h6 => ?_⟩
      · have hj' : j < p.sides[k].early.length := by omega
        rw [drop_cons hj', List.any_cons] at hin3
        refine ⟨hj', fun h7 => hone2 ?_, fun h7 => ⟨⟨by omega, by omega⟩, hj', ?_⟩⟩
        · rw [hin2, hin3, show tr p.sides[k].early[j] = true by rw [htr]; exact decide_eq_true h7]; rfl
        · rw [hin3, show tr p.sides[k].early[j] = false by rw [htr]; exact decide_eq_false (fun x => x h7), Bool.false_or]
      rw [List.drop_eq_nil_of_le (by omega), List.any_nil] at hin3
      rw [hin2, hin3] at hc
      have hc : checkF p.id p.next p.sides[k] = 0 := hc
      rw [decide_eq_false (show ¬ checkF p.id p.next p.sides[k] ≠ 0 from fun x => x hc)] at hE
      have hE : errAt p.id p.next p.sides k = bif decide (findN p.sides p.sides[k].role p.sides[k].ptn p.sides[k].req < k) then 7 else 0 := hE
      refine CallL.q (c84 p p.sides[k].role p.sides[k].ptn p.sides[k].req (by omega)) ?_
      unfold findI
      rw [if_pos (by omega)]
      push_cast
      by_cases h7 : findN p.sides p.sides[k].role p.sides[k].ptn p.sides[k].req < k
      · rw [decide_eq_true h7] at hE
        have hE : errAt p.id p.next p.sides k = 7 := hE
        refine ⟨fun _ => by rw [hbad2 (by omega), hE], fun h8 => by omega⟩
      · rw [decide_eq_false h7] at hE
        have hE : errAt p.id p.next p.sides k = 0 := hE
        refine ⟨fun h8 => by omega, fun _ => ⟨⟨by omega, by omega⟩, hk', hnext hE⟩⟩
  · rw [hin, show p.sides.length - k = 0 by omega]; rfl
theorem c39 (p : Partner) : AFn Tryd.prog Γ 39 [.agg (p.ds.map C.d)] [.d (.bool (smallP p && decide (prightF p = 0)))] := by
  refine AFn.vc [] Tryd.func39 rfl Tryd.mixed (by kernel_rfl) Tryd.ntmps39 Tryd.results39 (by simp) ?_
  push_cast
  refine CallL.q (c56 p) ?_
  push_cast
  refine ⟨fun h => ?_, fun h => by rw [h]; rfl⟩
  obtain ⟨h1, h2⟩ := smallP_val h
  refine CallL.q (c60 p (by omega) fun s hs => (h2 s hs).2) ?_
  push_cast
  rw [h]; rfl
end Go.Proofs

/- Walks of the chapter on partners, tenth part: the examples. No condition. -/
namespace Go.Proofs
open Go Go.Ax Go.Tx Go.Il
set_option maxRecDepth 100000
def gAsk : Msg := ⟨1, 2, 1, 1, 1, 5, 10, []⟩
def gYes : Msg := ⟨2, 1, 1, 1, 2, 5, 11, []⟩
def gShip : Msg := ⟨2, 1, 1, 2, 4, 5, 30, []⟩
def gA1 : Partner := ⟨1, 1, []⟩
def gB1 : Partner := ⟨2, 1, []⟩
def gA2 : Partner := ⟨1, 2, [⟨1, 2, 1, 1, 5, 0, 0, [gAsk], []⟩]⟩
def gB2 : Partner := ⟨2, 1, [⟨1, 1, 2, 1, 5, 0, 1, [], []⟩]⟩
def gB3 : Partner := ⟨2, 1, [⟨1, 1, 2, 2, 5, 0, 1, [gYes], []⟩]⟩
def gC1 : Partner := ⟨1, 2, [⟨1, 2, 1, 2, 5, 0, 1, [gAsk], []⟩]⟩
def gB4 : Partner := ⟨2, 1, [⟨1, 1, 2, 3, 5, 30, 1, [gYes, gShip], []⟩]⟩
def gC2 : Partner := ⟨1, 2, [⟨1, 2, 1, 1, 5, 0, 0, [gAsk], [gShip]⟩]⟩
def gC3 : Partner := ⟨1, 2, [⟨1, 2, 1, 3, 5, 30, 2, [gAsk], []⟩]⟩
attribute [push_cast] gAsk gYes gShip gA1 gB1 gA2 gB2 gB3 gC1 gB4 gC2 gC3
def niceP (p : Partner) : Bool := smallP p && p.sides.all fun s => decide (sideF s = 0)
theorem niceP_val {p : Partner} (h : niceP p = true) : p.sides.length ≤ 40 ∧ (∀ s ∈ p.sides, (s.sent.length ≤ 30 ∧ s.early.length ≤ 30) ∧ SmN s) ∧ (∀ s ∈ p.sides, sideF s = 0) := by
  unfold niceP at h
  rw [Bool.and_eq_true, List.all_eq_true] at h
  obtain ⟨h1, h2⟩ := smallP_val h.1
  exact ⟨h1, h2, fun s hs => of_decide_eq_true (h.2 s hs)⟩
theorem c57' (id : Int) (p : Partner) (h : newP id = p) (h2 : newE id = 0) : AFn Tryd.prog Γ0 57 [.c (.d (.int .i64 id))] [.agg p.ds, .d (.int .i64 0)] := h ▸ h2 ▸ c57 id
theorem c40' (p : Partner) (ot rc dy : Int) (r : Partner) (m : Msg) (hp : niceP p = true) (hn : p.next = 1) (h1 : pAskP p ot rc dy = r) (h2 : pAskM p ot rc dy = m) (h3 : pAskE p ot rc dy = 0) :
    AFn Tryd.prog Γ0 40 [.agg (p.ds.map C.d), .c (.d (.int .i64 ot)), .c (.d (.int .i64 rc)), .c (.d (.int .i64 dy))] [.agg r.ds, .agg m.ds, .d (.int .i64 0)] :=
  h1 ▸ h2 ▸ h3 ▸ c40 p ot rc dy (by have := (niceP_val hp).1; omega) (by omega) (by omega)
theorem c43' (p : Partner) (m : Msg) (r : Partner) (hp : niceP p = true) (hm : m.note = []) (h1 : pHearP p m = r) (h3 : pHearE p m = 0) : AFn Tryd.prog Γ0 43 [.agg (p.ds.map C.d), .agg (m.ds.map C.d)] [.agg r.ds, .d (.int .i64 0)] :=
  h1 ▸ h3 ▸ c43 p m (by have := (niceP_val hp).1; omega) (fun s hs => hearK_of ((niceP_val hp).2.2 s hs)) (by rw [hm]; decide)
theorem c47' (p : Partner) (ot req kind dy : Int) (r : Partner) (m : Msg) (hp : niceP p = true) (h1 : pSayP p ot req kind dy [] = r) (h2 : pSayM p ot req kind dy [] = m) (h3 : pSayE p ot req kind dy [] = 0) :
    AFn Tryd.prog Γ0 47 [.agg (p.ds.map C.d), .c (.d (.int .i64 ot)), .c (.d (.int .i64 req)), .c (.d (.int .i64 kind)), .c (.d (.int .i64 dy)), .c (.d (.str []))] [.agg r.ds, .agg m.ds, .d (.int .i64 0)] :=
  h1 ▸ h2 ▸ h3 ▸ c47 p ot req kind dy [] (by have := (niceP_val hp).1; omega) (fun s hs => by have := ((niceP_val hp).2.1 s hs).1.1; omega) (by decide)
theorem side_role {s : Side} (h : sideF s = 0) : s.role = 1 ∨ s.role = 2 := (side_val h).2.2.2.2.2.1
theorem c45' (p q : Partner) (hp : niceP p = true) (hq : niceP q = true) (h : agreeF p q = true) : AFn Tryd.prog Γ0 45 [.agg (p.ds.map C.d), .agg (q.ds.map C.d)] [.d (.bool true)] :=
  h ▸ c45 p q (fun s hs => side_role ((niceP_val hp).2.2 s hs)) (fun s hs => side_role ((niceP_val hq).2.2 s hs)) (by have := (niceP_val hp).1; omega) (by have := (niceP_val hq).1; omega)
theorem c42' (p q : Partner) (hp : niceP p = true) (hq : niceP q = true) (h : p = q) : AFn Tryd.prog Γ0 42 [.agg (p.ds.map C.d), .agg (q.ds.map C.d)] [.d (.bool true)] :=
  (decide_eq_true h) ▸ c42 p q (by have := (niceP_val hp).1; omega) (by have := (niceP_val hq).1; omega) (fun s hs => ((niceP_val hp).2.1 s hs).2) (fun s hs => ((niceP_val hq).2.1 s hs).2)
set_option maxHeartbeats 4000000 in
theorem c38 : AFn Tryd.prog Γ0 38 [] [.d (.bool true)] := by
  refine AFn.vc [] Tryd.func38 rfl Tryd.mixed (by kernel_rfl) Tryd.ntmps38 Tryd.results38 (by simp) ?_
  push_cast
  refine CallL.q (c57' 1 gA1 (by kernel_rfl) (by kernel_rfl)) ?_
  push_cast
  refine CallL.q (c57' 2 gB1 (by kernel_rfl) (by kernel_rfl)) ?_
  push_cast
  refine CallL.q (c40' gA1 2 5 10 gA2 gAsk (by kernel_rfl) rfl (by kernel_rfl) (by kernel_rfl) (by kernel_rfl)) ?_
  push_cast
  refine CallL.q (c43' gB1 gAsk gB2 (by kernel_rfl) rfl (by kernel_rfl) (by kernel_rfl)) ?_
  push_cast
  refine CallL.q (c43' gB2 gAsk gB2 (by kernel_rfl) rfl (by kernel_rfl) (by kernel_rfl)) ?_
  push_cast
  refine CallL.q (c42' gB2 gB2 (by kernel_rfl) (by kernel_rfl) rfl) ?_
  push_cast
  refine CallL.q (c47' gB2 1 1 2 11 gB3 gYes (by kernel_rfl) (by kernel_rfl) (by kernel_rfl) (by kernel_rfl)) ?_
  push_cast
  refine CallL.q (c43' gA2 gYes gC1 (by kernel_rfl) rfl (by kernel_rfl) (by kernel_rfl)) ?_
  push_cast
  refine CallL.q (c45' gC1 gB3 (by kernel_rfl) (by kernel_rfl) (by kernel_rfl)) ?_
  push_cast
  refine CallL.q (c47' gB3 1 1 4 30 gB4 gShip (by kernel_rfl) (by kernel_rfl) (by kernel_rfl) (by kernel_rfl)) ?_
  push_cast
  refine CallL.q (c43' gA2 gShip gC2 (by kernel_rfl) rfl (by kernel_rfl) (by kernel_rfl)) ?_
  push_cast
  refine CallL.q (c43' gC2 gYes gC3 (by kernel_rfl) rfl (by kernel_rfl) (by kernel_rfl)) ?_
  push_cast
end Go.Proofs

/- Walks of the chapter on partners, eleventh part: the first statements. No condition. -/
namespace Go.Proofs
open Go Go.Ax Go.Tx Go.Il
set_option maxRecDepth 100000
structure OkP (p : Partner) : Prop where
  len : p.sides.length ≤ 1000
  sm : ∀ s ∈ p.sides, SmN s
theorem okP0 : OkP partner0 := ⟨Nat.zero_le _, fun s hs => (List.not_mem_nil hs).elim⟩
structure Val (p : Partner) : Prop where
  pv : PV p
  ok : OkP p
  msg : ∀ s ∈ p.sides, s.sent.length ≤ 30
theorem val_of {p : Partner} (h1 : smallP p = true) (h2 : prightF p = 0) : Val p := by
  obtain ⟨a, b⟩ := smallP_val h1
  exact ⟨(pright_iff p).1 h2, ⟨by omega, fun s hs => (b s hs).2⟩, fun s hs => (b s hs).1.1⟩
theorem _root_.Go.Il.PV.side {p : Partner} (h : PV p) : ∀ s ∈ p.sides, sideF s = 0 := fun s hs => ((check_iff _ _ _).1 (h.chk s hs)).1
theorem _root_.Go.Il.PV.role {p : Partner} (h : PV p) : ∀ s ∈ p.sides, s.role = 1 ∨ s.role = 2 := fun s hs => side_role (h.side s hs)
theorem _root_.Go.Il.PV.hearK {p : Partner} (h : PV p) : ∀ s ∈ p.sides, hearK s := fun s hs => hearK_of (h.side s hs)
theorem _root_.Go.Il.PV.kind {p : Partner} (h : PV p) : ∀ s ∈ p.sides, ∀ x ∈ s.early, 1 ≤ x.kind ∧ x.kind ≤ 11 := fun s hs => early_kind (h.side s hs)
theorem okP_set {p : Partner} {i : Nat} {s : Side} (h : OkP p) (hl : p.sides.length ≤ 40) (hs : SmN s) : OkP (setF p i s) := by
  refine ⟨?_, fun x hx => ?_⟩
  · show (setL p.sides i s).length ≤ 1000
    rw [setL_len]; split <;> omega
  · rcases mem_setL hx with rfl | hx
    · exact hs
    · exact h.sm x hx
theorem pask_ok {p : Partner} {ot rc dy : Int} (h : PV p) (ho : OkP p) : OkP (pAskP p ot rc dy) := by
  by_cases e : pAskE p ot rc dy = 0
  · have e0 : askE p.id p.next ot rc dy = 0 := by
      unfold pAskE at e
      by_cases c : askE p.id p.next ot rc dy = 0
      · exact c
      · rw [decide_eq_true (show askE p.id p.next ot rc dy ≠ 0 from c)] at e; exact e
    have hsm : SmN (askS p.id p.next ot rc dy) := by
      have := (ask_right _ _ _ _ _ e0).2.2.2
      rwa [show askR p.id p.next ot rc dy = askS p.id p.next ot rc dy by unfold askR; rw [decide_eq_true e0]; rfl] at this
    rw [(pask_right h e).2.2.1]
    have hl := h.len
    refine ⟨by simp; omega, fun s hs => ?_⟩
    rcases List.mem_append.1 hs with hs | hs
    · exact ho.sm s hs
    · rw [List.mem_singleton.1 hs]; exact hsm
  · rw [show pAskP p ot rc dy = partner0 by unfold pAskP; rw [decide_eq_false e]; rfl]
    exact okP0
theorem psay_ok {p : Partner} {ot req kind dy : Int} {note : List UInt8} (h : PV p) (ho : OkP p) (hn : note.length ≤ 100) : OkP (pSayP p ot req kind dy note) := by
  by_cases e : pSayE p ot req kind dy note = 0
  · obtain ⟨_, e2, e3⟩ := psay_right h ho.sm hn e
    rw [e2]
    exact okP_set ho (by have := h.len; omega) e3
  · rw [show pSayP p ot req kind dy note = partner0 by unfold pSayP; rw [decide_eq_false e]; rfl]
    exact okP0
theorem phear_ok {p : Partner} {m : Msg} (h : PV p) (ho : OkP p) (hn : m.note.length ≤ 100) : OkP (pHearP p m) := by
  by_cases e : pHearE p m = 0
  · obtain ⟨_, e2, _, _, e3⟩ := phear_right h ho.sm hn e
    rw [e2]
    exact okP_set ho (by have := h.len; omega) e3
  · rw [show pHearP p m = partner0 by unfold pHearP; rw [decide_eq_false e]; rfl]
    exact okP0
theorem c42s {Γ : List (Nat × List D)} (p : Partner) (h : OkP p) : AFn Tryd.prog Γ 42 [.agg (p.ds.map C.d), .agg (p.ds.map C.d)] [.d (.bool true)] :=
  (decide_eq_true (rfl : p = p)) ▸ c42 p p (by have := h.len; omega) (by have := h.len; omega) h.sm h.sm
theorem c11 (p : Partner) (ot rc dy : Int) : AFn Tryd.prog Γ0 11 [.agg (p.ds.map C.d), .c (.d (.int .i64 ot)), .c (.d (.int .i64 rc)), .c (.d (.int .i64 dy))] [.d (.bool true)] := by
  refine AFn.vc [] Tryd.func11 rfl Tryd.mixed (by kernel_rfl) Tryd.ntmps11 Tryd.results11 (by simp) ?_
  push_cast
  refine CallL.q c38 ?_
  push_cast
  refine CallL.q (c39 p) ?_
  push_cast
  rintro ⟨h1, h2⟩
  have hv := val_of h1 h2
  have hi := hv.pv.next
  have hl := hv.pv.len
  refine CallL.q (c40 p ot rc dy (by omega) (by omega) (by omega)) ?_
  push_cast
  refine CallL.q (c41 p ot rc dy (by omega) (by omega) (by omega)) ?_
  push_cast
  refine CallL.q (c42s (pAskP p ot rc dy) (pask_ok hv.pv hv.ok)) ?_
  push_cast
theorem c12 (p : Partner) (m : Msg) : AFn Tryd.prog Γ0 12 [.agg (p.ds.map C.d), .agg (m.ds.map C.d)] [.d (.bool true)] := by
  refine AFn.vc [] Tryd.func12 rfl Tryd.mixed (by kernel_rfl) Tryd.ntmps12 Tryd.results12 (by simp) ?_
  push_cast
  refine CallL.q c38 ?_
  push_cast
  refine CallL.q (c39 p) ?_
  push_cast
  rintro ⟨h1, h2⟩ h3
  have hv := val_of h1 h2
  have hl := hv.pv.len
  refine CallL.q (c43 p m (by omega) hv.pv.hearK (by omega)) ?_
  push_cast
  refine CallL.q (c44 p m (by omega) hv.pv.hearK hv.pv.kind (by omega)) ?_
  push_cast
  refine CallL.q (c42s (pHearP p m) (phear_ok hv.pv hv.ok (by omega))) ?_
  push_cast
theorem agree_comm (p q : Partner) : agreeF p q = agreeF q p := by
  unfold agreeF
  rw [show decide (q.id ≠ p.id) = decide (p.id ≠ q.id) from decide_eq_decide.2 ⟨fun h e => h e.symm, fun h e => h e.symm⟩]
  cases decide (p.id ≠ q.id) <;> cases fitsP p q <;> cases fitsP q p <;> rfl
theorem c13 (p q : Partner) : AFn Tryd.prog Γ0 13 [.agg (p.ds.map C.d), .agg (q.ds.map C.d)] [.d (.bool true)] := by
  refine AFn.vc [] Tryd.func13 rfl Tryd.mixed (by kernel_rfl) Tryd.ntmps13 Tryd.results13 (by simp) ?_
  push_cast
  refine CallL.q c38 ?_
  push_cast
  refine CallL.q (c39 p) ?_
  push_cast
  rintro ⟨h1, h2⟩
  have hv := val_of h1 h2
  have hl := hv.pv.len
  refine CallL.q (c39 q) ?_
  push_cast
  rintro ⟨h3, h4⟩
  have hw := val_of h3 h4
  have hk := hw.pv.len
  refine CallL.q (c45 p q hv.pv.role hw.pv.role (by omega) (by omega)) ?_
  push_cast
  refine CallL.q (c46 p q hv.pv.role hw.pv.role (by omega) (by omega)) ?_
  push_cast
  refine ⟨CallL.q (c45 q p hw.pv.role hv.pv.role (by omega) (by omega)) ?_, fun h => by simp at h⟩
  rw [agree_comm q p]
  push_cast
theorem c16 (p : Partner) (id : Int) : AFn Tryd.prog Γ0 16 [.agg (p.ds.map C.d), .c (.d (.int .i64 id))] [.d (.bool true)] := by
  refine AFn.vc [] Tryd.func16 rfl Tryd.mixed (by kernel_rfl) Tryd.ntmps16 Tryd.results16 (by simp) ?_
  push_cast
  refine CallL.q c38 ?_
  push_cast
  refine CallL.q (c56 p) ?_
  push_cast
  intro h
  obtain ⟨h1, h2⟩ := smallP_val h
  refine CallL.q (c57 id) ?_
  push_cast
  refine CallL.q (c58 id) ?_
  push_cast
  have hN : OkP (newP id) := by
    unfold newP
    cases inB id 1 4
    · exact okP0
    · exact ⟨Nat.zero_le _, fun s hs => (List.not_mem_nil hs).elim⟩
  refine CallX.q (c42s (newP id) hN) ?_
  push_cast
  refine CallX.q (c59 p (by omega) fun s hs => (h2 s hs).2) ?_
  push_cast
  refine CallX.q (c60 p (by omega) fun s hs => (h2 s hs).2) ?_
  push_cast
end Go.Proofs
