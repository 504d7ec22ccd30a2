/- Part of a proof about this program; no condition of its own. -/
import Derived.Test.YticdcapnomageaaDoorIWj
import Derived.Test.YticdcapnomageaaDoorIJc
set_option linter.all false
/- Walks of the chapters on loans between libraries, eleventh part: messages that come too early. No condition. -/
namespace Go.Proofs
open Go Go.Ax Go.Tx Go.Il
set_option maxRecDepth 100000
variable {Γ : List (Nat × List D)}
@[push_cast] theorem EqSt_self (a : St) : EqSt a a = True := eq_true rfl
def tab65 : List (List Bool × List Nat) := [([false, false, false, false, false, false, false, false, false], [0, 3, 4]), ([true, false, false, false, false, false, false, false, false], [1, 3, 4]), ([false, false, false, true, false, false, false, false, false], [0, 4]), ([false, false, false, false, true, false, false, false, false], [0, 3, 5]), ([true, true, false, false, false, false, false, false, false], [2, 3, 4]), ([true, false, false, true, false, false, false, false, false], [1, 4]), ([true, false, false, false, true, false, false, false, false], [1, 3, 5]), ([false, false, false, true, true, false, false, false, false], [0, 5]), ([false, false, false, false, true, true, false, false, false], [0, 3]), ([true, true, true, false, false, false, false, false, false], [3, 4]), ([true, true, false, true, false, false, false, false, false], [2, 4]), ([true, true, false, false, true, false, false, false, false], [2, 3, 5]), ([true, false, false, true, true, false, false, false, false], [1, 5]), ([true, false, false, false, true, true, false, false, false], [1, 3]), ([false, false, false, true, true, true, false, false, false], [0]), ([true, true, true, true, false, false, false, false, false], [4]), ([true, true, true, false, true, false, false, false, false], [3, 5]), ([true, true, false, true, true, false, false, false, false], [2, 5]), ([true, true, false, false, true, true, false, false, false], [2, 3]), ([true, false, false, true, true, true, false, false, false], [1]), ([true, true, true, true, true, false, false, false, false], [5]), ([true, true, true, false, true, true, false, false, false], [3]), ([true, true, false, true, true, true, false, false, false], [2]), ([true, true, true, true, true, true, false, false, false], [6]), ([true, true, true, true, true, true, true, false, false], [7]), ([true, true, true, true, true, true, true, true, false], [8]), ([true, true, true, true, true, true, true, true, true], [])]
def keepE (s : Side) (m : Msg) : Int := bif atN s.early m.seq then 0 else bif decide (8 ≤ s.early.length) then 13 else 0
def insL (l : List Msg) (m : Msg) : List Msg := l.take (lowN l m.seq) ++ [m] ++ l.drop (lowN l m.seq)
def keepS (s : Side) (m : Msg) : Side := bif atN s.early m.seq then s else bif decide (8 ≤ s.early.length) then side0 else { s with early := insL s.early m }
def Side.ds0 (_ : Side) : List C := [.d (.int .i64 0), .d (.int .i64 0), .d (.int .i64 0), .d (.int .i64 0), .d (.int .i64 0), .d (.int .i64 0), .d (.int .i64 0), .d (.raw (.slice none 0 0)), .d (.raw (.slice none 0 0))]
attribute [push_cast] Side.ds0
theorem c65 (s : Side) (m : Msg) (hl : s.early.length ≤ 1000000) (hs : AscS s.early) (hq : ∀ x ∈ s.early, inK .i64 (x.seq - m.seq)) :
    AFn Tryd.prog Γ 65 [.agg (s.ds.map C.d), .agg (m.ds.map C.d)] [.agg (keepS s m).ds, .d (.int .i64 (keepE s m))] := by
  refine AFn.vc [27, 1000006] Tryd.func65 rfl Tryd.mixed (by kernel_rfl) Tryd.ntmps65 Tryd.results65 (by simp) ?_
  push_cast
  refine CallL.q (c96 s.early m.seq hl hs hq) ?_ (.cons (ArgOk.bor rfl) (.cons ArgOk.d (.cons (ArgOk.clo (dss := []) (c97 (Γ := []) msg0 0 (by unfold inK; decide)).call rfl (fun a r h => by obtain ⟨x, q, h, rfl, rfl⟩ := h; exact c97 x q h)) .nil)))
  push_cast
  have hlow := lowN_le m.seq s.early
  refine ⟨fun h1 => ?_, fun h1 => ⟨fun h2 => ?_, fun h2 => ?_⟩⟩
  · have e1 : keepS s m = s := by simp [keepS, h1]
    have e2 : keepE s m = 0 := by simp [keepE, h1]
    rw [e1, e2]
    exact ⟨⟨rfl, rfl, rfl, rfl, rfl, rfl, rfl, rfl, rfl⟩, rfl⟩
  · have e1 : keepS s m = side0 := by simp [keepS, h1, show 8 ≤ s.early.length by omega]
    have e2 : keepE s m = 13 := by simp [keepE, h1, show 8 ≤ s.early.length by omega]
    rw [e1, e2]
    exact ⟨⟨rfl, rfl, rfl, rfl, rfl, rfl, rfl, rfl, rfl⟩, rfl⟩
  · have e1 : keepS s m = { s with early := insL s.early m } := by simp [keepS, h1, show ¬ 8 ≤ s.early.length by omega]
    have e2 : keepE s m = 0 := by simp [keepE, h1, show ¬ 8 ≤ s.early.length by omega]
    rw [e1, e2]
    have hins : (s.early.map Msg.ds).take (lowN s.early m.seq) ++ [m.ds] ++ (s.early.map Msg.ds).drop (lowN s.early m.seq) = (insL s.early m).map Msg.ds := by simp [insL]
    refine RegV.tab (E := [27, 1000006]) Tryd.mixed tab65 [some (25, .c (.loc 0 8)), some (26, .c (.d (.lst 8 (s.early.map Msg.ds)))), some (27, .c (.own 3 0)), some (28, .c (.d (.int .i64 (lowN s.early m.seq)))), some (29, .agg (m.ds.map C.d)), some (30, .c (.d (.lst 8 [m.ds]))), some (31, .c (.own 3 1)), some (32, .c (.loc 0 8)), none]
      [none, none, some [.box 26 (s.ds.map C.d), .box 28 (m.ds.map C.d), .box 26 (Side.ds0 side0), .row 28 8 (s.early.map Msg.ds) 0], none, none, none, some [.box 26 (s.ds.map C.d), .box 28 (m.ds.map C.d), .box 26 (Side.ds0 side0), .row 28 8 ((insL s.early m).map Msg.ds) 1], none, some [.box 26 ((s.ds.map C.d).set 8 (.own 3 1)), .box 28 (m.ds.map C.d), .box 26 (Side.ds0 side0), .row 28 8 ((insL s.early m).map Msg.ds) 1]] (by kernel_rfl) (by kernel_rfl) rfl ?_ ?_
    · push_cast [tab65]
      repeat' (first | refine And.intro ?_ ?_ | (refine CallL.own (c74 s.early hl) ?_; push_cast) | (refine CallL.insert (els := s.early.map Msg.ds) (m := m.ds) (p := lowN s.early m.seq) rfl (by simpa using hlow) (by rw [List.length_map]; omega) ?_; rw [hins]; push_cast))
    · push_cast
end Go.Proofs
