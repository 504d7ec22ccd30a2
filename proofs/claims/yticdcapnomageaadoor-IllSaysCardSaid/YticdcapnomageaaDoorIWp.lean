/- Part of a proof about this program; no condition of its own. -/
import Derived.Test.YticdcapnomageaaDoorIWo
set_option linter.all false
/- Walks of the chapters on loans between libraries, sixteenth part: the examples. No condition. -/
namespace Go.Proofs
open Go Go.Ax Go.Tx Go.Il
set_option maxRecDepth 100000
def aAsk : Msg := ⟨1, 2, 3, 1, 1, 7, 5, []⟩
def aYes : Msg := ⟨2, 1, 3, 1, 2, 7, 6, []⟩
def aShip : Msg := ⟨2, 1, 3, 2, 4, 7, 20, []⟩
def aCan : Msg := ⟨1, 2, 3, 2, 11, 7, 6, []⟩
def aA : Side := ⟨3, 2, 1, 1, 7, 0, 0, [aAsk], []⟩
def aB : Side := ⟨3, 1, 2, 0, 0, 0, 0, [], []⟩
def aC : Side := ⟨3, 1, 2, 1, 7, 0, 1, [], []⟩
def aD : Side := ⟨3, 1, 2, 2, 7, 0, 1, [aYes], []⟩
def aE : Side := ⟨3, 1, 2, 3, 7, 20, 1, [aYes, aShip], []⟩
def aK : Side := ⟨3, 2, 1, 1, 7, 0, 0, [aAsk], [aShip]⟩
def aL : Side := ⟨3, 2, 1, 3, 7, 20, 2, [aAsk], []⟩
def aN : Side := ⟨3, 2, 1, 9, 7, 0, 0, [aAsk, aCan], []⟩
def aP : Side := ⟨3, 2, 1, 9, 7, 0, 1, [aAsk, aCan], []⟩
def aR : Side := ⟨3, 2, 1, 3, 7, 20, 2, [aAsk, aCan], []⟩
theorem c30' : AFn Tryd.prog Γ0 30 [.c (.d (.int .i64 1)), .c (.d (.int .i64 3)), .c (.d (.int .i64 2)), .c (.d (.int .i64 7)), .c (.d (.int .i64 5))] [.agg aA.ds, .agg aAsk.ds, .d (.int .i64 0)] :=
  (by kernel_rfl : askR 1 3 2 7 5 = aA) ▸ (by kernel_rfl : askN 1 3 2 7 5 = aAsk) ▸ (by kernel_rfl : askE 1 3 2 7 5 = 0) ▸ c30 1 3 2 7 5
theorem c36' : AFn Tryd.prog Γ0 36 [.c (.d (.int .i64 2)), .agg (aAsk.ds.map C.d)] [.agg aB.ds, .d (.int .i64 0)] :=
  (by kernel_rfl : openR 2 aAsk = aB) ▸ (by kernel_rfl : openE 2 aAsk = 0) ▸ c36 2 aAsk (by decide)
theorem c23' (id : Int) (s : Side) (m : Msg) (r : Side) (hs : sideF s = 0) (hm : m.note = []) (h1 : hearS id s m = r) (h2 : hearE id s m = 0) : AFn Tryd.prog Γ0 23 [.c (.d (.int .i64 id)), .agg (s.ds.map C.d), .agg (m.ds.map C.d)] [.agg r.ds, .d (.int .i64 0)] :=
  h1 ▸ h2 ▸ c23 id s m (hearK_of hs) (by rw [hm]; decide)
theorem c32' (id : Int) (s : Side) (kind day : Int) (r : Side) (m : Msg) (hl : s.sent.length ≤ 1000) (h1 : sayR id s kind day [] = r) (h2 : sayN id s kind day [] = m) (h3 : sayE id s kind day [] = 0) : AFn Tryd.prog Γ0 32 [.c (.d (.int .i64 id)), .agg (s.ds.map C.d), .c (.d (.int .i64 kind)), .c (.d (.int .i64 day)), .c (.d (.str []))] [.agg r.ds, .agg m.ds, .d (.int .i64 0)] :=
  h1 ▸ h2 ▸ h3 ▸ c32 id s kind day [] hl (by decide)
attribute [push_cast] aA aB aC aD aE aK aL aN aP aR aAsk aYes aShip aCan
theorem c28' (s : Side) (b : Bool) (h : overF s = b) : AFn Tryd.prog Γ0 28 [.agg (s.ds.map C.d)] [.d (.bool b)] := h ▸ c28 s
theorem c20' (r s k : Int) (b : Bool) (h : allowF r s k = b) : AFn Tryd.prog Γ0 20 [.c (.d (.int .i64 r)), .c (.d (.int .i64 s)), .c (.d (.int .i64 k))] [.d (.bool b)] := h ▸ c20 r s k
theorem c19 : AFn Tryd.prog Γ0 19 [] [.d (.bool true)] := by
  refine AFn.vc [] Tryd.func19 rfl Tryd.mixed (by kernel_rfl) Tryd.ntmps19 Tryd.results19 (by simp) ?_
  push_cast
  refine CallL.q c30' ?_
  push_cast
  refine CallL.q c36' ?_
  push_cast
  refine CallL.q (c23' 2 aB aAsk aC (by kernel_rfl) rfl (by kernel_rfl) (by kernel_rfl)) ?_
  push_cast
  refine CallL.q (c32' 2 aC 2 6 aD aYes (by decide) (by kernel_rfl) (by kernel_rfl) (by kernel_rfl)) ?_
  push_cast
  refine CallL.q (c32' 2 aD 4 20 aE aShip (by decide) (by kernel_rfl) (by kernel_rfl) (by kernel_rfl)) ?_
  push_cast
  refine CallL.q (c23' 1 aA aShip aK (by kernel_rfl) rfl (by kernel_rfl) (by kernel_rfl)) ?_
  push_cast
  refine CallL.q (c23' 1 aK aYes aL (by kernel_rfl) rfl (by kernel_rfl) (by kernel_rfl)) ?_
  push_cast
  refine CallL.q (c32' 1 aA 11 6 aN aCan (by decide) (by kernel_rfl) (by kernel_rfl) (by kernel_rfl)) ?_
  push_cast
  refine CallL.q (c23' 1 aN aYes aP (by kernel_rfl) rfl (by kernel_rfl) (by kernel_rfl)) ?_
  push_cast
  refine CallL.q (c23' 1 aP aShip aR (by kernel_rfl) rfl (by kernel_rfl) (by kernel_rfl)) ?_
  push_cast
  refine CallL.q (c28' aP true (by kernel_rfl)) ?_
  push_cast
  refine CallL.q (c20' 2 2 4 true (by kernel_rfl)) ?_
  push_cast
  refine CallL.q (c20' 1 4 8 false (by kernel_rfl)) ?_
  push_cast
end Go.Proofs
