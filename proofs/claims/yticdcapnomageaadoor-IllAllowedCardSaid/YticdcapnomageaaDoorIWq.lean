/- Part of a proof about this program; no condition of its own. -/
import Derived.Test.YticdcapnomageaaDoorIWp
set_option linter.all false
/- Walks of the chapters on loans between libraries, seventeenth part: IllAllowed. No condition. -/
namespace Go.Proofs
open Go Go.Ax Go.Tx Go.Il
set_option maxRecDepth 100000
theorem c3 (role state kind : Int) : AFn Tryd.prog Γ0 3 [.c (.d (.int .i64 role)), .c (.d (.int .i64 state)), .c (.d (.int .i64 kind))] [.d (.bool true)] := by
  refine AFn.vc [] Tryd.func3 rfl Tryd.mixed (by kernel_rfl) Tryd.ntmps3 Tryd.results3 (by simp) ?_
  push_cast
  refine CallL.q c19 ?_
  push_cast
  refine CallL.q (c20 role state kind) ?_
  push_cast
  refine CallL.q (c21 role state kind) ?_
  push_cast
end Go.Proofs
