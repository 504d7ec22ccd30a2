/- Part of a proof about this program; no condition of its own. -/
import Derived.Test.YticdcapnomageaaDoorGyC
import Derived.Test.YticdcapnomageaaDoorGyD
set_option linter.all false
/- Walks of the chapters on loans between libraries, eighteenth part: the references. No condition. -/
namespace Go.Proofs
open Go Go.Ax Go.Tx Go.Il
set_option maxRecDepth 100000
variable {Γ : List (Nat × List D)}
def tab31 : List (List Bool × List Nat) := [([false, false, false, false, false, false, false, false, false, false], [0, 1, 2, 3, 6]), ([true, false, false, false, false, false, false, false, false, false], [1, 2, 3, 6]), ([false, true, false, false, false, false, false, false, false, false], [0, 2, 3, 6]), ([false, false, true, false, false, false, false, false, false, false], [0, 1, 3, 6]), ([false, false, false, true, false, false, false, false, false, false], [0, 1, 2, 4, 6]), ([false, false, false, false, false, false, true, false, false, false], [0, 1, 2, 3]), ([true, true, false, false, false, false, false, false, false, false], [2, 3, 6]), ([true, false, true, false, false, false, false, false, false, false], [1, 3, 6]), ([true, false, false, true, false, false, false, false, false, false], [1, 2, 4, 6]), ([true, false, false, false, false, false, true, false, false, false], [1, 2, 3]), ([false, true, true, false, false, false, false, false, false, false], [0, 3, 6]), ([false, true, false, true, false, false, false, false, false, false], [0, 2, 4, 6]), ([false, true, false, false, false, false, true, false, false, false], [0, 2, 3]), ([false, false, true, true, false, false, false, false, false, false], [0, 1, 4, 6]), ([false, false, true, false, false, false, true, false, false, false], [0, 1, 3]), ([false, false, false, true, true, false, false, false, false, false], [0, 1, 2, 6]), ([false, false, false, true, false, false, true, false, false, false], [0, 1, 2, 4]), ([true, true, true, false, false, false, false, false, false, false], [3, 6]), ([true, true, false, true, false, false, false, false, false, false], [2, 4, 6]), ([true, true, false, false, false, false, true, false, false, false], [2, 3]), ([true, false, true, true, false, false, false, false, false, false], [1, 4, 6]), ([true, false, true, false, false, false, true, false, false, false], [1, 3]), ([true, false, false, true, true, false, false, false, false, false], [1, 2, 6]), ([true, false, false, true, false, false, true, false, false, false], [1, 2, 4]), ([false, true, true, true, false, false, false, false, false, false], [0, 4, 6]), ([false, true, true, false, false, false, true, false, false, false], [0, 3]), ([false, true, false, true, true, false, false, false, false, false], [0, 2, 6]), ([false, true, false, true, false, false, true, false, false, false], [0, 2, 4]), ([false, false, true, true, true, false, false, false, false, false], [0, 1, 6]), ([false, false, true, true, false, false, true, false, false, false], [0, 1, 4]), ([false, false, false, true, true, false, true, false, false, false], [0, 1, 2]), ([true, true, true, true, false, false, false, false, false, false], [4, 6]), ([true, true, true, false, false, false, true, false, false, false], [3]), ([true, true, false, true, true, false, false, false, false, false], [2, 6]), ([true, true, false, true, false, false, true, false, false, false], [2, 4]), ([true, false, true, true, true, false, false, false, false, false], [1, 6]), ([true, false, true, true, false, false, true, false, false, false], [1, 4]), ([true, false, false, true, true, false, true, false, false, false], [1, 2]), ([false, true, true, true, true, false, false, false, false, false], [0, 6]), ([false, true, true, true, false, false, true, false, false, false], [0, 4]), ([false, true, false, true, true, false, true, false, false, false], [0, 2]), ([false, false, true, true, true, false, true, false, false, false], [0, 1]), ([true, true, true, true, true, false, false, false, false, false], [5, 6]), ([true, true, true, true, false, false, true, false, false, false], [4]), ([true, true, false, true, true, false, true, false, false, false], [2]), ([true, false, true, true, true, false, true, false, false, false], [1]), ([false, true, true, true, true, false, true, false, false, false], [0]), ([true, true, true, true, true, true, false, false, false, false], [6, 7]), ([true, true, true, true, true, false, true, false, false, false], [5]), ([true, true, true, true, true, true, true, false, false, false], [7]), ([true, true, true, true, true, true, false, true, false, false], [6]), ([true, true, true, true, true, true, true, true, false, false], [8]), ([true, true, true, true, true, true, true, true, true, false], [9]), ([true, true, true, true, true, true, true, true, true, true], [])]
def tab33a : List (List Bool × List Nat) := [([false, false, false, false, false, false, false, false, false], [0, 1, 4]), ([true, false, false, false, false, false, false, false, false], [1, 4]), ([false, true, false, false, false, false, false, false, false], [0, 2, 4]), ([false, false, false, false, true, false, false, false, false], [0, 1, 5]), ([true, true, false, false, false, false, false, false, false], [2, 4]), ([true, false, false, false, true, false, false, false, false], [1, 5]), ([false, true, true, false, false, false, false, false, false], [0, 4]), ([false, true, false, false, true, false, false, false, false], [0, 2, 5]), ([false, false, false, false, true, true, false, false, false], [0, 1]), ([true, true, true, false, false, false, false, false, false], [3, 4]), ([true, true, false, false, true, false, false, false, false], [2, 5]), ([true, false, false, false, true, true, false, false, false], [1]), ([false, true, true, false, true, false, false, false, false], [0, 5]), ([false, true, false, false, true, true, false, false, false], [0, 2]), ([true, true, true, true, false, false, false, false, false], [4]), ([true, true, true, false, true, false, false, false, false], [3, 5]), ([true, true, false, false, true, true, false, false, false], [2]), ([false, true, true, false, true, true, false, false, false], [0]), ([true, true, true, true, true, false, false, false, false], [5]), ([true, true, true, false, true, true, false, false, false], [3]), ([true, true, true, true, true, true, false, false, false], [6]), ([true, true, true, true, true, true, true, false, false], [7]), ([true, true, true, true, true, true, true, true, false], [8]), ([true, true, true, true, true, true, true, true, true], [])]
def tab33b : List (List Bool × List Nat) := [([false, false, false, false, false], [0, 1]), ([true, false, false, false, false], [1, 2]), ([false, true, false, false, false], [0]), ([true, true, false, false, false], [2]), ([true, false, true, false, false], [1]), ([true, true, true, false, false], [3]), ([true, true, true, true, false], [4]), ([true, true, true, true, true], [])]
def tab34 : List (List Bool × List Nat) := [([false, false, false, false, false, false, false, false, false, false, false, false, false, false], [0, 1, 2, 5, 8, 9]), ([true, false, false, false, false, false, false, false, false, false, false, false, false, false], [1, 2, 5, 8, 9]), ([false, true, false, false, false, false, false, false, false, false, false, false, false, false], [0, 2, 5, 8, 9]), ([false, false, true, false, false, false, false, false, false, false, false, false, false, false], [0, 1, 5, 8, 9]), ([false, false, false, false, false, true, false, false, false, false, false, false, false, false], [0, 1, 2, 6, 8, 9]), ([false, false, false, false, false, false, false, false, true, false, false, false, false, false], [0, 1, 2, 5, 9]), ([false, false, false, false, false, false, false, false, false, true, false, false, false, false], [0, 1, 2, 5, 8]), ([true, true, false, false, false, false, false, false, false, false, false, false, false, false], [2, 5, 8, 9]), ([true, false, true, false, false, false, false, false, false, false, false, false, false, false], [1, 5, 8, 9]), ([true, false, false, false, false, true, false, false, false, false, false, false, false, false], [1, 2, 6, 8, 9]), ([true, false, false, false, false, false, false, false, true, false, false, false, false, false], [1, 2, 5, 9]), ([true, false, false, false, false, false, false, false, false, true, false, false, false, false], [1, 2, 5, 8]), ([false, true, true, false, false, false, false, false, false, false, false, false, false, false], [0, 3, 5, 8, 9]), ([false, true, false, false, false, true, false, false, false, false, false, false, false, false], [0, 2, 6, 8, 9]), ([false, true, false, false, false, false, false, false, true, false, false, false, false, false], [0, 2, 5, 9]), ([false, true, false, false, false, false, false, false, false, true, false, false, false, false], [0, 2, 5, 8]), ([false, false, true, false, false, true, false, false, false, false, false, false, false, false], [0, 1, 6, 8, 9]), ([false, false, true, false, false, false, false, false, true, false, false, false, false, false], [0, 1, 5, 9]), ([false, false, true, false, false, false, false, false, false, true, false, false, false, false], [0, 1, 5, 8]), ([false, false, false, false, false, true, true, false, false, false, false, false, false, false], [0, 1, 2, 8, 9]), ([false, false, false, false, false, true, false, false, true, false, false, false, false, false], [0, 1, 2, 6, 9]), ([false, false, false, false, false, true, false, false, false, true, false, false, false, false], [0, 1, 2, 6, 8]), ([false, false, false, false, false, false, false, false, true, true, false, false, false, false], [0, 1, 2, 5, 10]), ([true, true, true, false, false, false, false, false, false, false, false, false, false, false], [3, 5, 8, 9]), ([true, true, false, false, false, true, false, false, false, false, false, false, false, false], [2, 6, 8, 9]), ([true, true, false, false, false, false, false, false, true, false, false, false, false, false], [2, 5, 9]), ([true, true, false, false, false, false, false, false, false, true, false, false, false, false], [2, 5, 8]), ([true, false, true, false, false, true, false, false, false, false, false, false, false, false], [1, 6, 8, 9]), ([true, false, true, false, false, false, false, false, true, false, false, false, false, false], [1, 5, 9]), ([true, false, true, false, false, false, false, false, false, true, false, false, false, false], [1, 5, 8]), ([true, false, false, false, false, true, true, false, false, false, false, false, false, false], [1, 2, 8, 9]), ([true, false, false, false, false, true, false, false, true, false, false, false, false, false], [1, 2, 6, 9]), ([true, false, false, false, false, true, false, false, false, true, false, false, false, false], [1, 2, 6, 8]), ([true, false, false, false, false, false, false, false, true, true, false, false, false, false], [1, 2, 5, 10]), ([false, true, true, true, false, false, false, false, false, false, false, false, false, false], [0, 5, 8, 9]), ([false, true, true, false, false, true, false, false, false, false, false, false, false, false], [0, 3, 6, 8, 9]), ([false, true, true, false, false, false, false, false, true, false, false, false, false, false], [0, 3, 5, 9]), ([false, true, true, false, false, false, false, false, false, true, false, false, false, false], [0, 3, 5, 8]), ([false, true, false, false, false, true, true, false, false, false, false, false, false, false], [0, 2, 8, 9]), ([false, true, false, false, false, true, false, false, true, false, false, false, false, false], [0, 2, 6, 9]), ([false, true, false, false, false, true, false, false, false, true, false, false, false, false], [0, 2, 6, 8]), ([false, true, false, false, false, false, false, false, true, true, false, false, false, false], [0, 2, 5, 10]), ([false, false, true, false, false, true, true, false, false, false, false, false, false, false], [0, 1, 8, 9]), ([false, false, true, false, false, true, false, false, true, false, false, false, false, false], [0, 1, 6, 9]), ([false, false, true, false, false, true, false, false, false, true, false, false, false, false], [0, 1, 6, 8]), ([false, false, true, false, false, false, false, false, true, true, false, false, false, false], [0, 1, 5, 10]), ([false, false, false, false, false, true, true, false, true, false, false, false, false, false], [0, 1, 2, 9]), ([false, false, false, false, false, true, true, false, false, true, false, false, false, false], [0, 1, 2, 8]), ([false, false, false, false, false, true, false, false, true, true, false, false, false, false], [0, 1, 2, 6, 10]), ([false, false, false, false, false, false, false, false, true, true, true, false, false, false], [0, 1, 2, 5]), ([true, true, true, true, false, false, false, false, false, false, false, false, false, false], [4, 5, 8, 9]), ([true, true, true, false, false, true, false, false, false, false, false, false, false, false], [3, 6, 8, 9]), ([true, true, true, false, false, false, false, false, true, false, false, false, false, false], [3, 5, 9]), ([true, true, true, false, false, false, false, false, false, true, false, false, false, false], [3, 5, 8]), ([true, true, false, false, false, true, true, false, false, false, false, false, false, false], [2, 8, 9]), ([true, true, false, false, false, true, false, false, true, false, false, false, false, false], [2, 6, 9]), ([true, true, false, false, false, true, false, false, false, true, false, false, false, false], [2, 6, 8]), ([true, true, false, false, false, false, false, false, true, true, false, false, false, false], [2, 5, 10]), ([true, false, true, false, false, true, true, false, false, false, false, false, false, false], [1, 8, 9]), ([true, false, true, false, false, true, false, false, true, false, false, false, false, false], [1, 6, 9]), ([true, false, true, false, false, true, false, false, false, true, false, false, false, false], [1, 6, 8]), ([true, false, true, false, false, false, false, false, true, true, false, false, false, false], [1, 5, 10]), ([true, false, false, false, false, true, true, false, true, false, false, false, false, false], [1, 2, 9]), ([true, false, false, false, false, true, true, false, false, true, false, false, false, false], [1, 2, 8]), ([true, false, false, false, false, true, false, false, true, true, false, false, false, false], [1, 2, 6, 10]), ([true, false, false, false, false, false, false, false, true, true, true, false, false, false], [1, 2, 5]), ([false, true, true, true, false, true, false, false, false, false, false, false, false, false], [0, 6, 8, 9]), ([false, true, true, true, false, false, false, false, true, false, false, false, false, false], [0, 5, 9]), ([false, true, true, true, false, false, false, false, false, true, false, false, false, false], [0, 5, 8]), ([false, true, true, false, false, true, true, false, false, false, false, false, false, false], [0, 3, 8, 9]), ([false, true, true, false, false, true, false, false, true, false, false, false, false, false], [0, 3, 6, 9]), ([false, true, true, false, false, true, false, false, false, true, false, false, false, false], [0, 3, 6, 8]), ([false, true, true, false, false, false, false, false, true, true, false, false, false, false], [0, 3, 5, 10]), ([false, true, false, false, false, true, true, false, true, false, false, false, false, false], [0, 2, 9]), ([false, true, false, false, false, true, true, false, false, true, false, false, false, false], [0, 2, 8]), ([false, true, false, false, false, true, false, false, true, true, false, false, false, false], [0, 2, 6, 10]), ([false, true, false, false, false, false, false, false, true, true, true, false, false, false], [0, 2, 5]), ([false, false, true, false, false, true, true, false, true, false, false, false, false, false], [0, 1, 9]), ([false, false, true, false, false, true, true, false, false, true, false, false, false, false], [0, 1, 8]), ([false, false, true, false, false, true, false, false, true, true, false, false, false, false], [0, 1, 6, 10]), ([false, false, true, false, false, false, false, false, true, true, true, false, false, false], [0, 1, 5]), ([false, false, false, false, false, true, true, false, true, true, false, false, false, false], [0, 1, 2, 10]), ([false, false, false, false, false, true, false, false, true, true, true, false, false, false], [0, 1, 2, 6]), ([true, true, true, true, true, false, false, false, false, false, false, false, false, false], [5, 8, 9]), ([true, true, true, true, false, true, false, false, false, false, false, false, false, false], [4, 6, 8, 9]), ([true, true, true, true, false, false, false, false, true, false, false, false, false, false], [4, 5, 9]), ([true, true, true, true, false, false, false, false, false, true, false, false, false, false], [4, 5, 8]), ([true, true, true, false, false, true, true, false, false, false, false, false, false, false], [3, 8, 9]), ([true, true, true, false, false, true, false, false, true, false, false, false, false, false], [3, 6, 9]), ([true, true, true, false, false, true, false, false, false, true, false, false, false, false], [3, 6, 8]), ([true, true, true, false, false, false, false, false, true, true, false, false, false, false], [3, 5, 10]), ([true, true, false, false, false, true, true, false, true, false, false, false, false, false], [2, 9]), ([true, true, false, false, false, true, true, false, false, true, false, false, false, false], [2, 8]), ([true, true, false, false, false, true, false, false, true, true, false, false, false, false], [2, 6, 10]), ([true, true, false, false, false, false, false, false, true, true, true, false, false, false], [2, 5]), ([true, false, true, false, false, true, true, false, true, false, false, false, false, false], [1, 9]), ([true, false, true, false, false, true, true, false, false, true, false, false, false, false], [1, 8]), ([true, false, true, false, false, true, false, false, true, true, false, false, false, false], [1, 6, 10]), ([true, false, true, false, false, false, false, false, true, true, true, false, false, false], [1, 5]), ([true, false, false, false, false, true, true, false, true, true, false, false, false, false], [1, 2, 10]), ([true, false, false, false, false, true, false, false, true, true, true, false, false, false], [1, 2, 6]), ([false, true, true, true, false, true, true, false, false, false, false, false, false, false], [0, 8, 9]), ([false, true, true, true, false, true, false, false, true, false, false, false, false, false], [0, 6, 9]), ([false, true, true, true, false, true, false, false, false, true, false, false, false, false], [0, 6, 8]), ([false, true, true, true, false, false, false, false, true, true, false, false, false, false], [0, 5, 10]), ([false, true, true, false, false, true, true, false, true, false, false, false, false, false], [0, 3, 9]), ([false, true, true, false, false, true, true, false, false, true, false, false, false, false], [0, 3, 8]), ([false, true, true, false, false, true, false, false, true, true, false, false, false, false], [0, 3, 6, 10]), ([false, true, true, false, false, false, false, false, true, true, true, false, false, false], [0, 3, 5]), ([false, true, false, false, false, true, true, false, true, true, false, false, false, false], [0, 2, 10]), ([false, true, false, false, false, true, false, false, true, true, true, false, false, false], [0, 2, 6]), ([false, false, true, false, false, true, true, false, true, true, false, false, false, false], [0, 1, 10]), ([false, false, true, false, false, true, false, false, true, true, true, false, false, false], [0, 1, 6]), ([false, false, false, false, false, true, true, false, true, true, true, false, false, false], [0, 1, 2]), ([true, true, true, true, true, true, false, false, false, false, false, false, false, false], [6, 8, 9]), ([true, true, true, true, true, false, false, false, true, false, false, false, false, false], [5, 9]), ([true, true, true, true, true, false, false, false, false, true, false, false, false, false], [5, 8]), ([true, true, true, true, false, true, true, false, false, false, false, false, false, false], [4, 8, 9]), ([true, true, true, true, false, true, false, false, true, false, false, false, false, false], [4, 6, 9]), ([true, true, true, true, false, true, false, false, false, true, false, false, false, false], [4, 6, 8]), ([true, true, true, true, false, false, false, false, true, true, false, false, false, false], [4, 5, 10]), ([true, true, true, false, false, true, true, false, true, false, false, false, false, false], [3, 9]), ([true, true, true, false, false, true, true, false, false, true, false, false, false, false], [3, 8]), ([true, true, true, false, false, true, false, false, true, true, false, false, false, false], [3, 6, 10]), ([true, true, true, false, false, false, false, false, true, true, true, false, false, false], [3, 5]), ([true, true, false, false, false, true, true, false, true, true, false, false, false, false], [2, 10]), ([true, true, false, false, false, true, false, false, true, true, true, false, false, false], [2, 6]), ([true, false, true, false, false, true, true, false, true, true, false, false, false, false], [1, 10]), ([true, false, true, false, false, true, false, false, true, true, true, false, false, false], [1, 6]), ([true, false, false, false, false, true, true, false, true, true, true, false, false, false], [1, 2]), ([false, true, true, true, false, true, true, false, true, false, false, false, false, false], [0, 9]), ([false, true, true, true, false, true, true, false, false, true, false, false, false, false], [0, 8]), ([false, true, true, true, false, true, false, false, true, true, false, false, false, false], [0, 6, 10]), ([false, true, true, true, false, false, false, false, true, true, true, false, false, false], [0, 5]), ([false, true, true, false, false, true, true, false, true, true, false, false, false, false], [0, 3, 10]), ([false, true, true, false, false, true, false, false, true, true, true, false, false, false], [0, 3, 6]), ([false, true, false, false, false, true, true, false, true, true, true, false, false, false], [0, 2]), ([false, false, true, false, false, true, true, false, true, true, true, false, false, false], [0, 1]), ([true, true, true, true, true, true, true, false, false, false, false, false, false, false], [7, 8, 9]), ([true, true, true, true, true, true, false, false, true, false, false, false, false, false], [6, 9]), ([true, true, true, true, true, true, false, false, false, true, false, false, false, false], [6, 8]), ([true, true, true, true, true, false, false, false, true, true, false, false, false, false], [5, 10]), ([true, true, true, true, false, true, true, false, true, false, false, false, false, false], [4, 9]), ([true, true, true, true, false, true, true, false, false, true, false, false, false, false], [4, 8]), ([true, true, true, true, false, true, false, false, true, true, false, false, false, false], [4, 6, 10]), ([true, true, true, true, false, false, false, false, true, true, true, false, false, false], [4, 5]), ([true, true, true, false, false, true, true, false, true, true, false, false, false, false], [3, 10]), ([true, true, true, false, false, true, false, false, true, true, true, false, false, false], [3, 6]), ([true, true, false, false, false, true, true, false, true, true, true, false, false, false], [2]), ([true, false, true, false, false, true, true, false, true, true, true, false, false, false], [1]), ([false, true, true, true, false, true, true, false, true, true, false, false, false, false], [0, 10]), ([false, true, true, true, false, true, false, false, true, true, true, false, false, false], [0, 6]), ([false, true, true, false, false, true, true, false, true, true, true, false, false, false], [0, 3]), ([true, true, true, true, true, true, true, true, false, false, false, false, false, false], [8, 9]), ([true, true, true, true, true, true, true, false, true, false, false, false, false, false], [7, 9]), ([true, true, true, true, true, true, true, false, false, true, false, false, false, false], [7, 8]), ([true, true, true, true, true, true, false, false, true, true, false, false, false, false], [6, 10]), ([true, true, true, true, true, false, false, false, true, true, true, false, false, false], [5]), ([true, true, true, true, false, true, true, false, true, true, false, false, false, false], [4, 10]), ([true, true, true, true, false, true, false, false, true, true, true, false, false, false], [4, 6]), ([true, true, true, false, false, true, true, false, true, true, true, false, false, false], [3]), ([false, true, true, true, false, true, true, false, true, true, true, false, false, false], [0]), ([true, true, true, true, true, true, true, true, true, false, false, false, false, false], [9]), ([true, true, true, true, true, true, true, true, false, true, false, false, false, false], [8]), ([true, true, true, true, true, true, true, false, true, true, false, false, false, false], [7, 10]), ([true, true, true, true, true, true, false, false, true, true, true, false, false, false], [6]), ([true, true, true, true, false, true, true, false, true, true, true, false, false, false], [4]), ([true, true, true, true, true, true, true, true, true, true, false, false, false, false], [10]), ([true, true, true, true, true, true, true, false, true, true, true, false, false, false], [7]), ([true, true, true, true, true, true, true, true, true, true, true, false, false, false], [11]), ([true, true, true, true, true, true, true, true, true, true, true, true, false, false], [12]), ([true, true, true, true, true, true, true, true, true, true, true, true, true, false], [13]), ([true, true, true, true, true, true, true, true, true, true, true, true, true, true], [])]
theorem smallN {s : Side} (h : smallF s = true) : SmN s := by
  unfold smallF at h
  simp only [Bool.and_eq_true, decide_eq_true_eq, List.all_eq_true] at h
  obtain ⟨⟨⟨h1, h2⟩, h3⟩, h4⟩ := h
  exact ⟨by omega, by omega, fun m hm => by have := h3 m hm; omega, fun m hm => by have := h4 m hm; omega⟩
theorem c22 (s : Side) : AFn Tryd.prog Γ 22 [.agg (s.ds.map C.d)] [.d (.bool (smallF s && decide (sideF s = 0)))] := by
  refine AFn.vc [] Tryd.func22 rfl Tryd.mixed (by kernel_rfl) Tryd.ntmps22 Tryd.results22 (by simp) ?_
  push_cast
  refine CallL.q (c25 s) ?_
  push_cast
  refine ⟨fun h => ?_, fun h => by rw [h]; rfl⟩
  refine CallL.q (c27 s (smallN h)) ?_
  push_cast
  rw [h]; rfl
theorem c24 (a b : Side) (h1 : a.sent.length ≤ 1000000) (h2 : a.early.length ≤ 1000000) (h3 : b.sent.length ≤ 1000000) (h4 : b.early.length ≤ 1000000) : AFn Tryd.prog Γ 24 [.agg (a.ds.map C.d), .agg (b.ds.map C.d)] [.d (.bool (decide (a = b)))] := by
  refine AFn.vc [] Tryd.func24 rfl Tryd.mixed (by kernel_rfl) Tryd.ntmps24 Tryd.results24 (by simp) ?_
  push_cast
  have hF : ∀ {p : Prop}, ¬ p → (a = b → p) → false = decide (a = b) := fun hp hq => by rw [decide_eq_false fun e => hp (hq e)]
  refine ⟨fun a1 => ⟨fun a2 => ⟨fun a3 => ⟨fun a4 => ⟨fun a5 => ⟨fun a6 => ⟨fun a7 => ?_, fun h => hF h fun e => by rw [e]⟩, fun h => hF h fun e => by rw [e]⟩, fun h => hF h fun e => by rw [e]⟩, fun h => hF h fun e => by rw [e]⟩, fun h => hF h fun e => by rw [e]⟩, fun h => hF h fun e => by rw [e]⟩, fun h => hF h fun e => by rw [e]⟩
  refine CallL.q (c35 a.sent b.sent h1 h3) ?_
  push_cast
  refine ⟨fun a8 => ?_, fun a8 => hF a8 fun e => by rw [e]⟩
  refine CallL.q (c35 a.early b.early h2 h4) ?_
  push_cast
  by_cases a9 : a.early = b.early
  · have : a = b := by cases a; cases b; simp_all
    simp [a9, this]
  · rw [decide_eq_false a9]; exact hF a9 fun e => by rw [e]
theorem c37 (id : Int) (m : Msg) (hm : m.note.length ≤ 100000) : AFn Tryd.prog Γ 37 [.c (.d (.int .i64 id)), .agg (m.ds.map C.d)] [.agg (openR id m).ds, .d (.int .i64 (openE id m))] := by
  refine AFn.vc [] Tryd.func37 rfl Tryd.mixed (by kernel_rfl) Tryd.ntmps37 Tryd.results37 (by simp) ?_
  push_cast
  refine CallL.q (c61 m hm) ?_
  push_cast
  have hF : (msgF m ≠ 0 ∨ m.dst ≠ id ∨ (ofF m.kind).role ≠ 1) → openE id m = 1 ∧ openR id m = side0 := fun c => by
    have : openE id m = 1 := by unfold openE; rw [decide_eq_true c]; rfl
    exact ⟨this, by unfold openR; rw [this]; rfl⟩
  have hT : ¬ (msgF m ≠ 0 ∨ m.dst ≠ id ∨ (ofF m.kind).role ≠ 1) → openE id m = 0 ∧ openR id m = openS m := fun c => by
    have : openE id m = 0 := by unfold openE; rw [decide_eq_false c]; rfl
    exact ⟨this, by unfold openR; rw [this]; rfl⟩
  refine ⟨fun a1 => ⟨fun a2 => ?_, fun a2 => ?_⟩, fun a1 => ?_⟩
  · refine CallL.q (c70_1 m.kind) ?_
    push_cast
    refine ⟨fun a3 => ?_, fun a3 => ?_⟩
    · rw [(hF (.inr (.inr a3))).1, (hF (.inr (.inr a3))).2]
      exact ⟨⟨rfl, rfl, rfl, rfl, rfl, rfl, rfl, rfl, rfl⟩, rfl⟩
    · have c : ¬ (msgF m ≠ 0 ∨ m.dst ≠ id ∨ (ofF m.kind).role ≠ 1) := by simp [a1, a2, a3]
      rw [(hT c).1, (hT c).2]
      exact ⟨⟨rfl, rfl, rfl, rfl, rfl, rfl, rfl, rfl, rfl⟩, rfl⟩
  · rw [(hF (.inr (.inl a2))).1, (hF (.inr (.inl a2))).2]
    exact ⟨⟨rfl, rfl, rfl, rfl, rfl, rfl, rfl, rfl, rfl⟩, rfl⟩
  · rw [(hF (.inl a1)).1, (hF (.inl a1)).2]
    exact ⟨⟨rfl, rfl, rfl, rfl, rfl, rfl, rfl, rfl, rfl⟩, rfl⟩
set_option maxHeartbeats 4000000 in
theorem c102 (state kind : Int) (h1 : 1 ≤ kind) (h2 : kind ≤ 11) : AFn Tryd.prog Γ 102 [.c (.d (.int .i64 state)), .c (.d (.int .i64 kind))] [.d (.bool (decide (kind = 8) || hasF (ofF kind).taken state))] := by
  have hk : kind = 1 ∨ kind = 2 ∨ kind = 3 ∨ kind = 4 ∨ kind = 5 ∨ kind = 6 ∨ kind = 7 ∨ kind = 8 ∨ kind = 9 ∨ kind = 10 ∨ kind = 11 := by omega
  rcases hk with rfl | rfl | rfl | rfl | rfl | rfl | rfl | rfl | rfl | rfl | rfl
  all_goals
    refine AFn.vc [] Tryd.func102 rfl Tryd.mixed (by kernel_rfl) Tryd.ntmps102 Tryd.results102 (by simp) ?_
    push_cast
  all_goals try (simp [ofF, kinds, hasF, eq_comm]; done)
  all_goals exact ⟨fun h => by simp [ofF, kinds, hasF, eq_comm, h], fun h => by simp [ofF, kinds, hasF, eq_comm, h]⟩
end Go.Proofs

/- Walks of the chapters on loans between libraries, nineteenth part: the references. No condition. -/
namespace Go.Proofs
open Go Go.Ax Go.Tx Go.Il
set_option maxRecDepth 100000
variable {Γ : List (Nat × List D)}
theorem c76 (s : Side) (m : Msg) (hh : -1000 ≤ s.heard) (hh2 : s.heard ≤ 1000) (h1 : 1 ≤ m.kind) (h2 : m.kind ≤ 11) : AFn Tryd.prog Γ 76 [.agg (s.ds.map C.d), .agg (m.ds.map C.d)] [.agg (takeF s m).ds] := by
  refine AFn.vc [] Tryd.func76 rfl Tryd.mixed (by kernel_rfl) Tryd.ntmps76 Tryd.results76 (by simp) ?_
  push_cast
  refine ⟨⟨by omega, by omega⟩, ?_⟩
  refine CallL.q (c102 s.state m.kind h1 h2) ?_
  push_cast
  have take1 : (m.kind = 8 ∨ hasF (ofF m.kind).taken s.state = true) → m.kind = 1 → takeF s m = { becomeF { s with heard := s.heard + 1 } m.kind m.day with rcd := m.rcd } := fun h h' => by
    simp only [takeF]; rw [if_pos h, if_pos h']
  have take2 : (m.kind = 8 ∨ hasF (ofF m.kind).taken s.state = true) → m.kind ≠ 1 → takeF s m = becomeF { s with heard := s.heard + 1 } m.kind m.day := fun h h' => by
    simp only [takeF]; rw [if_pos h, if_neg h']
  have take3 : ¬ (m.kind = 8 ∨ hasF (ofF m.kind).taken s.state = true) → takeF s m = { s with heard := s.heard + 1 } := fun h => by
    simp only [takeF]; rw [if_neg h]
  refine ⟨fun g => ?_, fun g => ?_⟩
  · refine CallL.q (c75 { s with heard := s.heard + 1 } m.kind m.day) ?_
    push_cast
    refine ⟨fun h => ?_, fun h => ?_⟩
    · rw [take1 g h]
      exact ⟨rfl, rfl, rfl, rfl, rfl, rfl, rfl, rfl, rfl⟩
    · rw [take2 g h]
      exact ⟨rfl, rfl, rfl, rfl, rfl, rfl, rfl, rfl, rfl⟩
  · rw [take3 (by rw [not_or, Bool.not_eq_true]; exact g)]
    exact ⟨rfl, rfl, rfl, rfl, rfl, rfl, rfl, rfl, rfl⟩
theorem c31 (id rq pt rc dy : Int) : AFn Tryd.prog Γ 31 [.c (.d (.int .i64 id)), .c (.d (.int .i64 rq)), .c (.d (.int .i64 pt)), .c (.d (.int .i64 rc)), .c (.d (.int .i64 dy))] [.agg (askR id rq pt rc dy).ds, .agg (askN id rq pt rc dy).ds, .d (.int .i64 (askE id rq pt rc dy))] := by
  refine AFn.vc [1000006] Tryd.func31 rfl Tryd.mixed (by kernel_rfl) Tryd.ntmps31 Tryd.results31 (by simp) ?_
  push_cast
  by_cases hr : 1 ≤ id ∧ id ≤ 4 ∧ 1 ≤ pt ∧ pt ≤ 4 ∧ 1 ≤ rq ∧ rq ≤ 9999 ∧ 1 ≤ rc ∧ rc ≤ 9999 ∧ 0 ≤ dy ∧ dy ≤ 109572
  · have er : (inB id 1 4 && inB pt 1 4 && inB rq 1 9999 && inB rc 1 9999 && inB dy 0 109572) = true := by
      simp only [Bool.and_eq_true, inB_iff]; omega
    by_cases hp : id = pt
    · have e0 : askE id rq pt rc dy = 1 := by unfold askE; rw [er]; simp [hp]
      have e1 : askR id rq pt rc dy = side0 := by unfold askR; rw [e0]; rfl
      have e2 : askN id rq pt rc dy = msg0 := by unfold askN; rw [e0]; rfl
      rw [e0, e1, e2]
      repeat' (first | exact ⟨⟨rfl, rfl, rfl, rfl, rfl, rfl, rfl, rfl, rfl⟩, ⟨rfl, rfl, rfl, rfl, rfl, rfl, rfl, rfl⟩, rfl⟩ | intro h | refine And.intro ?_ ?_ | (exfalso; omega))
    · have e0 : askE id rq pt rc dy = 0 := by unfold askE; rw [er]; simp [show ¬ pt = id from fun h => hp h.symm]
      have e1 : askR id rq pt rc dy = askS id rq pt rc dy := by unfold askR; rw [e0]; rfl
      have e2 : askN id rq pt rc dy = askM id rq pt rc dy := by unfold askN; rw [e0]; rfl
      rw [e0, e1, e2]
      obtain ⟨q1, q2, q3, q4, q5, q6, q7, q8, q9, q10⟩ := hr
      iterate 9 (refine ⟨fun _ => ?_, fun h => absurd h (by omega)⟩)
      refine ⟨fun h => absurd h (by omega), fun _ => ⟨fun h => absurd h hp, fun _ => ?_⟩⟩
      refine RegV.tab (E := [1000006]) Tryd.mixed tab31 [some (65, .c (.d (.int .i64 rq))), some (66, .c (.d (.int .i64 pt))), some (67, .c (.d (.int .i64 rc))), some (68, .agg ((askM id rq pt rc dy).ds.map C.d)), some (69, .c (.d (.lst 8 [(askM id rq pt rc dy).ds]))), some (70, .agg (askC id rq pt rc dy)), some (71, .agg ((askM id rq pt rc dy).ds.map C.d)), none, none, some (12, .c (.d (.int .i64 0)))]
        [none, none, none, none, none, none, none, some [.box 26 (askC id rq pt rc dy), .box 28 (msg0.ds.map C.d), .box 28 ((askM id rq pt rc dy).ds.map C.d)], some [.box 26 (askC id rq pt rc dy), .box 28 ((askM id rq pt rc dy).ds.map C.d), .box 28 ((askM id rq pt rc dy).ds.map C.d)], none] (by kernel_rfl) (by kernel_rfl) rfl ?_ ?_
      · push_cast [tab31, askC, askM, msg0]
      · push_cast [askC, askM, askS]
  · have er : (inB id 1 4 && inB pt 1 4 && inB rq 1 9999 && inB rc 1 9999 && inB dy 0 109572) = false := by
      rw [Bool.eq_false_iff]; simp only [Bool.and_eq_true, inB_iff, ne_eq]; omega
    have e0 : askE id rq pt rc dy = 2 := by unfold askE; rw [er]; rfl
    have e1 : askR id rq pt rc dy = side0 := by unfold askR; rw [e0]; rfl
    have e2 : askN id rq pt rc dy = msg0 := by unfold askN; rw [e0]; rfl
    rw [e0, e1, e2]
    repeat' (first | exact ⟨⟨rfl, rfl, rfl, rfl, rfl, rfl, rfl, rfl, rfl⟩, ⟨rfl, rfl, rfl, rfl, rfl, rfl, rfl, rfl⟩, rfl⟩ | intro h | refine And.intro ?_ ?_ | (exfalso; omega))
end Go.Proofs

/- Walks of the chapters on loans between libraries, twentieth part: the reference's Say. No condition. -/
namespace Go.Proofs
open Go Go.Ax Go.Tx Go.Il
set_option maxRecDepth 100000
variable {Γ : List (Nat × List D)}
theorem c33 (id : Int) (s : Side) (kind day : Int) (note : List UInt8) (hs : s.sent.length ≤ 1000) (hn : note.length ≤ 100000) : AFn Tryd.prog Γ 33 [.c (.d (.int .i64 id)), .agg (s.ds.map C.d), .c (.d (.int .i64 kind)), .c (.d (.int .i64 day)), .c (.d (.str note))] [.agg (sayR id s kind day note).ds, .agg (sayN id s kind day note).ds, .d (.int .i64 (sayE id s kind day note))] := by
  refine AFn.vc [1000010, 1000011] Tryd.func33 rfl Tryd.mixed (by kernel_rfl) Tryd.ntmps33 Tryd.results33 (by simp) ?_
  push_cast
  have hF : sayE id s kind day note ≠ 0 → sayR id s kind day note = side0 ∧ sayN id s kind day note = msg0 := fun c => ⟨by unfold sayR; rw [decide_eq_false c]; rfl, by unfold sayN; rw [decide_eq_false c]; rfl⟩
  refine CallL.q (c21 s.role s.state kind) ?_
  push_cast
  refine ⟨fun h1 => ?_, fun h1 => ?_⟩
  · have e0 : sayE id s kind day note = 12 := by simp [sayE, h1]
    obtain ⟨e1, e2⟩ := hF (by omega)
    rw [e0, e1, e2]
    exact ⟨⟨rfl, rfl, rfl, rfl, rfl, rfl, rfl, rfl, rfl⟩, ⟨rfl, rfl, rfl, rfl, rfl, rfl, rfl, rfl⟩, rfl⟩
  refine ⟨fun h2 => ?_, fun h2 => ?_⟩
  · have e0 : sayE id s kind day note = 13 := by simp [sayE, h1, show 99 ≤ s.sent.length by omega]
    obtain ⟨e1, e2⟩ := hF (by omega)
    rw [e0, e1, e2]
    exact ⟨⟨rfl, rfl, rfl, rfl, rfl, rfl, rfl, rfl, rfl⟩, ⟨rfl, rfl, rfl, rfl, rfl, rfl, rfl, rfl⟩, rfl⟩
  · refine ⟨⟨by omega, by omega⟩, ?_⟩
    have e0 : sayE id s kind day note = msgF (sayM id s kind day note) := by simp [sayE, h1, show ¬ 99 ≤ s.sent.length by omega]
    refine CallL.q (c61 (sayM id s kind day note) hn) ?_
    push_cast
    refine ⟨fun h3 => ?_, fun h3 => ?_⟩
    · obtain ⟨e1, e2⟩ := hF (by rw [e0]; exact h3)
      rw [e0, e1, e2]
      exact ⟨⟨rfl, rfl, rfl, rfl, rfl, rfl, rfl, rfl, rfl⟩, ⟨rfl, rfl, rfl, rfl, rfl, rfl, rfl, rfl⟩, rfl⟩
    · have e00 : sayE id s kind day note = 0 := by rw [e0, h3]
      have e1 : sayR id s kind day note = sayS id s kind day note := by unfold sayR; rw [decide_eq_true e00]; rfl
      have e2 : sayN id s kind day note = sayM id s kind day note := by unfold sayN; rw [decide_eq_true e00]; rfl
      rw [e00, e1, e2]
      refine CallL.q (c75 s kind day) ?_
      obtain ⟨a, ha⟩ : ∃ a, becomeF s kind day = a := ⟨_, rfl⟩
      have hsent : s.sent = a.sent := by rw [← ha]; rfl
      have hS : sayS id s kind day note = { a with sent := a.sent ++ [sayM id s kind day note] } := by unfold sayS; rw [ha, hsent]
      rw [ha, hS]
      push_cast
      refine RegV.tab (E := [1000010, 1000011]) Tryd.mixed tab33a [some (56, .c (.own 4 0)), some (57, .c (.loc 0 7)), some (58, .c (.d (.lst 8 (a.sent.map Msg.ds)))), some (59, .c (.own 4 1)), some (60, .agg ((sayM id s kind day note).ds.map C.d)), some (61, .c (.d (.lst 8 [(sayM id s kind day note).ds]))), some (62, .c (.own 4 2)), some (63, .c (.loc 0 7)), none]
        [some [.box 26 (a.ds.map C.d), .box 26 (Side.ds0 side0), .box 28 (msg0.ds.map C.d), .box 28 ((sayM id s kind day note).ds.map C.d), .row 28 8 [] 0], none, none, some [.box 26 (a.ds.map C.d), .box 26 (Side.ds0 side0), .box 28 (msg0.ds.map C.d), .box 28 ((sayM id s kind day note).ds.map C.d), .row 28 8 (a.sent.map Msg.ds) 1], none, none, some [.box 26 (a.ds.map C.d), .box 26 (Side.ds0 side0), .box 28 (msg0.ds.map C.d), .box 28 ((sayM id s kind day note).ds.map C.d), .row 28 8 (a.sent.map Msg.ds ++ [(sayM id s kind day note).ds]) 2], none, some [.box 26 ((a.ds.map C.d).set 7 (.own 4 2)), .box 26 (Side.ds0 side0), .box 28 (msg0.ds.map C.d), .box 28 ((sayM id s kind day note).ds.map C.d), .row 28 8 (a.sent.map Msg.ds ++ [(sayM id s kind day note).ds]) 2]] (by kernel_rfl) (by kernel_rfl) rfl ?_ ?_
      · push_cast [tab33a, msg0, sayM]
        have hal : a.sent.length ≤ 1000 := by rw [← hsent]; exact hs
        exact ⟨⟨by omega, by omega⟩, ⟨by omega, by omega⟩, ⟨by omega, by omega⟩, by omega, by omega⟩
      · push_cast [msg0, sayM]
        refine RegV.tab (E := [1000010, 1000011]) Tryd.mixed tab33b [some (64, .agg ((a.ds.map C.d).set 7 (.own 4 2))), some (65, .agg ((sayM id s kind day note).ds.map C.d)), none, none, some (12, .c (.d (.int .i64 0)))]
          [none, none, some [.box 26 ((a.ds.map C.d).set 7 (.own 4 2)), .box 26 ((a.ds.map C.d).set 7 (.own 4 2)), .box 28 (msg0.ds.map C.d), .box 28 ((sayM id s kind day note).ds.map C.d), .row 28 8 (a.sent.map Msg.ds ++ [(sayM id s kind day note).ds]) 2], some [.box 26 ((a.ds.map C.d).set 7 (.own 4 2)), .box 26 ((a.ds.map C.d).set 7 (.own 4 2)), .box 28 ((sayM id s kind day note).ds.map C.d), .box 28 ((sayM id s kind day note).ds.map C.d), .row 28 8 (a.sent.map Msg.ds ++ [(sayM id s kind day note).ds]) 2], none] (by kernel_rfl) (by kernel_rfl) rfl ?_ ?_
        · push_cast [tab33b, msg0, sayM]
        · push_cast [msg0, sayM]
          rw [List.map_append]; rfl
end Go.Proofs

/- Walks of the chapters on loans between libraries, twenty-first part: the reference's Hear. No condition. -/
namespace Go.Proofs
open Go Go.Ax Go.Tx Go.Il
set_option maxRecDepth 100000
variable {Γ : List (Nat × List D)}
theorem msg_kind {m : Msg} (h : msgF m = 0) : 1 ≤ m.kind ∧ m.kind ≤ 11 := by
  unfold msgF at h
  cases h1 : (inB m.frm 1 4 && inB m.dst 1 4) <;> rw [h1] at h
  · cases h
  · cases h2 : decide (m.frm = m.dst) <;> rw [h2] at h
    · cases h3 : (inB m.req 1 9999 && inB m.seq 1 99) <;> rw [h3] at h
      · cases h
      · cases h4 : inB m.kind 1 11 <;> rw [h4] at h
        · cases h
        · exact inB_iff.1 h4
    · cases h
theorem of_role (kind : Int) (h : (ofF kind).role = 2) : kind ≠ 1 := fun e => by subst e; revert h; decide
set_option maxHeartbeats 40000000 in
theorem c34 (id : Int) (s : Side) (m : Msg) (hK : hearK s) (hkd : ∀ x ∈ s.early, 1 ≤ x.kind ∧ x.kind ≤ 11) (hm : m.note.length ≤ 100000) :
    AFn Tryd.prog Γ 34 [.c (.d (.int .i64 id)), .agg (s.ds.map C.d), .agg (m.ds.map C.d)] [.agg (hearS id s m).ds, .d (.int .i64 (hearE id s m))] := by
  obtain ⟨k1, k2, k3, k4, k5, k6⟩ := hK
  refine AFn.vc [1000015] Tryd.func34 rfl Tryd.mixed (by kernel_rfl) Tryd.ntmps34 Tryd.results34 (by simp) ?_
  push_cast
  refine CallX.q (c61 m hm) ?_
  push_cast
  have hbad : fitsF id s m = false → hearS id s m = side0 ∧ hearE id s m = 1 := fun h1 => ⟨by simp [hearS, h1], by simp [hearE, h1]⟩
  have hN : ¬ (msgF m = 0 ∧ m.dst = id ∧ m.frm = s.ptn ∧ m.req = s.req ∧ (ofF m.kind).role = 3 - s.role) → fitsF id s m = false := fun c => by unfold fitsF; rw [decide_eq_false c]; rfl
  have bad : fitsF id s m = false → (((0 = (hearS id s m).req ∧ 0 = (hearS id s m).ptn ∧ 0 = (hearS id s m).role ∧ 0 = (hearS id s m).state ∧ 0 = (hearS id s m).rcd ∧ 0 = (hearS id s m).due ∧ 0 = (hearS id s m).heard ∧ (hearS id s m).sent = [] ∧ (hearS id s m).early = []) ∧ 1 = hearE id s m)) := fun h => by
    rw [(hbad h).1, (hbad h).2]; exact ⟨⟨rfl, rfl, rfl, rfl, rfl, rfl, rfl, rfl, rfl⟩, rfl⟩
  refine ⟨fun a1 => ⟨fun a2 => ⟨fun a3 => ⟨fun a4 => ?_, fun h => bad (hN fun q => h q.2.2.2.1)⟩, fun h => bad (hN fun q => h q.2.2.1)⟩, fun h => bad (hN fun q => h q.2.1)⟩, fun h => bad (hN fun q => h q.1)⟩
  refine CallX.q (c71' s.role k6) ?_
  push_cast
  refine CallX.q (c70' s.role m.kind k6) ?_
  by_cases a5 : (ofF m.kind).role = 3 - s.role
  · have e5 : ((ofF m.kind).role = 3 - s.role) = True := eq_true a5
    have hfit : fitsF id s m = (decide (s.role = 1) || (decide (m.seq = 1) == decide (m.kind = 1))) := by
      unfold fitsF; rw [decide_eq_true (p := msgF m = 0 ∧ m.dst = id ∧ m.frm = s.ptn ∧ m.req = s.req ∧ (ofF m.kind).role = 3 - s.role) ⟨a1, a2, a3, a4, a5⟩, Bool.true_and]
    have good : fitsF id s m = true → (s.role = 1 ∧ m.kind ≠ 1) ∨ (s.role = 2 ∧ m.seq = 1 ∧ m.kind = 1) ∨ (s.role = 2 ∧ m.seq ≠ 1 ∧ m.kind ≠ 1) := fun h => by
      rw [hfit] at h
      rcases k6 with r | r
      · exact .inl ⟨r, of_role m.kind (by rw [a5, r]; rfl)⟩
      · by_cases q : m.seq = 1 <;> by_cases f : m.kind = 1 <;> simp [r, q, f] at h ⊢
    cases hf : fitsF id s m with
    | false =>
      rcases k6 with r | r
      · rw [hfit, decide_eq_true r] at hf; cases hf
      · have e1 : (s.role = 2) = True := eq_true r
        by_cases q : m.seq = 1 <;> by_cases f : m.kind = 1
        all_goals
          first | have e2 : (m.seq = 1) = True := eq_true q | have e2 : (m.seq = 1) = False := eq_false q
          first | have e3 : (m.kind = 1) = True := eq_true f | have e3 : (m.kind = 1) = False := eq_false f
          first
            | (exfalso; rw [hfit] at hf; simp [r, q, f] at hf; done)
            | (push_cast [e5, e1, e2, e3]; exact bad hf)
    | true =>
      have hq : 1 ≤ m.seq ∧ m.seq ≤ 99 := msg_seq a1
      have hA : m.seq ≤ s.heard → hearS id s m = s ∧ hearE id s m = 0 := fun h => ⟨by simp [hearS, hf, h], by simp [hearE, hf, h]⟩
      have hB : s.heard + 1 < m.seq → hearS id s m = keepS s m ∧ hearE id s m = keepE s m := fun h => ⟨by simp [hearS, hf, h, show ¬ m.seq ≤ s.heard by omega], by simp [hearE, hf, h, show ¬ m.seq ≤ s.heard by omega]⟩
      have hC : s.heard < m.seq → m.seq ≤ s.heard + 1 → hearS id s m = drain (takeF s m) s.early ∧ hearE id s m = 0 := fun h h' => ⟨by simp [hearS, hf, show ¬ m.seq ≤ s.heard by omega, show ¬ s.heard + 1 < m.seq by omega], by simp [hearE, hf, show ¬ m.seq ≤ s.heard by omega, show ¬ s.heard + 1 < m.seq by omega]⟩
      rcases good hf with ⟨r, q⟩ | ⟨r, q, f⟩ | ⟨r, q, f⟩
      rotate_left
      rotate_left
      all_goals
        first | have e1 : (s.role = 2) = True := eq_true r | have e1 : (s.role = 2) = False := eq_false (by omega)
        first | have e2 : (m.seq = 1) = True := eq_true q | have e2 : (m.seq = 1) = False := eq_false q | have e2 : (m.kind = 1) = False := eq_false q
        first | have e3 : (m.kind = 1) = True := eq_true f | have e3 : (m.kind = 1) = False := eq_false f | have e3 : (m.kind = 1) = False := eq_false q
        push_cast [e5, e1, e2, e3]
        refine ⟨fun h2 => ?_, fun h2 => ⟨⟨by omega, by omega⟩, ⟨by omega, by omega⟩, fun h3 => ?_, fun h3 => ?_⟩⟩
        · rw [(hA h2).1, (hA h2).2]
          exact ⟨⟨rfl, rfl, rfl, rfl, rfl, rfl, rfl, rfl, rfl⟩, rfl⟩
        · rw [(hB h3).1, (hB h3).2]
          refine LoopV.cnt Tryd.mixed [4, 5, 6, 9] s.early.length (fun k => [(10, .c (.d (.int .i64 k)))]) (fun k => ∀ j (hj : j < s.early.length), j < k → s.early[j].seq < m.seq) (fun j hj h => by omega) ?_ (by push_cast)
          intro k hk hin
          have hlow := lowN_le m.seq s.early
          have c9 : (k + (s.early.length - k) ≤ s.early.length) = True := eq_true (by omega)
          have c10 : List.take (s.early.length - k) (List.drop k (List.map Msg.ds s.early)) = List.drop k (List.map Msg.ds s.early) := List.take_of_length_le (by simp)
          by_cases b1 : (k : Int) < s.early.length
          · have c1 : ((k : Int) < s.early.length) = True := eq_true b1
            have hk' : k < s.early.length := by omega
            by_cases b2 : s.early[k].seq < m.seq
            · have c2 : (s.early[k].seq < m.seq) = True := eq_true b2
              push_cast [c1, c2]
              refine ⟨hk', ⟨by omega, by omega⟩, hk', fun j hj h => ?_⟩
              by_cases hjk : j = k
              · subst hjk; exact b2
              · exact hin j hj (by omega)
            · have c2 : (s.early[k].seq < m.seq) = False := eq_false b2
              have hl : lowN s.early m.seq = k := lowN_eq m.seq s.early k hk hin fun j hj h => by
                by_cases hjk : j = k
                · subst hjk; omega
                · have := k1 k j hk' hj (by omega); omega
              have hat : atN s.early m.seq = decide (s.early[k].seq = m.seq) := by unfold atN; rw [hl, List.getElem?_eq_getElem hk']
              by_cases b3 : s.early[k].seq = m.seq
              · have c3 : (s.early[k].seq = m.seq) = True := eq_true b3
                rw [decide_eq_true b3] at hat
                push_cast [c1, c2, c3]
                rw [show keepS s m = s by simp [keepS, hat], show keepE s m = 0 by simp [keepE, hat]]
                exact ⟨hk', hk', ⟨rfl, rfl, rfl, rfl, rfl, rfl, rfl, rfl, rfl⟩, rfl⟩
              · have c3 : (s.early[k].seq = m.seq) = False := eq_false b3
                rw [decide_eq_false b3] at hat
                push_cast [c1, c2, c3]
                have hK : s.early.length < 8 → keepS s m = { s with early := insL s.early m } ∧ keepE s m = 0 := fun h => ⟨by simp [keepS, hat, show ¬ 8 ≤ s.early.length by omega], by simp [keepE, hat, show ¬ 8 ≤ s.early.length by omega]⟩
                refine ⟨hk', hk', fun b4 => ?_, fun b4 => ?_⟩
                · rw [show keepS s m = side0 by simp [keepS, hat, show 8 ≤ s.early.length by omega], show keepE s m = 13 by simp [keepE, hat, show 8 ≤ s.early.length by omega]]
                  exact ⟨⟨rfl, rfl, rfl, rfl, rfl, rfl, rfl, rfl, rfl⟩, rfl⟩
                · have hK := hK (by omega)
                  refine RegV.tab (E := [1000015]) Tryd.mixed tab34 [some (120, .c (.own 4 0)), some (121, .c (.own 3 1)), some (122, .c (.d (.int .i64 k))), some (123, .c (.sub 3 1 8 0 k)), some (124, .c (.own 4 1)), some (125, .agg (m.ds.map C.d)), some (126, .c (.d (.lst 8 [m.ds]))), some (127, .c (.own 4 2)), some (128, .c (.own 3 1)), some (129, .c (.d (.int .i64 k))), some (130, .c (.sub 3 1 8 k (s.early.length - k))), some (131, .c (.own 4 3)), some (132, .c (.loc 0 8)), none] [some [.box 26 (s.ds.map C.d), .box 28 (m.ds.map C.d), .box 26 (Side.ds0 side0), .row 28 8 (s.early.map Msg.ds) 1, .row 28 8 [] 0], none, none, none, some [.box 26 (s.ds.map C.d), .box 28 (m.ds.map C.d), .box 26 (Side.ds0 side0), .row 28 8 (s.early.map Msg.ds) 1, .row 28 8 ((s.early.map Msg.ds).take k) 1], none, none, some [.box 26 (s.ds.map C.d), .box 28 (m.ds.map C.d), .box 26 (Side.ds0 side0), .row 28 8 (s.early.map Msg.ds) 1, .row 28 8 ((s.early.map Msg.ds).take k ++ [m.ds]) 2], none, none, none, some [.box 26 (s.ds.map C.d), .box 28 (m.ds.map C.d), .box 26 (Side.ds0 side0), .row 28 8 (s.early.map Msg.ds) 1, .row 28 8 ((s.early.map Msg.ds).take k ++ [m.ds] ++ (s.early.map Msg.ds).drop k) 3], none, some [.box 26 ((s.ds.map C.d).set 8 (.own 4 3)), .box 28 (m.ds.map C.d), .box 26 (Side.ds0 side0), .row 28 8 (s.early.map Msg.ds) 1, .row 28 8 ((s.early.map Msg.ds).take k ++ [m.ds] ++ (s.early.map Msg.ds).drop k) 3]] (by kernel_rfl) (by kernel_rfl) rfl ?_ ?_
                  · push_cast [tab34, eq_true hk, c9, c10]
                    repeat' (first | refine And.intro ?_ ?_ | omega)
                  · push_cast
                    rw [hK.1, hK.2]
                    refine ⟨⟨rfl, rfl, rfl, rfl, rfl, rfl, rfl, rfl, ?_⟩, rfl⟩
                    show _ = List.map Msg.ds (insL s.early m)
                    simp only [insL, hl, List.map_append, List.map_take, List.map_drop, List.map_cons, List.map_nil]
                    rfl
          · have c1 : ((k : Int) < s.early.length) = False := eq_false b1
            have hkl : k = s.early.length := by omega
            have hl : lowN s.early m.seq = k := lowN_eq m.seq s.early k hk hin fun j hj h => by omega
            have hat : atN s.early m.seq = false := by unfold atN; rw [hl, List.getElem?_eq_none (by omega)]
            push_cast [c1]
            have hK : s.early.length < 8 → keepS s m = { s with early := insL s.early m } ∧ keepE s m = 0 := fun h => ⟨by simp [keepS, hat, show ¬ 8 ≤ s.early.length by omega], by simp [keepE, hat, show ¬ 8 ≤ s.early.length by omega]⟩
            refine ⟨fun b4 => ?_, fun b4 => ?_⟩
            · rw [show keepS s m = side0 by simp [keepS, hat, show 8 ≤ s.early.length by omega], show keepE s m = 13 by simp [keepE, hat, show 8 ≤ s.early.length by omega]]
              exact ⟨⟨rfl, rfl, rfl, rfl, rfl, rfl, rfl, rfl, rfl⟩, rfl⟩
            · have hK := hK (by omega)
              refine RegV.tab (E := [1000015]) Tryd.mixed tab34 [some (120, .c (.own 4 0)), some (121, .c (.own 3 1)), some (122, .c (.d (.int .i64 k))), some (123, .c (.sub 3 1 8 0 k)), some (124, .c (.own 4 1)), some (125, .agg (m.ds.map C.d)), some (126, .c (.d (.lst 8 [m.ds]))), some (127, .c (.own 4 2)), some (128, .c (.own 3 1)), some (129, .c (.d (.int .i64 k))), some (130, .c (.sub 3 1 8 k (s.early.length - k))), some (131, .c (.own 4 3)), some (132, .c (.loc 0 8)), none] [some [.box 26 (s.ds.map C.d), .box 28 (m.ds.map C.d), .box 26 (Side.ds0 side0), .row 28 8 (s.early.map Msg.ds) 1, .row 28 8 [] 0], none, none, none, some [.box 26 (s.ds.map C.d), .box 28 (m.ds.map C.d), .box 26 (Side.ds0 side0), .row 28 8 (s.early.map Msg.ds) 1, .row 28 8 ((s.early.map Msg.ds).take k) 1], none, none, some [.box 26 (s.ds.map C.d), .box 28 (m.ds.map C.d), .box 26 (Side.ds0 side0), .row 28 8 (s.early.map Msg.ds) 1, .row 28 8 ((s.early.map Msg.ds).take k ++ [m.ds]) 2], none, none, none, some [.box 26 (s.ds.map C.d), .box 28 (m.ds.map C.d), .box 26 (Side.ds0 side0), .row 28 8 (s.early.map Msg.ds) 1, .row 28 8 ((s.early.map Msg.ds).take k ++ [m.ds] ++ (s.early.map Msg.ds).drop k) 3], none, some [.box 26 ((s.ds.map C.d).set 8 (.own 4 3)), .box 28 (m.ds.map C.d), .box 26 (Side.ds0 side0), .row 28 8 (s.early.map Msg.ds) 1, .row 28 8 ((s.early.map Msg.ds).take k ++ [m.ds] ++ (s.early.map Msg.ds).drop k) 3]] (by kernel_rfl) (by kernel_rfl) rfl ?_ ?_
              · push_cast [tab34, eq_true hk, c9, c10]
                repeat' (first | refine And.intro ?_ ?_ | omega)
              · push_cast
                rw [hK.1, hK.2]
                refine ⟨⟨rfl, rfl, rfl, rfl, rfl, rfl, rfl, rfl, ?_⟩, rfl⟩
                show _ = List.map Msg.ds (insL s.early m)
                simp only [insL, hl, List.map_append, List.map_take, List.map_drop, List.map_cons, List.map_nil]
                rfl
        · rw [(hC h2 h3).1, (hC h2 h3).2]
          have hkind := msg_kind a1
          refine CallL.q (c76 s m (by omega) (by omega) hkind.1 hkind.2) ?_
          push_cast
          refine LoopV.of Tryd.mixed [4, 6] (fun s' : Side => [(9, .c (.d (.lst 8 (s'.early.map Msg.ds))))]) (fun s' => [.box 26 ({ s' with early := s.early }.ds.map C.d), .box 28 (m.ds.map C.d), .box 26 (Side.ds0 side0)]) (fun s' => drain s' s'.early = drain (takeF s m) s.early ∧ 0 ≤ s'.heard ∧ s'.heard + s'.early.length ≤ 200 ∧ s'.early.length ≤ 8 ∧ ∀ x ∈ s'.early, 1 ≤ x.kind ∧ x.kind ≤ 11) (fun s' => s'.early.length) (takeF s m) ?_ (by push_cast; rw [(take_heard s m).2.1]; exact ⟨rfl, rfl⟩) ?_
          · obtain ⟨t1, t2, _⟩ := take_heard s m
            rw [t1, t2]
            exact ⟨rfl, by omega, by omega, by omega, hkd⟩
          · rintro s' ⟨i1, i2, i3, i4, i5⟩
            push_cast
            have hend : (∀ h : 0 < s'.early.length, ¬ s'.early[0].seq = s'.heard + 1) → drain s' s'.early = s' := fun h => by
              cases he : s'.early with
              | nil => show ({ s' with early := [] } : Side) = s'; rw [← he]
              | cons x r =>
                have := h (by rw [he]; simp)
                simp only [he, List.getElem_cons_zero] at this
                show (if x.seq = s'.heard + 1 then drain (takeF s' x) r else { s' with early := x :: r }) = s'
                rw [if_neg this, ← he]
            refine ⟨fun h5 => ⟨by omega, ⟨by omega, by omega⟩, fun h6 => ⟨by omega, ?_⟩, fun h6 => ?_⟩, fun h5 => ?_⟩
            · have hk0 := i5 _ (List.getElem_mem (show 0 < s'.early.length by omega))
              refine CallX.q (c76 { s' with early := s.early } (s'.early[0]'(by omega)) (by show _ ≤ s'.heard; omega) (by show s'.heard ≤ _; omega) hk0.1 hk0.2) ?_
              rw [take_early]
              push_cast
              obtain ⟨t1, t2, _⟩ := take_heard s' (s'.early[0]'(by omega))
              refine ⟨⟨by omega, by omega⟩, { takeF s' (s'.early[0]'(by omega)) with early := s'.early.drop 1 }, ⟨⟨?_, by show 0 ≤ (takeF s' _).heard; omega, ?_, by simp; omega, fun x hx => i5 x (List.mem_of_mem_drop hx)⟩, by simp; omega⟩, ?_, rfl, rfl, rfl, rfl, rfl, rfl, rfl, rfl⟩
              · rw [← i1]
                show drain { takeF s' _ with early := _ } (s'.early.drop 1) = _
                rw [drain_early]
                have hc : s'.early = (s'.early[0]'(by omega)) :: s'.early.drop 1 := by
                  have := List.drop_eq_getElem_cons (show 0 < s'.early.length by omega)
                  simpa using this
                conv => rhs; rw [hc]
                show _ = (if (s'.early[0]'(by omega)).seq = s'.heard + 1 then drain (takeF s' _) (s'.early.drop 1) else _)
                rw [if_pos h6]
              · show (takeF s' _).heard + ((s'.early.drop 1).length : Int) ≤ 200
                rw [t1, List.length_drop]; omega
              · show List.map Msg.ds (s'.early.drop 1) = _
                rw [List.map_drop]
                exact (List.take_of_length_le (by simp)).symm
            · rw [← i1, hend fun _ => h6]
              exact ⟨rfl, rfl, rfl, rfl, rfl, rfl, rfl, rfl, rfl⟩
            · rw [← i1, hend fun h => by omega]
              exact ⟨rfl, rfl, rfl, rfl, rfl, rfl, rfl, rfl, rfl⟩
  · have e5 : ((ofF m.kind).role = 3 - s.role) = False := eq_false a5
    push_cast [e5]
    exact bad (hN fun q => a5 q.2.2.2.2)
end Go.Proofs

/- Plain laws on sides of a loan: what is said and heard leaves a side right. No condition. -/
namespace Go.Proofs
open Go Go.Ax Go.Tx Go.Il
set_option maxRecDepth 100000
theorem side_ok {s : Side} (h1 : 1 ≤ s.req ∧ s.req ≤ 9999) (h2 : 1 ≤ s.ptn ∧ s.ptn ≤ 4) (h3 : 0 ≤ s.rcd ∧ s.rcd ≤ 9999) (h4 : 0 ≤ s.due ∧ s.due ≤ 109572) (h5 : 0 ≤ s.heard ∧ s.heard ≤ 99) (h6 : s.role = 1 ∨ s.role = 2) (h7 : 0 ≤ s.state ∧ s.state ≤ 9) (h8 : s.state = 0 ↔ s.role = 2 ∧ s.heard = 0) (h9 : s.sent.length ≤ 99) (h10 : s.early.length ≤ 8) (h11 : sentL s 0 s.sent = true) (h12 : earlyL s (s.heard + 1) s.early = true) : sideF s = 0 := by
  unfold sideF
  rw [show (inB s.req 1 9999 && inB s.ptn 1 4 && inB s.rcd 0 9999 && inB s.due 0 109572 && inB s.heard 0 99) = true by
    simp only [Bool.and_eq_true, inB_iff]; exact ⟨⟨⟨⟨h1, h2⟩, h3⟩, h4⟩, h5⟩]
  rw [show (decide (s.role ≠ 2 ∧ s.role ≠ 1) || !inB s.state 0 9) = false by
    rw [Bool.or_eq_false_iff, decide_eq_false_iff_not, Bool.not_eq_false', inB_iff]; exact ⟨by omega, h7⟩]
  rw [show (decide (s.state = 0 ∧ (s.role ≠ 2 ∨ s.heard ≠ 0)) || decide (s.state ≠ 0 ∧ s.role = 2 ∧ s.heard = 0)) = false by
    rw [Bool.or_eq_false_iff, decide_eq_false_iff_not, decide_eq_false_iff_not]
    exact ⟨fun q => by have := h8.1 q.1; omega, fun q => q.1 (h8.2 q.2)⟩]
  rw [decide_eq_false (by omega), h11, h12]
  rfl
theorem msg_val {m : Msg} (h : msgF m = 0) : (1 ≤ m.frm ∧ m.frm ≤ 4) ∧ (1 ≤ m.dst ∧ m.dst ≤ 4) ∧ m.frm ≠ m.dst ∧ (1 ≤ m.req ∧ m.req ≤ 9999) ∧ (1 ≤ m.seq ∧ m.seq ≤ 99) ∧ (1 ≤ m.kind ∧ m.kind ≤ 11) ∧ (0 ≤ m.rcd ∧ m.rcd ≤ 9999) ∧ (m.kind = 1 → 1 ≤ m.rcd) ∧ (0 ≤ m.day ∧ m.day ≤ 109572) ∧ m.note.length ≤ 40 := by
  unfold msgF at h
  cases h1 : (inB m.frm 1 4 && inB m.dst 1 4) <;> rw [h1] at h
  · cases h
  cases h2 : decide (m.frm = m.dst) <;> rw [h2] at h
  · cases h3 : (inB m.req 1 9999 && inB m.seq 1 99) <;> rw [h3] at h
    · cases h
    cases h4 : inB m.kind 1 11 <;> rw [h4] at h
    · cases h
    cases h5 : (inB m.rcd (if m.kind = 1 then 1 else 0) 9999 && inB m.day 0 109572) <;> rw [h5] at h
    · cases h
    cases h6 : noteF m.note <;> rw [h6] at h
    · cases h
    cases h7 : decide (40 < m.note.length) <;> rw [h7] at h
    · simp only [Bool.and_eq_true, inB_iff] at h1 h3 h4 h5
      refine ⟨h1.1, h1.2, of_decide_eq_false h2, h3.1, h3.2, h4, ?_, ?_, h5.2, ?_⟩
      · have := h5.1; split at this <;> omega
      · intro e; have := h5.1; rw [if_pos e] at this; omega
      · have := of_decide_eq_false h7; omega
    · cases h
  · cases h
theorem sentL_app (s : Side) (m : Msg) : ∀ (l : List Msg) (i : Int), sentL s i (l ++ [m]) = (sentL s i l && decide (msgF m = 0 ∧ m.seq = i + l.length + 1 ∧ m.dst = s.ptn ∧ m.req = s.req))
  | [], i => by simp [sentL]
  | x :: r, i => by
    rw [List.cons_append, sentL, sentL, sentL_app s m r, Bool.and_assoc]
    congr 3
    simp only [List.length_cons]
    have : i + 1 + (r.length : Int) + 1 = i + ((r.length + 1 : Nat) : Int) + 1 := by omega
    rw [this]
theorem sentL_congr {s t : Side} (h1 : t.ptn = s.ptn) (h2 : t.req = s.req) : ∀ (l : List Msg) (i : Int), sentL t i l = sentL s i l
  | [], _ => rfl
  | m :: r, i => by rw [sentL, sentL, sentL_congr h1 h2 r, h1, h2]
theorem earlyL_congr {s t : Side} (h1 : t.ptn = s.ptn) (h2 : t.req = s.req) (h3 : t.role = s.role) : ∀ (l : List Msg) (i : Int), earlyL t i l = earlyL s i l
  | [], _ => rfl
  | m :: r, i => by rw [earlyL, earlyL, earlyL_congr h1 h2 h3 r, h1, h2, h3]
theorem ask_right (id rq pt rc dy : Int) (h : askE id rq pt rc dy = 0) : sideF (askR id rq pt rc dy) = 0 ∧ (askR id rq pt rc dy).sent.length ≤ 1 ∧ (askR id rq pt rc dy).early = [] ∧ SmN (askR id rq pt rc dy) := by
  unfold askR
  rw [decide_eq_true h, cond_true]
  unfold askE at h
  cases h1 : (inB id 1 4 && inB pt 1 4 && inB rq 1 9999 && inB rc 1 9999 && inB dy 0 109572) <;> rw [h1] at h
  · cases h
  · by_cases h2 : pt = id
    · rw [decide_eq_true h2] at h; cases h
    · have hm : msgF (askM id rq pt rc dy) = 0 := by
        simp only [Bool.and_eq_true] at h1
        obtain ⟨⟨⟨⟨a1, a2⟩, a3⟩, a4⟩, a5⟩ := h1
        unfold msgF askM
        simp only
        rw [a1, a2, a3, a5, decide_eq_false (fun e => h2 e.symm)]
        simp only [if_true]
        rw [a4]
        rfl
      simp only [Bool.and_eq_true, inB_iff] at h1
      refine ⟨side_ok ?_ ?_ ?_ ?_ ?_ ?_ ?_ ?_ ?_ ?_ ?_ ?_, by simp [askS], rfl, ⟨by simp [askS], by simp [askS], ?_, by simp [askS]⟩⟩
      · exact h1.1.1.2
      · exact h1.1.1.1.2
      · show 0 ≤ rc ∧ rc ≤ 9999; omega
      · exact (by decide : (0 : Int) ≤ 0 ∧ (0 : Int) ≤ 109572)
      · exact (by decide : (0 : Int) ≤ 0 ∧ (0 : Int) ≤ 99)
      · exact .inl rfl
      · exact (by decide : (0 : Int) ≤ 1 ∧ (1 : Int) ≤ 9)
      · exact ⟨fun q => (by cases q), fun q => (by cases q.1)⟩
      · exact (by decide : 1 ≤ 99)
      · exact Nat.zero_le _
      · show (decide (msgF (askM id rq pt rc dy) = 0 ∧ _) && true) = true
        rw [Bool.and_true, decide_eq_true_eq]
        exact ⟨hm, rfl, rfl, rfl⟩
      · rfl
      · intro m hm
        have : m = askM id rq pt rc dy := by simpa [askS] using hm
        rw [this]; exact Nat.zero_le _
theorem open_right (id : Int) (m : Msg) (h : openE id m = 0) : sideF (openR id m) = 0 ∧ SmN (openR id m) := by
  unfold openR
  rw [decide_eq_true h, cond_true]
  unfold openE at h
  by_cases c : msgF m ≠ 0 ∨ m.dst ≠ id ∨ (ofF m.kind).role ≠ 1
  · rw [decide_eq_true c] at h; cases h
  · have hm : msgF m = 0 := by omega
    obtain ⟨a1, a2, a3, a4, _⟩ := msg_val hm
    refine ⟨side_ok a4 a1 (by decide : (0 : Int) ≤ 0 ∧ (0 : Int) ≤ 9999) (by decide : (0 : Int) ≤ 0 ∧ (0 : Int) ≤ 109572) (by decide : (0 : Int) ≤ 0 ∧ (0 : Int) ≤ 99) (.inr rfl) (by decide : (0 : Int) ≤ 0 ∧ (0 : Int) ≤ 9) ⟨fun _ => ⟨rfl, rfl⟩, fun _ => rfl⟩ (Nat.zero_le _) (Nat.zero_le _) rfl rfl, ⟨Nat.zero_le _, Nat.zero_le _, fun m h => (by cases h), fun m h => (by cases h)⟩⟩
theorem kd_state (kind : Int) : 0 ≤ (ofF kind).state ∧ (ofF kind).state ≤ 9 := by
  rcases of_cases kind with h | h
  · rw [h.1]; exact ⟨by decide, by decide⟩
  · rcases h with rfl | rfl | rfl | rfl | rfl | rfl | rfl | rfl | rfl | rfl | rfl <;> exact ⟨by decide, by decide⟩
theorem kd_sent0 (kind : Int) : hasF (ofF kind).sent 0 = false := by
  rcases of_cases kind with h | h
  · rw [h.1]; rfl
  · rcases h with rfl | rfl | rfl | rfl | rfl | rfl | rfl | rfl | rfl | rfl | rfl <;> decide
theorem kd_taken0 (kind : Int) (h : hasF (ofF kind).taken 0 = true) : kind = 1 := by
  rcases of_cases kind with h' | h'
  · rw [h'.1] at h; cases h
  · rcases h' with rfl | rfl | rfl | rfl | rfl | rfl | rfl | rfl | rfl | rfl | rfl <;> first | rfl | (revert h; decide)
end Go.Proofs

/- Plain laws on sides of a loan, second part. No condition. -/
namespace Go.Proofs
open Go Go.Ax Go.Tx Go.Il
set_option maxRecDepth 100000
theorem become_val (s : Side) (kind day : Int) : (becomeF s kind day).req = s.req ∧ (becomeF s kind day).ptn = s.ptn ∧ (becomeF s kind day).role = s.role ∧ (becomeF s kind day).rcd = s.rcd ∧ (becomeF s kind day).heard = s.heard ∧ (becomeF s kind day).sent = s.sent ∧ (becomeF s kind day).early = s.early := ⟨rfl, rfl, rfl, rfl, rfl, rfl, rfl⟩
theorem become_state (s : Side) (kind day : Int) (h : 0 ≤ s.state ∧ s.state ≤ 9) : (0 ≤ (becomeF s kind day).state ∧ (becomeF s kind day).state ≤ 9) ∧ (s.state ≠ 0 → (becomeF s kind day).state ≠ 0) := by
  have := kd_state kind
  simp only [becomeF]
  split
  · exact ⟨this, fun _ => by assumption⟩
  · exact ⟨h, fun q => q⟩
theorem become_due (s : Side) (kind day : Int) (h : 0 ≤ s.due ∧ s.due ≤ 109572) (hd : 0 ≤ day ∧ day ≤ 109572) : 0 ≤ (becomeF s kind day).due ∧ (becomeF s kind day).due ≤ 109572 := by
  simp only [becomeF, imin]
  split
  · exact hd
  · split
    · split <;> omega
    · exact h
theorem say_right (id : Int) (s : Side) (kind day : Int) (note : List UInt8) (hs : sideF s = 0) (hS : SmN s) (hn : note.length ≤ 100) (h : sayE id s kind day note = 0) : sideF (sayR id s kind day note) = 0 ∧ SmN (sayR id s kind day note) := by
  unfold sayR
  rw [decide_eq_true h, cond_true]
  unfold sayE at h
  cases h1 : allowF s.role s.state kind <;> rw [h1] at h
  · cases h
  by_cases h2 : 99 ≤ s.sent.length
  · rw [decide_eq_true h2] at h; cases h
  rw [decide_eq_false h2] at h
  have hm : msgF (sayM id s kind day note) = 0 := h
  obtain ⟨a1, a2, a3, a4, a5, a6, a7, a8, a9, a10, a11, a12⟩ := side_val hs
  obtain ⟨_, _, _, _, _, _, _, _, m9, _⟩ := msg_val hm
  have hst : s.state ≠ 0 := fun e => by
    rw [e] at h1
    unfold allowF at h1
    rw [kd_sent0, Bool.and_false] at h1
    cases h1
  obtain ⟨b1, b2⟩ := become_state s kind day a7
  have b3 := become_due s kind day a4 m9
  refine ⟨side_ok a1 a2 a3 b3 a5 a6 b1 ⟨fun q => absurd q (b2 hst), fun q => absurd (a8.2 q) hst⟩ ?_ a10 ?_ ?_, ⟨?_, hS.l2, ?_, hS.n2⟩⟩
  · show (s.sent ++ [sayM id s kind day note]).length ≤ 99
    simp; omega
  · show sentL _ 0 (s.sent ++ [sayM id s kind day note]) = true
    rw [sentL_app, sentL_congr (s := s) (t := sayS id s kind day note) rfl rfl, a11, Bool.true_and, decide_eq_true_eq]
    exact ⟨hm, by show (s.sent.length : Int) + 1 = _; omega, rfl, rfl⟩
  · exact (earlyL_congr (s := s) (t := sayS id s kind day note) rfl rfl rfl _ _).trans a12
  · show (s.sent ++ [sayM id s kind day note]).length ≤ 100000
    have := hS.l1
    simp; omega
  · intro m hm'
    rcases List.mem_append.1 (show m ∈ s.sent ++ [sayM id s kind day note] from hm') with q | q
    · exact hS.n1 m q
    · rw [List.mem_singleton.1 q]; show note.length ≤ _; omega
/-- The early list after a message came in. -/
theorem earlyL_ins (s : Side) (m : Msg) (hm : msgF m = 0) (h1 : (ofF m.kind).role = 3 - s.role) (h2 : m.kind ≠ 1) (h3 : m.frm = s.ptn) (h4 : m.req = s.req) : ∀ (l : List Msg) (last : Int), last < m.seq → earlyL s last l = true → atN l m.seq = false → earlyL s last (insL l m) = true
  | [], last, hl, _, _ => by
    show (decide _ && true) = true
    rw [Bool.and_true, decide_eq_true_eq]
    exact ⟨hm, h1, h2, h3, h4, hl⟩
  | x :: r, last, hl, he, ha => by
    rw [earlyL, Bool.and_eq_true, decide_eq_true_eq] at he
    obtain ⟨⟨e1, e2, e3, e4, e5, e6⟩, e7⟩ := he
    by_cases hx : x.seq < m.seq
    · have hlow : lowN (x :: r) m.seq = lowN r m.seq + 1 := by
        unfold lowN; rw [List.takeWhile_cons, if_pos (by simpa using hx)]; rfl
      have hat : atN r m.seq = false := by
        unfold atN at ha ⊢
        rw [hlow] at ha
        simpa using ha
      have hins : insL (x :: r) m = x :: insL r m := by
        unfold insL; rw [hlow]; rfl
      rw [hins, earlyL, Bool.and_eq_true, decide_eq_true_eq]
      exact ⟨⟨e1, e2, e3, e4, e5, e6⟩, earlyL_ins s m hm h1 h2 h3 h4 r x.seq hx e7 hat⟩
    · have hlow : lowN (x :: r) m.seq = 0 := by
        unfold lowN; rw [List.takeWhile_cons, if_neg (by simpa using hx)]; rfl
      have hne : x.seq ≠ m.seq := by
        unfold atN at ha
        rw [hlow] at ha
        simpa using ha
      have hins : insL (x :: r) m = m :: x :: r := by
        unfold insL; rw [hlow]; rfl
      rw [hins, earlyL, earlyL, Bool.and_eq_true, decide_eq_true_eq, Bool.and_eq_true, decide_eq_true_eq]
      exact ⟨⟨hm, h1, h2, h3, h4, hl⟩, ⟨e1, e2, e3, e4, e5, by omega⟩, e7⟩
theorem insL_len (l : List Msg) (m : Msg) : (insL l m).length = l.length + 1 := by
  have := lowN_le m.seq l
  simp [insL]; omega
theorem mem_insL {l : List Msg} {m x : Msg} (h : x ∈ insL l m) : x = m ∨ x ∈ l := by
  unfold insL at h
  rcases List.mem_append.1 h with h | h
  · rcases List.mem_append.1 h with h | h
    · exact .inr (List.mem_of_mem_take h)
    · exact .inl (List.mem_singleton.1 h)
  · exact .inr (List.mem_of_mem_drop h)
theorem fits_val {id : Int} {s : Side} {m : Msg} (h : fitsF id s m = true) : msgF m = 0 ∧ m.dst = id ∧ m.frm = s.ptn ∧ m.req = s.req ∧ (ofF m.kind).role = 3 - s.role ∧ (s.role = 1 ∨ (m.seq = 1 ↔ m.kind = 1)) := by
  unfold fitsF at h
  rw [Bool.and_eq_true, decide_eq_true_eq] at h
  obtain ⟨⟨h1, h2, h3, h4, h5⟩, h6⟩ := h
  refine ⟨h1, h2, h3, h4, h5, ?_⟩
  rw [Bool.or_eq_true, decide_eq_true_eq] at h6
  rcases h6 with h6 | h6
  · exact .inl h6
  · refine .inr ?_
    by_cases a : m.seq = 1 <;> by_cases b : m.kind = 1 <;> simp [a, b] at h6 ⊢
theorem take_val {s : Side} {m : Msg} (hs : (0 ≤ s.rcd ∧ s.rcd ≤ 9999) ∧ (0 ≤ s.due ∧ s.due ≤ 109572) ∧ (0 ≤ s.state ∧ s.state ≤ 9)) (hm : msgF m = 0) : ((0 ≤ (takeF s m).rcd ∧ (takeF s m).rcd ≤ 9999) ∧ (0 ≤ (takeF s m).due ∧ (takeF s m).due ≤ 109572) ∧ (0 ≤ (takeF s m).state ∧ (takeF s m).state ≤ 9)) ∧ (s.state ≠ 0 → (takeF s m).state ≠ 0) := by
  obtain ⟨_, _, _, _, _, _, m7, _, m9, _⟩ := msg_val hm
  obtain ⟨h1, h2, h3⟩ := hs
  have b1 := become_state { s with heard := s.heard + 1 } m.kind m.day h3
  have b2 := become_due { s with heard := s.heard + 1 } m.kind m.day h2 m9
  simp only [takeF]
  split
  · split
    · exact ⟨⟨m7, b2, b1.1⟩, b1.2⟩
    · exact ⟨⟨h1, b2, b1.1⟩, b1.2⟩
  · exact ⟨⟨h1, h2, h3⟩, fun q => q⟩
/-- What is right while the early messages are heard, one after the other. -/
def Mid (s : Side) (l : List Msg) : Prop :=
  (1 ≤ s.req ∧ s.req ≤ 9999) ∧ (1 ≤ s.ptn ∧ s.ptn ≤ 4) ∧ ((0 ≤ s.rcd ∧ s.rcd ≤ 9999) ∧ (0 ≤ s.due ∧ s.due ≤ 109572) ∧ (0 ≤ s.state ∧ s.state ≤ 9)) ∧ (1 ≤ s.heard ∧ s.heard ≤ 99) ∧ (s.role = 1 ∨ s.role = 2) ∧ s.state ≠ 0 ∧ s.sent.length ≤ 99 ∧ l.length ≤ 8 ∧ sentL s 0 s.sent = true ∧ earlyL s s.heard l = true
theorem earlyL_raise (s : Side) : ∀ (l : List Msg) (a b : Int), earlyL s a l = true → (∀ h : 0 < l.length, b < l[0].seq) → earlyL s b l = true
  | [], _, _, _, _ => rfl
  | m :: r, a, b, h, hb => by
    rw [earlyL, Bool.and_eq_true, decide_eq_true_eq] at h ⊢
    obtain ⟨⟨h1, h2, h3, h4, h5, h6⟩, h7⟩ := h
    exact ⟨⟨h1, h2, h3, h4, h5, hb (by simp)⟩, h7⟩
theorem drain_right : ∀ (l : List Msg) (s : Side), Mid s l → sideF (drain s l) = 0 ∧ (drain s l).sent = s.sent ∧ (drain s l).req = s.req ∧ (drain s l).ptn = s.ptn ∧ (drain s l).role = s.role ∧ s.heard ≤ (drain s l).heard ∧ (∀ x ∈ (drain s l).early, x ∈ l)
  | [], s, h => by
    obtain ⟨h1, h2, ⟨h3, h4, h5⟩, h6, h7, h8, h9, h10, h11, h12⟩ := h
    refine ⟨side_ok h1 h2 h3 h4 ⟨by show 0 ≤ s.heard; omega, h6.2⟩ h7 h5 ⟨fun q => absurd q h8, fun q => by have : s.heard = 0 := q.2; omega⟩ h9 (Nat.zero_le _) ((sentL_congr (s := s) (t := drain s []) rfl rfl _ _).trans h11) rfl, rfl, rfl, rfl, rfl, Int.le_refl _, fun x hx => hx⟩
  | m :: r, s, h => by
    obtain ⟨h1, h2, ⟨h3, h4, h5⟩, h6, h7, h8, h9, h10, h11, h12⟩ := h
    have h12' := h12
    rw [earlyL, Bool.and_eq_true, decide_eq_true_eq] at h12
    obtain ⟨⟨e1, e2, e3, e4, e5, e6⟩, e7⟩ := h12
    by_cases hq : m.seq = s.heard + 1
    · have hd : drain s (m :: r) = drain (takeF s m) r := by rw [drain, if_pos hq]
      obtain ⟨t1, t2, t3, t4, t5, t6⟩ := take_heard s m
      obtain ⟨v1, v2⟩ := take_val (m := m) ⟨h3, h4, h5⟩ e1
      have hq2 := msg_seq e1
      have ih := drain_right r (takeF s m) ⟨by rw [t5]; exact h1, by rw [t6]; exact h2, v1, by rw [t1]; omega, by rw [t4]; exact h7, v2 h8, by rw [t3]; exact h9, by simp at h10; omega, by rw [t3, sentL_congr (s := s) t6 t5]; exact h11, by
        rw [earlyL_congr (s := s) t6 t5 t4, t1, ← hq]; exact e7⟩
      rw [hd]
      rw [t3, t5, t6, t4, t1] at ih
      exact ⟨ih.1, ih.2.1, ih.2.2.1, ih.2.2.2.1, ih.2.2.2.2.1, by have := ih.2.2.2.2.2.1; omega, fun x hx => List.mem_cons_of_mem _ (ih.2.2.2.2.2.2 x hx)⟩
    · have hd : drain s (m :: r) = { s with early := m :: r } := by rw [drain, if_neg hq]
      rw [hd]
      refine ⟨side_ok h1 h2 h3 h4 ⟨by show 0 ≤ s.heard; omega, h6.2⟩ h7 h5 ⟨fun q => absurd q h8, fun q => by have : s.heard = 0 := q.2; omega⟩ h9 h10 ((sentL_congr (s := s) (t := { s with early := m :: r }) rfl rfl _ _).trans h11) ?_, rfl, rfl, rfl, rfl, Int.le_refl _, fun x hx => hx⟩
      show earlyL { s with early := m :: r } (s.heard + 1) (m :: r) = true
      rw [earlyL_congr (s := s) (t := { s with early := m :: r }) rfl rfl rfl]
      exact earlyL_raise s _ _ _ h12' fun _ => by show s.heard + 1 < m.seq; omega
theorem hear_mid {id : Int} {s : Side} {m : Msg} (hs : sideF s = 0) (hf : fitsF id s m = true) (hq : m.seq = s.heard + 1) : Mid (takeF s m) s.early := by
  obtain ⟨a1, a2, a3, a4, a5, a6, a7, a8, a9, a10, a11, a12⟩ := side_val hs
  obtain ⟨f1, f2, f3, f4, f5, f6⟩ := fits_val hf
  obtain ⟨t1, t2, t3, t4, t5, t6⟩ := take_heard s m
  obtain ⟨v1, v2⟩ := take_val (m := m) ⟨a3, a4, a7⟩ f1
  have hq2 := msg_seq f1
  refine ⟨by rw [t5]; exact a1, by rw [t6]; exact a2, v1, by rw [t1]; omega, by rw [t4]; exact a6, ?_, by rw [t3]; exact a9, a10, by rw [t3, sentL_congr (s := s) t6 t5]; exact a11, by rw [earlyL_congr (s := s) t6 t5 t4, t1]; exact a12⟩
  by_cases hst : s.state = 0
  · obtain ⟨r2, h0⟩ := a8.1 hst
    have hk : m.kind = 1 := by
      rcases f6 with f6 | f6
      · omega
      · exact f6.1 (by omega)
    have ht : (m.kind = 8 ∨ hasF (ofF m.kind).taken s.state = true) := .inr (by rw [hk, hst]; decide)
    simp only [takeF]
    rw [if_pos ht, if_pos hk]
    show (becomeF { s with heard := s.heard + 1 } m.kind m.day).state ≠ 0
    rw [hk]
    simp only [becomeF]
    rw [if_pos (by decide)]
    decide
  · exact v2 hst
theorem hear_right {id : Int} {s : Side} {m : Msg} (hs : sideF s = 0) (hS : SmN s) (hn : m.note.length ≤ 100) (h : hearE id s m = 0) :
    fitsF id s m = true ∧ sideF (hearS id s m) = 0 ∧ (hearS id s m).sent = s.sent ∧ (hearS id s m).req = s.req ∧ (hearS id s m).ptn = s.ptn ∧ (hearS id s m).role = s.role ∧ s.heard ≤ (hearS id s m).heard ∧ SmN (hearS id s m) := by
  cases hf : fitsF id s m with
  | false => simp [hearE, hf] at h
  | true =>
    refine ⟨rfl, ?_⟩
    obtain ⟨f1, f2, f3, f4, f5, f6⟩ := fits_val hf
    obtain ⟨a1, a2, a3, a4, a5, a6, a7, a8, a9, a10, a11, a12⟩ := side_val hs
    by_cases h1 : m.seq ≤ s.heard
    · have e : hearS id s m = s := by simp [hearS, hf, h1]
      rw [e]; exact ⟨hs, rfl, rfl, rfl, rfl, Int.le_refl _, hS⟩
    by_cases h2 : s.heard + 1 < m.seq
    · have e : hearS id s m = keepS s m := by simp [hearS, hf, h1, h2]
      have eE : keepE s m = 0 := by simpa [hearE, hf, h1, h2] using h
      rw [e]
      cases hat : atN s.early m.seq with
      | true =>
        have : keepS s m = s := by simp [keepS, hat]
        rw [this]; exact ⟨hs, rfl, rfl, rfl, rfl, Int.le_refl _, hS⟩
      | false =>
        by_cases h8 : 8 ≤ s.early.length
        · simp [keepE, hat, h8] at eE
        · have : keepS s m = { s with early := insL s.early m } := by simp [keepS, hat, h8]
          rw [this]
          have hk1 : m.kind ≠ 1 := by
            rcases f6 with f6 | f6
            · exact of_role m.kind (by rw [f5, f6]; rfl)
            · intro q; have := f6.2 q; omega
          refine ⟨side_ok a1 a2 a3 a4 a5 a6 a7 a8 a9 ?_ ((sentL_congr (s := s) (t := { s with early := insL s.early m }) rfl rfl _ _).trans a11) ?_, rfl, rfl, rfl, rfl, Int.le_refl _, ⟨hS.l1, ?_, hS.n1, ?_⟩⟩
          · show (insL s.early m).length ≤ 8
            rw [insL_len]; omega
          · show earlyL { s with early := insL s.early m } (s.heard + 1) (insL s.early m) = true
            rw [earlyL_congr (s := s) (t := { s with early := insL s.early m }) rfl rfl rfl]
            exact earlyL_ins s m f1 f5 hk1 f3 f4 _ _ h2 a12 hat
          · show (insL s.early m).length ≤ 100000
            rw [insL_len]; omega
          · intro x hx
            rcases mem_insL (show x ∈ insL s.early m from hx) with rfl | q
            · omega
            · exact hS.n2 x q
    · have hq : m.seq = s.heard + 1 := by omega
      have e : hearS id s m = drain (takeF s m) s.early := by simp [hearS, hf, h1, h2]
      rw [e]
      obtain ⟨t1, t2, t3, t4, t5, t6⟩ := take_heard s m
      obtain ⟨d1, d2, d3, d4, d5, d6, d7⟩ := drain_right s.early (takeF s m) (hear_mid hs hf hq)
      refine ⟨d1, by rw [d2, t3], by rw [d3, t5], by rw [d4, t6], by rw [d5, t4], by rw [t1] at d6; omega, ⟨by rw [d2, t3]; exact hS.l1, ?_, by rw [d2, t3]; exact hS.n1, fun x hx => hS.n2 x (d7 x hx)⟩⟩
      have := (side_val d1).2.2.2.2.2.2.2.2.2.1
      omega
end Go.Proofs

/- Plain laws on sides of a loan, third part: what is heard twice, and in two orders. No condition. -/
namespace Go.Proofs
open Go Go.Ax Go.Tx Go.Il
set_option maxRecDepth 100000
theorem fits_congr {id : Int} {s t : Side} {m : Msg} (h1 : t.req = s.req) (h2 : t.ptn = s.ptn) (h3 : t.role = s.role) : fitsF id t m = fitsF id s m := by
  unfold fitsF; rw [h1, h2, h3]
theorem insL_cons_lt {x m : Msg} {r : List Msg} (h : x.seq < m.seq) : insL (x :: r) m = x :: insL r m := by
  have hlow : lowN (x :: r) m.seq = lowN r m.seq + 1 := by
    unfold lowN; rw [List.takeWhile_cons, if_pos (by simpa using h)]; rfl
  unfold insL; rw [hlow]; rfl
theorem insL_cons_ge {x m : Msg} {r : List Msg} (h : ¬ x.seq < m.seq) : insL (x :: r) m = m :: x :: r := by
  have hlow : lowN (x :: r) m.seq = 0 := by
    unfold lowN; rw [List.takeWhile_cons, if_neg (by simpa using h)]; rfl
  unfold insL; rw [hlow]; rfl
theorem atN_cons_lt {x : Msg} {q : Int} {r : List Msg} (h : x.seq < q) : atN (x :: r) q = atN r q := by
  have hlow : lowN (x :: r) q = lowN r q + 1 := by
    unfold lowN; rw [List.takeWhile_cons, if_pos (by simpa using h)]; rfl
  unfold atN; rw [hlow]; rfl
theorem atN_cons_ge {x : Msg} {q : Int} {r : List Msg} (h : ¬ x.seq < q) : atN (x :: r) q = decide (x.seq = q) := by
  have hlow : lowN (x :: r) q = 0 := by
    unfold lowN; rw [List.takeWhile_cons, if_neg (by simpa using h)]; rfl
  unfold atN; rw [hlow]; rfl
theorem atN_ins : ∀ (l : List Msg) (m : Msg), atN (insL l m) m.seq = true
  | [], m => by show atN [m] m.seq = true; rw [atN_cons_ge (by omega), decide_eq_true rfl]
  | x :: r, m => by
    by_cases h : x.seq < m.seq
    · rw [insL_cons_lt h, atN_cons_lt h, atN_ins r m]
    · rw [insL_cons_ge h, atN_cons_ge (by omega), decide_eq_true rfl]
theorem atN_ins_ne : ∀ (l : List Msg) (m : Msg) (q : Int), m.seq ≠ q → atN l q = true → atN (insL l m) q = true
  | [], m, q, _, h => by cases h
  | x :: r, m, q, hne, h => by
    by_cases hx : x.seq < m.seq
    · rw [insL_cons_lt hx]
      by_cases hq : x.seq < q
      · rw [atN_cons_lt hq] at h ⊢; exact atN_ins_ne r m q hne h
      · rw [atN_cons_ge hq] at h ⊢; exact h
    · rw [insL_cons_ge hx]
      by_cases hq : m.seq < q
      · rw [atN_cons_lt hq]; exact h
      · by_cases hq2 : x.seq < q
        · omega
        · rw [atN_cons_ge hq2, decide_eq_true_eq] at h; omega
theorem atN_ins_ne' : ∀ (l : List Msg) (m : Msg) (q : Int), m.seq ≠ q → atN l q = false → atN (insL l m) q = false
  | [], m, q, hne, h => by
    show atN [m] q = false
    by_cases hq : m.seq < q
    · rw [atN_cons_lt hq]; rfl
    · rw [atN_cons_ge hq, decide_eq_false hne]
  | x :: r, m, q, hne, h => by
    by_cases hx : x.seq < m.seq
    · rw [insL_cons_lt hx]
      by_cases hq : x.seq < q
      · rw [atN_cons_lt hq] at h ⊢; exact atN_ins_ne' r m q hne h
      · rw [atN_cons_ge hq] at h ⊢; exact h
    · rw [insL_cons_ge hx]
      by_cases hq : m.seq < q
      · rw [atN_cons_lt hq]; exact h
      · rw [atN_cons_ge hq, decide_eq_false hne]
theorem insL_comm : ∀ (l : List Msg) (m n : Msg), m.seq ≠ n.seq → insL (insL l m) n = insL (insL l n) m
  | [], m, n, hne => by
    show insL [m] n = insL [n] m
    by_cases h : m.seq < n.seq
    · rw [insL_cons_lt h, insL_cons_ge (by omega)]; rfl
    · rw [insL_cons_ge h, insL_cons_lt (by omega)]; rfl
  | x :: r, m, n, hne => by
    by_cases hm : x.seq < m.seq <;> by_cases hn : x.seq < n.seq
    · rw [insL_cons_lt hm, insL_cons_lt hn, insL_cons_lt hn, insL_cons_lt hm, insL_comm r m n hne]
    · rw [insL_cons_lt hm, insL_cons_ge hn, insL_cons_ge hn, insL_cons_lt (by omega), insL_cons_lt hm]
    · rw [insL_cons_ge hm, insL_cons_lt hn, insL_cons_lt (by omega), insL_cons_lt hn, insL_cons_ge hm]
    · rw [insL_cons_ge hm, insL_cons_ge hn]
      by_cases h : m.seq < n.seq
      · rw [insL_cons_lt h, insL_cons_ge hn, insL_cons_ge (by omega)]
      · rw [insL_cons_ge h, insL_cons_lt (by omega), insL_cons_ge hm]
theorem hear_twice {id : Int} {s : Side} {m : Msg} (hs : sideF s = 0) (hS : SmN s) (hn : m.note.length ≤ 100) (h : hearE id s m = 0) : hearE id (hearS id s m) m = 0 ∧ hearS id (hearS id s m) m = hearS id s m := by
  obtain ⟨hf, r1, r2, r3, r4, r5, r6, r7⟩ := hear_right hs hS hn h
  have hf' : fitsF id (hearS id s m) m = true := by rw [fits_congr r3 r4 r5]; exact hf
  by_cases h1 : m.seq ≤ (hearS id s m).heard
  · exact ⟨by simp [hearE, hf', h1], by rw [hearS.eq_1 id (hearS id s m) m]; simp [hf', h1]⟩
  by_cases h2 : s.heard + 1 < m.seq
  · have h3 : ¬ m.seq ≤ s.heard := by omega
    have e : hearS id s m = keepS s m := by simp [hearS, hf, h3, h2]
    have eE : keepE s m = 0 := by simpa [hearE, hf, h3, h2] using h
    have hat : atN (keepS s m).early m.seq = true ∧ (keepS s m).heard = s.heard := by
      cases ha : atN s.early m.seq with
      | true => have : keepS s m = s := by simp [keepS, ha]
                rw [this]; exact ⟨ha, rfl⟩
      | false =>
        by_cases h8 : 8 ≤ s.early.length
        · simp [keepE, ha, h8] at eE
        · have : keepS s m = { s with early := insL s.early m } := by simp [keepS, ha, h8]
          rw [this]; exact ⟨atN_ins _ _, rfl⟩
    rw [e] at h1 hf' ⊢
    have h4 : (keepS s m).heard + 1 < m.seq := by rw [hat.2]; exact h2
    exact ⟨by simp [hearE, hf', h1, h4, keepE, hat.1], by rw [hearS.eq_1]; simp only [hf', Bool.not_true, cond_false]; rw [decide_eq_false h1, cond_false, decide_eq_true h4, cond_true, keepS.eq_1, hat.1, cond_true]⟩
  · exfalso
    by_cases h3 : m.seq ≤ s.heard
    · have e : hearS id s m = s := by simp [hearS, hf, h3]
      rw [e] at h1; exact h1 h3
    · have e : hearS id s m = drain (takeF s m) s.early := by simp [hearS, hf, h3, h2]
      obtain ⟨t1, _⟩ := take_heard s m
      have := (drain_right s.early (takeF s m) (hear_mid hs hf (by omega))).2.2.2.2.2.1
      rw [e] at h1
      omega
theorem drain_mono : ∀ (l : List Msg) (t : Side), t.heard ≤ (drain t l).heard ∧ (drain t l).req = t.req ∧ (drain t l).ptn = t.ptn ∧ (drain t l).role = t.role
  | [], _ => ⟨Int.le_refl _, rfl, rfl, rfl⟩
  | z :: r, t => by
    by_cases h : z.seq = t.heard + 1
    · have e : drain t (z :: r) = drain (takeF t z) r := by rw [drain, if_pos h]
      obtain ⟨t1, _, _, t4, t5, t6⟩ := take_heard t z
      have := drain_mono r (takeF t z)
      rw [e]
      rw [t1, t4, t5, t6] at this
      exact ⟨by omega, this.2⟩
    · have e : drain t (z :: r) = { t with early := z :: r } := by rw [drain, if_neg h]
      rw [e]; exact ⟨Int.le_refl _, rfl, rfl, rfl⟩
theorem drain_at (q : Int) : ∀ (l : List Msg) (t : Side), earlyL t t.heard l = true → atN l q = true → q ≤ (drain t l).heard ∨ ((drain t l).heard + 1 < q ∧ atN (drain t l).early q = true)
  | [], _, _, h => by cases h
  | z :: r, t, he, h => by
    rw [earlyL, Bool.and_eq_true, decide_eq_true_eq] at he
    obtain ⟨⟨_, _, _, _, _, e6⟩, e7⟩ := he
    by_cases hz : z.seq = t.heard + 1
    · have e : drain t (z :: r) = drain (takeF t z) r := by rw [drain, if_pos hz]
      obtain ⟨t1, _, _, t4, t5, t6⟩ := take_heard t z
      rw [e]
      by_cases hq : z.seq < q
      · rw [atN_cons_lt hq] at h
        exact drain_at q r (takeF t z) (by rw [earlyL_congr (s := t) t6 t5 t4, t1, ← hz]; exact e7) h
      · rw [atN_cons_ge hq, decide_eq_true_eq] at h
        have := (drain_mono r (takeF t z)).1
        left; omega
    · have e : drain t (z :: r) = { t with early := z :: r } := by rw [drain, if_neg hz]
      rw [e]
      right
      refine ⟨?_, h⟩
      show t.heard + 1 < q
      by_cases hq : z.seq < q
      · omega
      · rw [atN_cons_ge hq, decide_eq_true_eq] at h; omega
theorem drain_ins (n : Msg) : ∀ (l : List Msg) (t : Side), earlyL t t.heard l = true → t.heard < n.seq → atN l n.seq = false →
    (drain t l).heard < n.seq ∧ ((drain t l).heard + 1 = n.seq → drain t (insL l n) = drain (takeF (drain t l) n) (drain t l).early) ∧ ((drain t l).heard + 1 < n.seq → drain t (insL l n) = { drain t l with early := insL (drain t l).early n } ∧ atN (drain t l).early n.seq = false)
  | [], t, _, hn, ha => by
    have e : drain t [] = { t with early := [] } := rfl
    have e2 : drain t (insL [] n) = if n.seq = t.heard + 1 then drain (takeF t n) [] else { t with early := [n] } := rfl
    rw [e]
    refine ⟨hn, fun h => ?_, fun h => ⟨?_, rfl⟩⟩
    · have h : t.heard + 1 = n.seq := h
      rw [e2, if_pos h.symm]
      show _ = drain (takeF { t with early := [] } n) []
      rw [take_early t n []]
      exact (drain_early [] (takeF t n) []).symm
    · have h : t.heard + 1 < n.seq := h
      rw [e2, if_neg (by omega)]; rfl
  | z :: r, t, he, hn, ha => by
    rw [earlyL, Bool.and_eq_true, decide_eq_true_eq] at he
    obtain ⟨⟨_, _, _, _, _, e6⟩, e7⟩ := he
    by_cases hz : z.seq = t.heard + 1
    · have hzn : z.seq < n.seq := by
        by_cases h : z.seq < n.seq
        · exact h
        · rw [atN_cons_ge h, decide_eq_false_iff_not] at ha; omega
      rw [atN_cons_lt hzn] at ha
      have e : drain t (z :: r) = drain (takeF t z) r := by rw [drain, if_pos hz]
      have e2 : drain t (insL (z :: r) n) = drain (takeF t z) (insL r n) := by rw [insL_cons_lt hzn, drain, if_pos hz]
      obtain ⟨t1, _, _, t4, t5, t6⟩ := take_heard t z
      rw [e, e2]
      exact drain_ins n r (takeF t z) (by rw [earlyL_congr (s := t) t6 t5 t4, t1, ← hz]; exact e7) (by omega) ha
    · have e : drain t (z :: r) = { t with early := z :: r } := by rw [drain, if_neg hz]
      rw [e]
      refine ⟨hn, fun h => ?_, fun h => ⟨?_, ha⟩⟩
      · have h : t.heard + 1 = n.seq := h
        show drain t (insL (z :: r) n) = drain (takeF { t with early := z :: r } n) (z :: r)
        rw [insL_cons_ge (by omega), take_early t n (z :: r), drain, if_pos h.symm]
        exact (drain_early (z :: r) (takeF t n) (z :: r)).symm
      · have h : t.heard + 1 < n.seq := h
        show drain t (insL (z :: r) n) = { t with early := insL (z :: r) n }
        by_cases hzn : z.seq < n.seq
        · rw [insL_cons_lt hzn, drain, if_neg hz]
        · rw [insL_cons_ge hzn, drain, if_neg (by omega)]
theorem hearS_le {id : Int} {s : Side} {m : Msg} (hf : fitsF id s m = true) (h : m.seq ≤ s.heard) : hearS id s m = s ∧ hearE id s m = 0 := ⟨by simp [hearS, hf, h], by simp [hearE, hf, h]⟩
theorem hearS_gt {id : Int} {s : Side} {m : Msg} (hf : fitsF id s m = true) (h : s.heard + 1 < m.seq) : hearS id s m = keepS s m ∧ hearE id s m = keepE s m := by
  have : ¬ m.seq ≤ s.heard := by omega
  exact ⟨by simp [hearS, hf, h, this], by simp [hearE, hf, h, this]⟩
theorem hearS_eq {id : Int} {s : Side} {m : Msg} (hf : fitsF id s m = true) (h : m.seq = s.heard + 1) : hearS id s m = drain (takeF s m) s.early ∧ hearE id s m = 0 := by
  have h1 : ¬ m.seq ≤ s.heard := by omega
  have h2 : ¬ s.heard + 1 < m.seq := by omega
  exact ⟨by simp [hearS, hf, h1, h2], by simp [hearE, hf, h1, h2]⟩
theorem keep_at {s : Side} {m : Msg} (h : atN s.early m.seq = true) : keepS s m = s ∧ keepE s m = 0 := ⟨by simp [keepS, h], by simp [keepE, h]⟩
theorem keep_ins {s : Side} {m : Msg} (h : atN s.early m.seq = false) (he : keepE s m = 0) : keepS s m = { s with early := insL s.early m } := by
  by_cases h8 : 8 ≤ s.early.length
  · simp [keepE, h, h8] at he
  · simp [keepS, h, h8]
theorem hear_order_lt {id : Int} {s : Side} {m n : Msg} (hs : sideF s = 0) (hS : SmN s) (hm : m.note.length ≤ 100) (hn : n.note.length ≤ 100) (hlt : m.seq < n.seq) (e1 : hearE id s m = 0) (e2 : hearE id s n = 0)
    (e3 : hearE id (hearS id s m) n = 0) (e4 : hearE id (hearS id s n) m = 0) : hearS id (hearS id s m) n = hearS id (hearS id s n) m := by
  obtain ⟨fm, a1, a2, a3, a4, a5, a6, a7⟩ := hear_right hs hS hm e1
  obtain ⟨fn, b1, b2, b3, b4, b5, b6, b7⟩ := hear_right hs hS hn e2
  have fan : fitsF id (hearS id s m) n = true := by rw [fits_congr a3 a4 a5]; exact fn
  have fbm : fitsF id (hearS id s n) m = true := by rw [fits_congr b3 b4 b5]; exact fm
  by_cases h1 : m.seq ≤ s.heard
  · rw [(hearS_le fm h1).1, (hearS_le fbm (by omega)).1]
  by_cases h2 : m.seq = s.heard + 1
  · have hmid := hear_mid hs fm h2
    obtain ⟨t1, t2, t3, t4, t5, t6⟩ := take_heard s m
    have hmid' : earlyL (takeF s m) (takeF s m).heard s.early = true := hmid.2.2.2.2.2.2.2.2.2
    have ea := (hearS_eq fm h2).1
    have eb := (hearS_gt fn (by omega)).1
    have ebE := (hearS_gt fn (by omega)).2
    rw [e2] at ebE
    rw [ea] at fan e3 ⊢
    cases hat : atN s.early n.seq with
    | true =>
      rw [(keep_at hat).1] at eb
      rw [eb, ea]
      rcases drain_at n.seq s.early (takeF s m) hmid' hat with h | ⟨h, h'⟩
      · exact (hearS_le fan h).1
      · rw [(hearS_gt fan h).1, (keep_at h').1]
    | false =>
      rw [keep_ins hat ebE.symm] at eb
      have hb : hearS id (hearS id s n) m = drain (takeF s m) (insL s.early n) := by
        rw [eb] at fbm ⊢
        rw [(hearS_eq fbm h2).1]
        show drain (takeF { s with early := insL s.early n } m) (insL s.early n) = _
        rw [take_early s m (insL s.early n)]
        exact drain_early (insL s.early n) (takeF s m) (insL s.early n)
      rw [hb]
      obtain ⟨d1, d2, d3⟩ := drain_ins n s.early (takeF s m) hmid' (by omega) hat
      by_cases h3 : (drain (takeF s m) s.early).heard + 1 = n.seq
      · rw [(hearS_eq fan h3.symm).1, d2 h3]
      · have h4 : (drain (takeF s m) s.early).heard + 1 < n.seq := by omega
        obtain ⟨d4, d5⟩ := d3 h4
        have eE := (hearS_gt fan h4).2
        rw [e3] at eE
        rw [(hearS_gt fan h4).1, keep_ins d5 eE.symm, d4]
  · have h3 : s.heard + 1 < m.seq := by omega
    have h4 : s.heard + 1 < n.seq := by omega
    have ea := hearS_gt fm h3
    have eb := hearS_gt fn h4
    rw [e1] at ea
    rw [e2] at eb
    rw [ea.1] at fan e3 ⊢
    rw [eb.1] at fbm e4 ⊢
    cases hx : atN s.early m.seq with
    | true =>
      have ea' := (keep_at hx).1
      rw [ea', eb.1]
      cases hy : atN s.early n.seq with
      | true => rw [(keep_at hy).1, (hearS_gt fm h3).1, ea']
      | false =>
        have eb' := keep_ins hy eb.2.symm
        rw [eb'] at fbm ⊢
        rw [(hearS_gt fbm h3).1]
        exact ((keep_at (atN_ins_ne _ _ _ (by omega) hx)).1).symm
    | false =>
      have ea' := keep_ins hx ea.2.symm
      cases hy : atN s.early n.seq with
      | true =>
        have eb' := (keep_at hy).1
        rw [eb', ea.1, ea']
        rw [ea'] at fan
        rw [(hearS_gt fan h4).1]
        exact (keep_at (atN_ins_ne _ _ _ (by omega) hy)).1
      | false =>
        have eb' := keep_ins hy eb.2.symm
        rw [ea'] at fan e3 ⊢
        rw [eb'] at fbm e4 ⊢
        have q1 := hearS_gt fan h4
        have q2 := hearS_gt fbm h3
        rw [e3] at q1
        rw [e4] at q2
        rw [q1.1, q2.1, keep_ins (atN_ins_ne' _ _ _ (by omega) hy) q1.2.symm, keep_ins (atN_ins_ne' _ _ _ (by omega) hx) q2.2.symm]
        show ({ s with early := insL (insL s.early m) n } : Side) = { s with early := insL (insL s.early n) m }
        rw [insL_comm _ _ _ (by omega)]
theorem hear_order {id : Int} {s : Side} {m n : Msg} (hs : sideF s = 0) (hS : SmN s) (hm : m.note.length ≤ 100) (hn : n.note.length ≤ 100) (hne : m.seq ≠ n.seq) (e1 : hearE id s m = 0) (e2 : hearE id s n = 0)
    (e3 : hearE id (hearS id s m) n = 0) (e4 : hearE id (hearS id s n) m = 0) : hearS id (hearS id s m) n = hearS id (hearS id s n) m := by
  by_cases h : m.seq < n.seq
  · exact hear_order_lt hs hS hm hn h e1 e2 e3 e4
  · exact (hear_order_lt hs hS hn hm (by omega) e2 e1 e4 e3).symm
end Go.Proofs

/- Walks of the chapters on loans between libraries, twenty-second part: the statements. No condition. -/
namespace Go.Proofs
open Go Go.Ax Go.Tx Go.Il
set_option maxRecDepth 100000
theorem small_len {s : Side} (h : smallF s = true) : s.sent.length ≤ 120 ∧ s.early.length ≤ 20 := by
  unfold smallF at h
  simp only [Bool.and_eq_true, decide_eq_true_eq] at h
  exact ⟨h.1.1.1, h.1.1.2⟩
theorem early_kind {s : Side} (h : sideF s = 0) : ∀ x ∈ s.early, 1 ≤ x.kind ∧ x.kind ≤ 11 := by
  obtain ⟨_, _, _, _, _, _, _, _, _, _, _, h4⟩ := side_val h
  exact fun x hx => msg_kind ((early_asc s _ _ h4).1 x hx).2
theorem hear_bad {id : Int} {s : Side} {m : Msg} (h : hearE id s m ≠ 0) : hearS id s m = side0 := by
  cases h0 : fitsF id s m with
  | false => simp [hearS, h0]
  | true =>
    by_cases h1 : m.seq ≤ s.heard
    · simp [hearE, h0, h1] at h
    · by_cases h2 : s.heard + 1 < m.seq
      · simp only [hearE, hearS, h0, h1, h2, Bool.not_true, cond_false, cond_true, decide_true, decide_false] at h ⊢
        cases h3 : atN s.early m.seq with
        | true => simp [keepE, h3] at h
        | false => by_cases h4 : 8 ≤ s.early.length <;> simp [keepE, keepS, h3, h4] at h ⊢
      · simp [hearE, h0, h1, h2] at h
theorem c4 (id : Int) (s : Side) (m : Msg) : AFn Tryd.prog Γ0 4 [.c (.d (.int .i64 id)), .agg (s.ds.map C.d), .agg (m.ds.map C.d)] [.d (.bool true)] := by
  refine AFn.vc [] Tryd.func4 rfl Tryd.mixed (by kernel_rfl) Tryd.ntmps4 Tryd.results4 (by simp) ?_
  push_cast
  refine CallL.q c19 ?_
  push_cast
  refine CallL.q (c22 s) ?_
  push_cast
  rintro ⟨h1, h2⟩ h3
  have hS := smallN h1
  obtain ⟨l1, l2⟩ := small_len h1
  refine CallL.q (c23 id s m (hearK_of h2) (by omega)) ?_
  push_cast
  refine ⟨fun h4 => ?_, fun h4 => ?_⟩
  · rw [hear_bad h4]
    refine CallL.q (c24 side0 side0 (by decide) (by decide) (by decide) (by decide)) ?_
    push_cast
  · obtain ⟨r0, r1, r2, r3, r4, r5, r6, r7⟩ := hear_right h2 hS (by omega) h4
    obtain ⟨t1, t2⟩ := hear_twice h2 hS (by omega) h4
    refine CallL.q (c23 id (hearS id s m) m (hearK_of r1) (by omega)) ?_
    push_cast
    rw [t1, t2]
    have := r7.l1
    have := r7.l2
    refine ⟨fun _ => ?_, fun h => absurd rfl h⟩
    refine CallL.q (c24 (hearS id s m) (hearS id s m) (by omega) (by omega) (by omega) (by omega)) ?_
    push_cast
structure Two where
  id : Int
  m : Msg
  n : Msg
def Two.ds (t : Two) : List D := [.int .i64 t.id, .int .i64 t.m.frm, .int .i64 t.m.dst, .int .i64 t.m.req, .int .i64 t.m.seq, .int .i64 t.m.kind, .int .i64 t.m.rcd, .int .i64 t.m.day, .str t.m.note, .int .i64 t.n.frm, .int .i64 t.n.dst, .int .i64 t.n.req, .int .i64 t.n.seq, .int .i64 t.n.kind, .int .i64 t.n.rcd, .int .i64 t.n.day, .str t.n.note]
attribute [push_cast] Two.ds
theorem c5 (s : Side) (t : Two) : AFn Tryd.prog Γ0 5 [.agg (s.ds.map C.d), .agg (t.ds.map C.d)] [.d (.bool true)] := by
  refine AFn.vc [] Tryd.func5 rfl Tryd.mixed (by kernel_rfl) Tryd.ntmps5 Tryd.results5 (by simp) ?_
  push_cast
  refine CallL.q c19 ?_
  push_cast
  refine CallL.q (c22 s) ?_
  push_cast
  rintro ⟨h1, h2⟩ h3 h4 h5
  have hS := smallN h1
  obtain ⟨l1, l2⟩ := small_len h1
  refine CallL.q (c23 t.id s t.m (hearK_of h2) (by omega)) ?_
  push_cast
  refine CallL.q (c23 t.id s t.n (hearK_of h2) (by omega)) ?_
  push_cast
  intro e1 e2
  obtain ⟨q0, q1, q2, q3, q4, q5, q6, q7⟩ := hear_right h2 hS (by omega) e1
  obtain ⟨r0, r1, r2, r3, r4, r5, r6, r7⟩ := hear_right h2 hS (by omega) e2
  refine CallL.q (c23 t.id (hearS t.id s t.m) t.n (hearK_of q1) (by omega)) ?_
  push_cast
  refine CallL.q (c23 t.id (hearS t.id s t.n) t.m (hearK_of r1) (by omega)) ?_
  push_cast
  intro e3 e4
  have := q7.l1
  have := q7.l2
  have hE := hear_order h2 hS (by omega) (by omega) h5 e1 e2 e3 e4
  have f7 := (hear_right q1 q7 (by omega) e3).2.2.2.2.2.2.2
  have g1 := f7.l1
  have g2 := f7.l2
  rw [← hE]
  refine CallL.q (c24 (hearS t.id (hearS t.id s t.m) t.n) (hearS t.id (hearS t.id s t.m) t.n) (by omega) (by omega) (by omega) (by omega)) ?_
  push_cast
theorem c6 (s : Side) : AFn Tryd.prog Γ0 6 [.agg (s.ds.map C.d)] [.d (.bool true)] := by
  refine AFn.vc [] Tryd.func6 rfl Tryd.mixed (by kernel_rfl) Tryd.ntmps6 Tryd.results6 (by simp) ?_
  push_cast
  refine CallL.q c19 ?_
  push_cast
  refine CallX.q (c25 s) ?_
  push_cast
  intro h1
  have hS := smallN h1
  refine CallX.q (c26 s hS) ?_
  push_cast
  refine CallX.q (c27 s hS) ?_
  push_cast
  refine CallX.q (c28 s) ?_
  push_cast
  refine CallX.q (c29 s) ?_
  push_cast
structure Req where
  id : Int
  req : Int
  ptn : Int
  rcd : Int
  day : Int
def Req.ds (q : Req) : List D := [.int .i64 q.id, .int .i64 q.req, .int .i64 q.ptn, .int .i64 q.rcd, .int .i64 q.day]
attribute [push_cast] Req.ds
theorem askR_small (id rq pt rc dy : Int) : (askR id rq pt rc dy).sent.length ≤ 1 ∧ (askR id rq pt rc dy).early.length ≤ 1 := by
  unfold askR
  cases decide (askE id rq pt rc dy = 0)
  · exact ⟨Nat.zero_le _, Nat.zero_le _⟩
  · exact ⟨Nat.le_refl _, Nat.zero_le _⟩
theorem c7 (q : Req) : AFn Tryd.prog Γ0 7 [.agg (q.ds.map C.d)] [.d (.bool true)] := by
  refine AFn.vc [] Tryd.func7 rfl Tryd.mixed (by kernel_rfl) Tryd.ntmps7 Tryd.results7 (by simp) ?_
  push_cast
  refine CallL.q c19 ?_
  push_cast
  refine CallL.q (c30 q.id q.req q.ptn q.rcd q.day) ?_
  push_cast
  refine CallL.q (c31 q.id q.req q.ptn q.rcd q.day) ?_
  push_cast
  have hl := askR_small q.id q.req q.ptn q.rcd q.day
  refine CallL.q (c24 (askR q.id q.req q.ptn q.rcd q.day) (askR q.id q.req q.ptn q.rcd q.day) (by omega) (by omega) (by omega) (by omega)) ?_
  push_cast
  intro h1
  obtain ⟨r1, _, _, r2⟩ := ask_right q.id q.req q.ptn q.rcd q.day h1
  refine CallL.q (c26 (askR q.id q.req q.ptn q.rcd q.day) r2) ?_
  push_cast
  rw [r1]
structure Word where
  id : Int
  kind : Int
  day : Int
  note : List UInt8
def Word.ds (w : Word) : List D := [.int .i64 w.id, .int .i64 w.kind, .int .i64 w.day, .str w.note]
attribute [push_cast] Word.ds
theorem sayR_small (id : Int) (s : Side) (kind day : Int) (note : List UInt8) (h1 : s.sent.length ≤ 120) (h2 : s.early.length ≤ 20) : (sayR id s kind day note).sent.length ≤ 1000 ∧ (sayR id s kind day note).early.length ≤ 1000 := by
  unfold sayR
  cases decide (sayE id s kind day note = 0)
  · exact ⟨Nat.zero_le _, Nat.zero_le _⟩
  · refine ⟨?_, ?_⟩
    · show (s.sent ++ [sayM id s kind day note]).length ≤ 1000
      simp; omega
    · show s.early.length ≤ 1000
      omega
theorem c8 (s : Side) (w : Word) : AFn Tryd.prog Γ0 8 [.agg (s.ds.map C.d), .agg (w.ds.map C.d)] [.d (.bool true)] := by
  refine AFn.vc [] Tryd.func8 rfl Tryd.mixed (by kernel_rfl) Tryd.ntmps8 Tryd.results8 (by simp) ?_
  push_cast
  refine CallL.q c19 ?_
  push_cast
  refine CallL.q (c22 s) ?_
  push_cast
  rintro ⟨h1, h2⟩ h3
  have hS := smallN h1
  obtain ⟨l1, l2⟩ := small_len h1
  refine CallL.q (c32 w.id s w.kind w.day w.note (by omega) (by omega)) ?_
  push_cast
  refine CallL.q (c33 w.id s w.kind w.day w.note (by omega) (by omega)) ?_
  push_cast
  obtain ⟨k1, k2⟩ := sayR_small w.id s w.kind w.day w.note l1 l2
  refine CallL.q (c24 (sayR w.id s w.kind w.day w.note) (sayR w.id s w.kind w.day w.note) (by omega) (by omega) (by omega) (by omega)) ?_
  push_cast
  intro h4
  obtain ⟨r1, r2⟩ := say_right w.id s w.kind w.day w.note h2 hS (by omega) h4
  refine CallL.q (c26 (sayR w.id s w.kind w.day w.note) r2) ?_
  push_cast
  rw [r1]
theorem c9 (id : Int) (s : Side) (m : Msg) : AFn Tryd.prog Γ0 9 [.c (.d (.int .i64 id)), .agg (s.ds.map C.d), .agg (m.ds.map C.d)] [.d (.bool true)] := by
  refine AFn.vc [] Tryd.func9 rfl Tryd.mixed (by kernel_rfl) Tryd.ntmps9 Tryd.results9 (by simp) ?_
  push_cast
  refine CallL.q c19 ?_
  push_cast
  refine CallL.q (c22 s) ?_
  push_cast
  rintro ⟨h1, h2⟩ h3
  have hS := smallN h1
  obtain ⟨l1, l2⟩ := small_len h1
  refine CallL.q (c23 id s m (hearK_of h2) (by omega)) ?_
  push_cast
  refine CallL.q (c34 id s m (hearK_of h2) (early_kind h2) (by omega)) ?_
  push_cast
  have hl : (hearS id s m).sent.length ≤ 100000 ∧ (hearS id s m).early.length ≤ 100000 := by
    by_cases h4 : hearE id s m = 0
    · have := (hear_right h2 hS (by omega) h4).2.2.2.2.2.2.2
      exact ⟨this.l1, this.l2⟩
    · rw [hear_bad h4]; exact ⟨by decide, by decide⟩
  refine CallL.q (c24 (hearS id s m) (hearS id s m) (by omega) (by omega) (by omega) (by omega)) ?_
  push_cast
  intro h4
  obtain ⟨r0, r1, r2, r3, r4, r5, r6, r7⟩ := hear_right h2 hS (by omega) h4
  refine CallL.q (c26 (hearS id s m) r7) ?_
  push_cast
  refine ⟨fun _ => ?_, fun h => absurd r1 h⟩
  refine CallL.q (c35 (hearS id s m).sent s.sent (by omega) (by omega)) ?_
  push_cast
  exact r2
theorem c10 (id : Int) (m : Msg) : AFn Tryd.prog Γ0 10 [.c (.d (.int .i64 id)), .agg (m.ds.map C.d)] [.d (.bool true)] := by
  refine AFn.vc [] Tryd.func10 rfl Tryd.mixed (by kernel_rfl) Tryd.ntmps10 Tryd.results10 (by simp) ?_
  push_cast
  refine CallL.q c19 ?_
  push_cast
  intro h3
  refine CallL.q (c36 id m (by omega)) ?_
  push_cast
  refine CallL.q (c37 id m (by omega)) ?_
  push_cast
  have hl : (openR id m).sent.length ≤ 1 ∧ (openR id m).early.length ≤ 1 := by
    unfold openR
    cases decide (openE id m = 0) <;> exact ⟨Nat.zero_le _, Nat.zero_le _⟩
  refine CallL.q (c24 (openR id m) (openR id m) (by omega) (by omega) (by omega) (by omega)) ?_
  push_cast
  intro h4
  obtain ⟨r1, r2⟩ := open_right id m h4
  refine CallL.q (c26 (openR id m) r2) ?_
  push_cast
  rw [r1]
end Go.Proofs
