/- Part of a proof about this program; no condition of its own. -/
import Derived.Test.YtanbfhnmklhjiaaGreatDoorGxM
import Derived.DeepKeys5
set_option linter.all false
/- Maps whose keys are arrays of two cells. No condition. -/
namespace Go.Ax
open Go Go.RowKit
open Go.Maps (Keyed)
variable {P : Program}
theorem MapT.arr2i {t K E e : TypeId} {q : IntKind} (hl : laidOutB P = true) (hsmall : P.types.size + 2 ≤ 10000) (hrow : K < P.types.size) (ht : P.underlying t = some (.map K E)) (hK : P.underlying K = some (.array 2 e)) (he : P.underlying e = some (.int q)) (hkt : P.keyType K = true)
    (hcK : P.cellsOf K = 2) (hce : P.cellsOf e = 1) (hE : P.underlying E = some (.int .i64)) (hz : ∀ w, (zeroValue E).run P w = .ok (.int .i64 0) w) : MapT P t [.int q, .int q] :=
  ⟨K, E, ht, hE, hz, Keyed.of_law (deep_law_gate hl hsmall hrow hkt (by rw [hK])), fun ks hf => by
    match ks, hf with
    | [.int a m, .int b n], hf =>
      obtain ⟨⟨rfl, h1⟩, ⟨rfl, h2⟩, _⟩ := hf
      have hsz : ∃ k, P.types.size = k + 1 := ⟨P.types.size - 1, (Nat.succ_pred_eq_of_pos (Nat.lt_of_le_of_lt (Nat.zero_le _) hrow)).symm⟩
      obtain ⟨k, hk⟩ := hsz
      simp [keyOf, hK, hkt, keyV, KD.v, Value.formed, Program.keyLits, hcK, hce, he, Value.cells, h1, h2, hk, List.range_succ]
    | [], hf => exact hf.elim
    | [_], hf => exact hf.2.elim
    | _ :: _ :: _ :: _, hf => exact hf.2.2.elim
    | [.str _, _], hf => exact hf.1.elim
    | [.int _ _, .str _], hf => exact hf.2.1.elim⟩
end Go.Ax
