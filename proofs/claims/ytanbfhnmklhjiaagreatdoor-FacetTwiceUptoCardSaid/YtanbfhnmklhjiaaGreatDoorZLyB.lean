/- Part of a proof about this program; no condition of its own. -/
import Derived.Test.YtanbfhnmklhjiaaGreatDoorZLy
import Derived.Test.YtanbfhnmklhjiaaGreatDoorZXk
set_option linter.all false
/- What an array of two numbers reads as. No condition. -/
namespace Go.Fc
open Go Go.Ax
section
variable {H : Type} {enc : TypeId × Value → H} {P : Program} {w : World} {base : Nat} {spare : Nat → Bool} {held : Bool}
theorem okWide_array {r : Reach} {b0 : Nat} {t e : TypeId} {n : Nat} {v : Value} (ht : P.underlying t = some (.array n e)) (h : Value.okWide P w r b0 t v) : ∃ cs, v = .agg cs ∧ cs.size = P.cellsOf t := by
  simp only [Value.okWide, ht] at h
  obtain ⟨cs, h1, h2, _⟩ := h
  exact ⟨cs, h1, h2⟩
theorem arg_ii {t e : TypeId} {cs : Array Value} {d : DataW H} {ps : List MemPlace} (ht : P.underlying t = some (.array 2 e)) (he : P.underlying e = some (.int .i64)) (hc : P.cellsOf e = 1) (hct : P.cellsOf t = 2)
    (h : DataW.Trod enc P w base spare held t (.agg cs) d ps) : ∃ a b : Int, Ar ⟨wV w, []⟩ (.agg [.d (.int .i64 a), .d (.int .i64 b)]) (.agg cs) := by
  obtain ⟨fuel, hf⟩ := h
  obtain ⟨xs, m, _, _, hl, hx, hat⟩ := DataW.trod_array ht hf
  have h0 := hat 0 (by omega)
  have h1 := hat 1 (by omega)
  rw [hc, List.getElem?_eq_getElem (by omega)] at h0 h1
  obtain ⟨a, e0, _, _⟩ := DataW.trod_int he h0
  obtain ⟨b, e1, _, _⟩ := DataW.trod_int he h1
  rw [hct] at hl
  have hL : cs.toList = [.int .i64 a, .int .i64 b] := by
    have hl' : cs.toList.length = 2 := hl
    change List.take 1 (List.drop (0 * 1) cs.toList) = _ at e0
    change List.take 1 (List.drop (1 * 1) cs.toList) = _ at e1
    match hcs : cs.toList, hl' with
    | [u, v], _ =>
      rw [hcs] at e0 e1
      simp at e0 e1
      rw [e0, e1]
  refine ⟨a, b, cs.toList, by simp, ?_⟩
  rw [hL]
  exact .cons (Dr.int .i64 a) (.cons (Dr.int .i64 b) .nil)
end
end Go.Fc
