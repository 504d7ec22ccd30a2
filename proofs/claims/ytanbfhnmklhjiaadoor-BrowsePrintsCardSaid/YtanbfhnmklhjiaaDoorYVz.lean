/- Part of a proof about this program; no condition of its own. -/
import Derived.Test.YtanbfhnmklhjiaaDoorGwL
import Derived.Test.YtanbfhnmklhjiaaDoorGxB
import Derived.Test.YtanbfhnmklhjiaaDoorGxD
import Derived.Test.YtanbfhnmklhjiaaDoorCards
import Derived.Test.YtanbfhnmklhjiaaDoorTie
import Derived.WalkKit
import Derived.ProofKit
import Derived.OpenShut
import Derived.Deep.DeepHandedRow
import Derived.Deep.DeepWitnessRowRef
set_option linter.all false
/- What the arguments of the statements on browse lists read as, and the listed variables. No condition. -/
namespace Go.Fc
open Go Go.Ax
def Γ0 : List (Nat × List D) := [(0, Proofs.stdD), (2, Proofs.powD)]
theorem std_in : (0, Proofs.stdD) ∈ Γ0 := by simp [Γ0]
theorem pow_in : (2, Proofs.powD) ∈ Γ0 := by simp [Γ0]
abbrev shBr : List Cs := [.str, .str, .int .i64]
theorem fitBrC {e : List D} (h : All2 FitC shBr e) : ∃ b : Br, e = b.ds ∧ -9223372036854775808 ≤ b.cnt ∧ b.cnt ≤ 9223372036854775807 := by
  cases h with | cons h1 h => cases h with | cons h2 h => cases h with | cons h3 h =>
  cases h
  obtain ⟨s1, rfl, _⟩ := fit_str h1
  obtain ⟨s2, rfl, _⟩ := fit_str h2
  obtain ⟨n3, rfl, hn, hm⟩ := fit_i64 h3
  exact ⟨⟨s1, s2, n3⟩, rfl, hn, hm⟩
theorem fitU8 {x : D} (h : FitC (.int .u8) x) : ∃ n : Int, x = .int .u8 n ∧ 0 ≤ n ∧ n ≤ 255 := by
  obtain ⟨c, rfl⟩ := fit_u8 h
  exact ⟨_, rfl, by omega, by have := c.toNat_lt; omega⟩
theorem fitBrsF {x : D} (h : FitC (.lst shBr) x) : ∃ l : List Br, x = .lst 3 (l.map Br.ds) := by
  obtain ⟨els, rfl, he⟩ := fit_lst h
  obtain ⟨l, rfl⟩ := exists_list (ds := Br.ds) fun e h => (fitBrC (he e h)).imp fun _ h => h.1
  exact ⟨l, rfl⟩
section
variable {H : Type} {enc : TypeId × Value → H} {P : Program} {w : World} {base : Nat} {spare : Nat → Bool} {held : Bool}
theorem okWide_array {r : Reach} {b0 : Nat} {t e : TypeId} {n : Nat} {v : Value} (ht : P.underlying t = some (.array n e)) (h : Value.okWide P w r b0 t v) : ∃ cs, v = .agg cs ∧ cs.size = P.cellsOf t := by
  simp only [Value.okWide, ht] at h
  obtain ⟨cs, h1, h2, _⟩ := h
  exact ⟨cs, h1, h2⟩
theorem arg_ii {t e : TypeId} {cs : Array Value} {d : DataW H} {ps : List MemPlace} (ht : P.underlying t = some (.array 2 e)) (he : P.underlying e = some (.int .i64)) (hc : P.cellsOf e = 1) (hct : P.cellsOf t = 2)
    (h : DataW.Trod enc P w base spare held t (.agg cs) d ps) : ∃ a b : Int, a ≤ 9223372036854775807 ∧ b ≤ 9223372036854775807 ∧ Ar ⟨wV w, []⟩ (.agg [.d (.int .i64 a), .d (.int .i64 b)]) (.agg cs) := by
  obtain ⟨fuel, hf⟩ := h
  obtain ⟨xs, m, _, _, hl, hx, hat⟩ := DataW.trod_array ht hf
  have h0 := hat 0 (by omega)
  have h1 := hat 1 (by omega)
  rw [hc, List.getElem?_eq_getElem (by omega)] at h0 h1
  obtain ⟨a, e0, _, ra⟩ := DataW.trod_int he h0
  obtain ⟨b, e1, _, rb⟩ := DataW.trod_int he h1
  simp only [Lit.wf, IntKind.min, IntKind.max, IntKind.signed, IntKind.bits, Bool.and_eq_true, decide_eq_true_eq, if_true] at ra rb
  rw [hct] at hl
  have hL : cs.toList = [.int .i64 a, .int .i64 b] := by
    have hl' : cs.toList.length = 2 := hl
    change List.take 1 (List.drop (0 * 1) cs.toList) = _ at e0
    change List.take 1 (List.drop (1 * 1) cs.toList) = _ at e1
    match hcs : cs.toList, hl' with
    | [u, v], _ =>
      rw [hcs] at e0 e1
      simp at e0 e1
      rw [e0, e1]
  refine ⟨a, b, by omega, by omega, cs.toList, by simp, ?_⟩
  rw [hL]
  exact .cons (Dr.int .i64 a) (.cons (Dr.int .i64 b) .nil)
end
end Go.Fc
namespace Go.Proofs.YtanbfhnmklhjiaaDoor
open Go Go.ChangeShapes Go.WideShapes Go.RowKit Go.Ax Go.Fc
theorem laid_tail {P : Program} {W : World} {x : String × DataW Unit} {q : List (String × DataW Unit)} (h : ∃ ps, DataW.LaidVars P W (x :: q) ps) : ∃ ps, DataW.LaidVars P W q ps := by
  obtain ⟨ps, g, t, cs, fuel, p, q', _, _, _, _, h5, _⟩ := h
  exact ⟨_, h5⟩
theorem own : ownKnob Tryd.prog.godebug = none := by kernel_rfl
theorem g0 : Tryd.prog.globalNamed "library/rules.standard" = some 0 := by kernel_rfl
theorem g2 : Tryd.prog.globalNamed "internal/strconv.uint64pow10" = some 2 := by kernel_rfl
noncomputable def gt (n : Nat) : TypeId := ((Tryd.prog.globals[n]?).map (·.type)).getD 0
theorem ok0 : okT Tryd.prog 6 (gt 0) = true := by kernel_rfl
theorem ok2 : okT Tryd.prog 6 (gt 2) = true := by kernel_rfl
theorem d0 : dT Tryd.prog 6 (gt 0) (Rows.laid_library_rules_standard (H := Unit)) = stdD := by kernel_rfl
theorem d2 : dT Tryd.prog 6 (gt 2) (Rows.laid_internal_strconv_uint64pow10 (H := Unit)) = powD := by kernel_rfl
abbrev laidL : List (String × DataW Unit) := [("math/bits.deBruijn32tab", Rows.laid_math_bits_deBruijn32tab), ("math/bits.deBruijn64tab", Rows.laid_math_bits_deBruijn64tab), ("internal/strconv.uint64pow10", Rows.laid_internal_strconv_uint64pow10), ("unicode/utf8.acceptRanges", Rows.laid_unicode_utf8_acceptRanges), ("library/rules.standard", Rows.laid_library_rules_standard), ("unicode/utf8.first", Rows.laid_unicode_utf8_first)]
theorem globs {W : World} (h : laidMet Tryd.prog laidL W) : ViewOk Γ0 (wV W) W := by
  obtain ⟨ps, hl, _⟩ := h
  have h1 := laid_tail ⟨ps, hl⟩
  have h2 := laid_tail h1
  have h3 := laid_tail h2
  have h4 := laid_tail h3
  refine viewOk_world fun p hp => ?_
  simp only [Γ0, List.mem_cons, List.not_mem_nil, or_false] at hp
  rcases hp with rfl | rfl
  · obtain ⟨ps, h⟩ := h4
    exact glob_data 6 g0 (by kernel_rfl) ok0 d0 ⟨ps, _, h⟩
  · obtain ⟨ps, h⟩ := h2
    exact glob_data 6 g2 (by kernel_rfl) ok2 d2 ⟨ps, _, h⟩
end Go.Proofs.YtanbfhnmklhjiaaDoor
