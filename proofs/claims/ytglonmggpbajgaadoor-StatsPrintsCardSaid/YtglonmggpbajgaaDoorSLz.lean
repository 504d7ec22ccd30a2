/- Part of a proof about this program; no condition of its own. -/
import Derived.Test.YtglonmggpbajgaaDoorSWq
import Derived.Test.YtglonmggpbajgaaDoorGxD
import Derived.Test.YtglonmggpbajgaaDoorGxB
import Derived.Test.YtglonmggpbajgaaDoorCards
import Derived.Test.YtglonmggpbajgaaDoorTie
import Derived.WalkKit
import Derived.ProofKit
import Derived.OpenShut
import Derived.Deep.DeepHandedRow
import Derived.Deep.DeepWitnessRowRef
set_option linter.all false
/- What the arguments of the statements on statistics read as, and the listed variables. No condition. -/
namespace Go.Sd
open Go Go.Ax
abbrev shE : List Cs := [.int .i64, .int .i64, .int .i64, .int .i64, .int .i64, .int .i64, .int .i64]
abbrev shTb : List Cs := [.int .i64, .int .i64, .lst [.int .i64]]
theorem fitE {e : List D} (h : All2 FitC shE e) : ∃ x : Ev, e = x.ds ∧ x.ok := by
  cases h with | cons h1 h => cases h with | cons h2 h => cases h with | cons h3 h => cases h with | cons h4 h => cases h with | cons h5 h => cases h with | cons h6 h => cases h with | cons h7 h =>
  cases h
  obtain ⟨n1, rfl, _⟩ := fit_i64 h1
  obtain ⟨n2, rfl, a2, b2⟩ := fit_i64 h2
  obtain ⟨n3, rfl, a3, b3⟩ := fit_i64 h3
  obtain ⟨n4, rfl, _⟩ := fit_i64 h4
  obtain ⟨n5, rfl, a5, b5⟩ := fit_i64 h5
  obtain ⟨n6, rfl, _⟩ := fit_i64 h6
  obtain ⟨n7, rfl, a7, b7⟩ := fit_i64 h7
  exact ⟨⟨n1, n2, n3, n4, n5, n6, n7⟩, rfl, a2, b2, a3, b3, a5, b5, a7, b7⟩
theorem exists_ok {α : Type} {ds : α → List D} {p : α → Prop} : ∀ {els : List (List D)}, (∀ e ∈ els, ∃ x, e = ds x ∧ p x) → ∃ xs : List α, els = xs.map ds ∧ ∀ x ∈ xs, p x
  | [], _ => ⟨[], rfl, by simp⟩
  | e :: r, h => by
    obtain ⟨x, rfl, hx⟩ := h e (by simp)
    obtain ⟨xs, rfl, hxs⟩ := exists_ok (els := r) fun e he => h e (by simp [he])
    exact ⟨x :: xs, rfl, fun y hy => by
      rcases List.mem_cons.1 hy with rfl | hy
      · exact hx
      · exact hxs y hy⟩
theorem fitEs {x : D} (h : FitC (.lst shE) x) : ∃ l : List Ev, x = .lst 7 (l.map Ev.ds) ∧ ∀ x ∈ l, x.ok := by
  obtain ⟨els, rfl, he⟩ := fit_lst h
  obtain ⟨l, rfl, hl⟩ := exists_ok (ds := Ev.ds) (p := Ev.ok) fun e h => fitE (he e h)
  exact ⟨l, rfl, hl⟩
theorem fitI {e : List D} (h : All2 FitC [.int .i64] e) : ∃ n : Int, e = iD n ∧ (-9223372036854775808 ≤ n ∧ n ≤ 9223372036854775807) := by
  cases h with | cons h1 h =>
  cases h
  obtain ⟨n, rfl, a, b⟩ := fit_i64 h1
  exact ⟨n, rfl, a, b⟩
theorem fitTb {e : List D} (h : All2 FitC shTb e) : ∃ t : Tb, e = t.ds ∧ ∀ n ∈ t.cells, -9223372036854775808 ≤ n ∧ n ≤ 9223372036854775807 := by
  cases h with | cons h1 h => cases h with | cons h2 h => cases h with | cons h3 h =>
  cases h
  obtain ⟨n1, rfl, _⟩ := fit_i64 h1
  obtain ⟨n2, rfl, _⟩ := fit_i64 h2
  obtain ⟨els, rfl, he⟩ := fit_lst h3
  obtain ⟨l, rfl, hl⟩ := exists_ok (ds := iD) (p := fun n => -9223372036854775808 ≤ n ∧ n ≤ 9223372036854775807) fun e h => fitI (he e h)
  exact ⟨⟨n1, n2, l⟩, rfl, hl⟩
end Go.Sd
namespace Go.Proofs.YtglonmggpbajgaaDoor
open Go Go.ChangeShapes Go.WideShapes Go.RowKit Go.Ax Go.Sd
theorem laid_tail {P : Program} {W : World} {x : String × DataW Unit} {q : List (String × DataW Unit)} (h : ∃ ps, DataW.LaidVars P W (x :: q) ps) : ∃ ps, DataW.LaidVars P W q ps := by
  obtain ⟨ps, g, t, cs, fuel, p, q', _, _, _, _, h5, _⟩ := h
  exact ⟨_, h5⟩
theorem own : ownKnob Tryd.prog.godebug = none := by kernel_rfl
theorem g0 : Tryd.prog.globalNamed "internal/strconv.uint64pow10" = some 0 := by kernel_rfl
noncomputable def gt (n : Nat) : TypeId := ((Tryd.prog.globals[n]?).map (·.type)).getD 0
theorem ok0 : okT Tryd.prog 6 (gt 0) = true := by kernel_rfl
theorem d0 : dT Tryd.prog 6 (gt 0) (Rows.laid_internal_strconv_uint64pow10 (H := Unit)) = powD := by kernel_rfl
abbrev laidL : List (String × DataW Unit) := [("math/bits.deBruijn32tab", Rows.laid_math_bits_deBruijn32tab), ("math/bits.deBruijn64tab", Rows.laid_math_bits_deBruijn64tab), ("internal/strconv.uint64pow10", Rows.laid_internal_strconv_uint64pow10)]
theorem globs {W : World} (h : laidMet Tryd.prog laidL W) : ViewOk Γ0 (wV W) W := by
  obtain ⟨ps, hl, _⟩ := h
  have h1 := laid_tail ⟨ps, hl⟩
  have h2 := laid_tail h1
  refine viewOk_world fun p hp => ?_
  simp only [Γ0, List.mem_cons, List.not_mem_nil, or_false] at hp
  subst hp
  obtain ⟨ps, h⟩ := h2
  exact glob_data 6 g0 (by kernel_rfl) ok0 d0 ⟨ps, _, h⟩
theorem g1 : Tryd.prog.globalNamed "math/bits.deBruijn32tab" = some 2 := by kernel_rfl
theorem g2 : Tryd.prog.globalNamed "math/bits.deBruijn64tab" = some 3 := by kernel_rfl
def DtoV : D → Value
  | .int k n => .int k n
  | _ => undef
noncomputable def laidWorld (os : Os) : World :=
  let W := World.holding Tryd.prog os ⟨#[], #[], []⟩
  { W with heap := ((W.heap.modify 0 fun
      | .cells _ t frozen => .cells ((dT Tryd.prog 6 (gt 0) (Rows.laid_internal_strconv_uint64pow10 (H := Unit))).map DtoV).toArray t frozen
      | o => o).modify 3 fun
      | .cells _ t frozen => .cells ((dT Tryd.prog 6 (gt 3) (Rows.laid_math_bits_deBruijn64tab (H := Unit))).map DtoV).toArray t frozen
      | o => o).modify 2 fun
      | .cells _ t frozen => .cells ((dT Tryd.prog 6 (gt 2) (Rows.laid_math_bits_deBruijn32tab (H := Unit))).map DtoV).toArray t frozen
      | o => o }
theorem wLaid (os : Os) (args : Array Value) : laidMet Tryd.prog laidL ((laidWorld os).forCall (fun _ _ => 0) ⟨#[], args, []⟩).memory :=
  laidMet_of_run' 8 (by kernel_rfl) (by kernel_rfl)
theorem wVars (os : Os) (args : Array Value) : ((laidWorld os).forCall (fun _ _ => 0) ⟨#[], args, []⟩).variablesRefB Tryd.checked.prog = true := by kernel_rfl
theorem wRest (os : Os) (args : Array Value) : (((laidWorld os).forCall (fun _ _ => 0) ⟨#[], args, []⟩).heap.toList.drop Tryd.checked.prog.globals.size).take ((begin Tryd.checked.prog (fun _ _ => 0) default).world.heap.size - Tryd.checked.prog.globals.size) =
      (begin Tryd.checked.prog (fun _ _ => 0) default).world.heap.toList.drop Tryd.checked.prog.globals.size := by kernel_rfl
end Go.Proofs.YtglonmggpbajgaaDoor
