/- Part of a proof about this program; no condition of its own. -/
import Derived.Test.YtanbfhnmklhjiaaGreatDoorZWs
import Derived.Test.YtanbfhnmklhjiaaGreatDoorZLx
import Derived.Test.YtanbfhnmklhjiaaGreatDoorGxD
import Derived.Test.YtanbfhnmklhjiaaGreatDoorGxB
import Derived.Test.YtanbfhnmklhjiaaGreatDoorCards
import Derived.Test.YtanbfhnmklhjiaaGreatDoorTie
import Derived.WalkKit
import Derived.ProofKit
import Derived.OpenShut
import Derived.Deep.DeepHandedRow
import Derived.Deep.DeepWitnessRowRef
set_option linter.all false
/- What the arguments of the statements on facets read as, and the listed variables. No condition. -/
namespace Go.Fc
open Go Go.Ax
def Γ0 : List (Nat × List D) := [(4, Proofs.powD)]
theorem pow_in : (4, Proofs.powD) ∈ Γ0 := by simp [Γ0]
abbrev shSb : List Cs := [.int .u8, .str]
abbrev shFld : List Cs := [.str, .str, .lst shSb, .int .i64]
abbrev shRec : List Cs := [.int .i64, .int .i64, .int .i64, .str, .lst shFld]
def KK : Nat := 1048576
theorem KK_le : KK ≤ maxLen := by unfold KK; decide
theorem exists_ok {α : Type} {ds : α → List D} {p : α → Prop} : ∀ {els : List (List D)}, (∀ e ∈ els, ∃ x, e = ds x ∧ p x) → ∃ xs : List α, els = xs.map ds ∧ ∀ x ∈ xs, p x
  | [], _ => ⟨[], rfl, by simp⟩
  | e :: r, h => by
    obtain ⟨x, rfl, hx⟩ := h e (by simp)
    obtain ⟨xs, rfl, hxs⟩ := exists_ok (els := r) fun e he => h e (by simp [he])
    exact ⟨x :: xs, rfl, fun y hy => by
      rcases List.mem_cons.1 hy with rfl | hy
      · exact hx
      · exact hxs y hy⟩
theorem fitSb {e : List D} (h : All2 (FitB KK) shSb e) : ∃ s : Sb, e = s.ds ∧ (s.val.length ≤ 2000000 ∧ (0 ≤ s.code ∧ s.code ≤ 255)) := by
  cases h with | cons h1 h => cases h with | cons h2 h =>
  cases h
  obtain ⟨n1, rfl, a1, b1⟩ := fitB_u8 h1
  obtain ⟨l, rfl, hl⟩ := fitB_str h2
  unfold KK at hl
  exact ⟨⟨n1, l⟩, rfl, by simp only; omega, a1, b1⟩
theorem fitFld {e : List D} (h : All2 (FitB KK) shFld e) : ∃ f : Fld, e = f.ds ∧ (f.sm ∧ ∀ s ∈ f.subs, 0 ≤ s.code ∧ s.code ≤ 255) := by
  cases h with | cons h1 h => cases h with | cons h2 h => cases h with | cons h3 h => cases h with | cons h4 h =>
  cases h
  obtain ⟨a, rfl, _⟩ := fitB_str h1
  obtain ⟨b, rfl, _⟩ := fitB_str h2
  obtain ⟨els, rfl, _, he⟩ := fitB_lst h3
  obtain ⟨n4, rfl, _⟩ := fitB_i64 h4
  obtain ⟨l, rfl, hl⟩ := exists_ok (ds := Sb.ds) (p := fun s => s.val.length ≤ 2000000 ∧ (0 ≤ s.code ∧ s.code ≤ 255)) fun e h => fitSb (he e h)
  exact ⟨⟨a, b, l, n4⟩, rfl, fun s hs => (hl s hs).1, fun s hs => (hl s hs).2⟩
theorem fitRec {e : List D} (h : All2 (FitB KK) shRec e) : ∃ r : Rec, e = r.ds ∧ (r.sm ∧ r.cd) := by
  cases h with | cons h1 h => cases h with | cons h2 h => cases h with | cons h3 h => cases h with | cons h4 h => cases h with | cons h5 h =>
  cases h
  obtain ⟨n1, rfl, _⟩ := fitB_i64 h1
  obtain ⟨n2, rfl, _⟩ := fitB_i64 h2
  obtain ⟨n3, rfl, _⟩ := fitB_i64 h3
  obtain ⟨l4, rfl, _⟩ := fitB_str h4
  obtain ⟨els, rfl, _, he⟩ := fitB_lst h5
  obtain ⟨l, rfl, hl⟩ := exists_ok (ds := Fld.ds) (p := fun f => f.sm ∧ ∀ s ∈ f.subs, 0 ≤ s.code ∧ s.code ≤ 255) fun e h => fitFld (he e h)
  exact ⟨⟨n1, n2, n3, l4, l⟩, rfl, fun f hf => (hl f hf).1, fun f hf => (hl f hf).2⟩
theorem fitRecs {x : D} (h : FitB KK (.lst shRec) x) : ∃ l : List Rec, x = .lst 5 (l.map Rec.ds) ∧ ((∀ r ∈ l, r.sm) ∧ ∀ r ∈ l, r.cd) := by
  obtain ⟨els, rfl, _, he⟩ := fitB_lst h
  obtain ⟨l, rfl, hl⟩ := exists_ok (ds := Rec.ds) (p := fun r => r.sm ∧ r.cd) fun e h => fitRec (he e h)
  exact ⟨l, rfl, fun r hr => (hl r hr).1, fun r hr => (hl r hr).2⟩
theorem fitI {e : List D} (h : All2 (FitB KK) [.int .i64] e) : ∃ n : Int, e = Fc.iD n ∧ True := by
  cases h with | cons h1 h =>
  cases h
  obtain ⟨n, rfl, _⟩ := fitB_i64 h1
  exact ⟨n, rfl, trivial⟩
theorem fitInts {x : D} (h : FitB KK (.lst [.int .i64]) x) : ∃ l : List Int, x = .lst 1 (l.map Fc.iD) ∧ True := by
  obtain ⟨els, rfl, _, he⟩ := fitB_lst h
  obtain ⟨l, rfl, _⟩ := exists_ok (ds := Fc.iD) (p := fun _ => True) fun e h => fitI (he e h)
  exact ⟨l, rfl, trivial⟩
theorem fitStr {x : D} (h : FitB KK .str x) : ∃ l : Str, x = .str l ∧ l.length ≤ 2000000 := by
  obtain ⟨l, rfl, hl⟩ := fitB_str h
  unfold KK at hl
  exact ⟨l, rfl, by omega⟩
end Go.Fc
namespace Go.Proofs.YtanbfhnmklhjiaaGreatDoor
open Go Go.ChangeShapes Go.WideShapes Go.RowKit Go.Ax Go.Fc
theorem laid_tail {P : Program} {W : World} {x : String × DataW Unit} {q : List (String × DataW Unit)} (h : ∃ ps, DataW.LaidVars P W (x :: q) ps) : ∃ ps, DataW.LaidVars P W q ps := by
  obtain ⟨ps, g, t, cs, fuel, p, q', _, _, _, _, h5, _⟩ := h
  exact ⟨_, h5⟩
theorem own : ownKnob Tryz.prog.godebug = none := by kernel_rfl
theorem g0 : Tryz.prog.globalNamed "internal/strconv.uint64pow10" = some 4 := by kernel_rfl
noncomputable def gt (n : Nat) : TypeId := ((Tryz.prog.globals[n]?).map (·.type)).getD 0
theorem ok0 : okT Tryz.prog 6 (gt 4) = true := by kernel_rfl
theorem d0 : dT Tryz.prog 6 (gt 4) (Rows.laid_internal_strconv_uint64pow10 (H := Unit)) = powD := by kernel_rfl
abbrev laidL : List (String × DataW Unit) := [("math/bits.deBruijn32tab", Rows.laid_math_bits_deBruijn32tab), ("math/bits.deBruijn64tab", Rows.laid_math_bits_deBruijn64tab), ("internal/strconv.uint64pow10", Rows.laid_internal_strconv_uint64pow10)]
theorem globs {W : World} (h : laidMet Tryz.prog laidL W) : ViewOk Γ0 (wV W) W := by
  obtain ⟨ps, hl, _⟩ := h
  have h1 := laid_tail ⟨ps, hl⟩
  have h2 := laid_tail h1
  refine viewOk_world fun p hp => ?_
  simp only [Γ0, List.mem_cons, List.not_mem_nil, or_false] at hp
  subst hp
  obtain ⟨ps, h⟩ := h2
  exact glob_data 6 g0 (by kernel_rfl) ok0 d0 ⟨ps, _, h⟩
def DtoV : D → Value
  | .int k n => .int k n
  | _ => undef
noncomputable def laidWorld (os : Os) : World :=
  let W := World.holding Tryz.prog os ⟨#[], #[], []⟩
  { W with heap := ((W.heap.modify 4 fun
      | .cells _ t frozen => .cells ((dT Tryz.prog 6 (gt 4) (Rows.laid_internal_strconv_uint64pow10 (H := Unit))).map DtoV).toArray t frozen
      | o => o).modify 6 fun
      | .cells _ t frozen => .cells ((dT Tryz.prog 6 (gt 6) (Rows.laid_math_bits_deBruijn64tab (H := Unit))).map DtoV).toArray t frozen
      | o => o).modify 5 fun
      | .cells _ t frozen => .cells ((dT Tryz.prog 6 (gt 5) (Rows.laid_math_bits_deBruijn32tab (H := Unit))).map DtoV).toArray t frozen
      | o => o }
theorem wLaid (os : Os) (args : Array Value) : laidMet Tryz.prog laidL ((laidWorld os).forCall (fun _ _ => 0) ⟨#[], args, []⟩).memory :=
  laidMet_of_run' 8 (by kernel_rfl) (by kernel_rfl)
theorem wVars (os : Os) (args : Array Value) : ((laidWorld os).forCall (fun _ _ => 0) ⟨#[], args, []⟩).variablesRefB Tryz.checked.prog = true := by kernel_rfl
theorem wRest (os : Os) (args : Array Value) : (((laidWorld os).forCall (fun _ _ => 0) ⟨#[], args, []⟩).heap.toList.drop Tryz.checked.prog.globals.size).take ((begin Tryz.checked.prog (fun _ _ => 0) default).world.heap.size - Tryz.checked.prog.globals.size) =
      (begin Tryz.checked.prog (fun _ _ => 0) default).world.heap.toList.drop Tryz.checked.prog.globals.size := by kernel_rfl
end Go.Proofs.YtanbfhnmklhjiaaGreatDoor
