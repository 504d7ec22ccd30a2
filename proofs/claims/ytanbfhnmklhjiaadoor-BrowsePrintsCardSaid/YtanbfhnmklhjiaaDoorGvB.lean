/- Part of a proof about this program; no condition of its own. -/
import Derived.Test.YtanbfhnmklhjiaaDoorYVz
set_option linter.all false
/- A world for the witness: the listed variables as their initialisers lay them. No condition. -/
namespace Go.Proofs.YtanbfhnmklhjiaaDoor
open Go Go.ChangeShapes Go.WideShapes Go.RowKit Go.Ax Go.Fc
def DtoV : D → Value
  | .int k n => .int k n
  | .bool b => .bool b
  | .str l => .string ⟨l.toArray⟩
  | _ => undef
noncomputable def laidWorld (os : Os) : World :=
  let W := World.holding Tryd.prog os ⟨#[], #[], []⟩
  { W with heap := (((((W.heap.modify 2 fun
      | .cells _ t frozen => .cells ((powD).map DtoV).toArray t frozen
      | o => o).modify 4 fun
      | .cells _ t frozen => .cells ((dT Tryd.prog 6 (gt 4) (Rows.laid_math_bits_deBruijn64tab (H := Unit))).map DtoV).toArray t frozen
      | o => o).modify 3 fun
      | .cells _ t frozen => .cells ((dT Tryd.prog 6 (gt 3) (Rows.laid_math_bits_deBruijn32tab (H := Unit))).map DtoV).toArray t frozen
      | o => o).modify 0 fun
      | .cells _ t frozen => .cells ((stdD).map DtoV).toArray t frozen
      | o => o).modify 5 fun
      | .cells _ t frozen => .cells ((dT Tryd.prog 6 (gt 5) Rows.laid_unicode_utf8_first).map DtoV).toArray t frozen
      | o => o).modify 6 fun
      | .cells _ t frozen => .cells ((dT Tryd.prog 6 (gt 6) (Rows.laid_unicode_utf8_acceptRanges (H := Unit))).map DtoV).toArray t frozen
      | o => o }
theorem wL1 (os : Os) (args : Array Value) : (DataW.laidRun Tryd.prog ((laidWorld os).forCall (fun _ _ => 0) ⟨#[], args, []⟩).memory 8 (laidL.map (·.1))).map (·.1) = some laidL := by kernel_rfl
end Go.Proofs.YtanbfhnmklhjiaaDoor

/- A world for the witness: the listed variables as their initialisers lay them. No condition. -/
namespace Go.Proofs.YtanbfhnmklhjiaaDoor
open Go Go.ChangeShapes Go.WideShapes Go.RowKit Go.Ax Go.Fc
def mkey : MemPlace → Nat
  | .cell b off => (if b = 3 then 0 else if b = 4 then 1 else if b = 2 then 2 else if b = 6 then 3 else if b = 0 then 4 else 5) * 100000 + off
  | .map _ => 0
def ascN : List Nat → Bool
  | [] => true
  | [_] => true
  | x :: y :: r => Nat.blt x y && ascN (y :: r)
theorem ascN_lt : ∀ (l : List Nat), ascN l = true → l.Pairwise (· < ·)
  | [], _ => .nil
  | [x], _ => List.pairwise_singleton _ _
  | x :: y :: r, h => by
    unfold ascN at h
    rw [Bool.and_eq_true] at h
    have hxy : x < y := by simpa [Nat.blt_eq] using h.1
    have ih := ascN_lt (y :: r) h.2
    refine List.pairwise_cons.2 ⟨fun z hz => ?_, ih⟩
    rcases List.mem_cons.1 hz with rfl | hz
    · exact hxy
    · exact Nat.lt_trans hxy ((List.pairwise_cons.1 ih).1 z hz)
theorem nodup_of_asc {ps : List MemPlace} (h : ascN (ps.map mkey) = true) : ps.Nodup := by
  have := ascN_lt _ h
  rw [List.pairwise_map] at this
  exact this.imp fun hab e => by rw [e] at hab; exact Nat.lt_irrefl _ hab
theorem wL2 (os : Os) (args : Array Value) : (DataW.laidRun Tryd.prog ((laidWorld os).forCall (fun _ _ => 0) ⟨#[], args, []⟩).memory 8 (laidL.map (·.1))).map (fun x => ascN (x.2.map mkey) && laidRowsB Tryd.prog ((laidWorld os).forCall (fun _ _ => 0) ⟨#[], args, []⟩).memory x.2) = some true := by kernel_rfl
theorem laidMet_of_asc {P : Program} {w : World} {l : List (String × DataW Unit)} (fuel : Nat) (h : (DataW.laidRun P w fuel (l.map (·.1))).map (·.1) = some l)
    (hr : (DataW.laidRun P w fuel (l.map (·.1))).map (fun x => ascN (x.2.map mkey) && laidRowsB P w x.2) = some true) : laidMet P l w := by
  cases hx : DataW.laidRun P w fuel (l.map (·.1)) with
  | none => simp [hx] at h
  | some x =>
    obtain ⟨l', ps⟩ := x
    simp only [hx, Option.map_some, Option.some.injEq] at h hr
    subst h
    simp only [Bool.and_eq_true] at hr
    exact laidMet_of_run fuel hx (decide_eq_true (nodup_of_asc hr.1)) hr.2
theorem wLaid (os : Os) (args : Array Value) : laidMet Tryd.prog laidL ((laidWorld os).forCall (fun _ _ => 0) ⟨#[], args, []⟩).memory := laidMet_of_asc 8 (wL1 os args) (wL2 os args)
theorem wVars (os : Os) (args : Array Value) : ((laidWorld os).forCall (fun _ _ => 0) ⟨#[], args, []⟩).variablesRefB Tryd.checked.prog = true := by kernel_rfl
theorem wRest (os : Os) (args : Array Value) : (((laidWorld os).forCall (fun _ _ => 0) ⟨#[], args, []⟩).heap.toList.drop Tryd.checked.prog.globals.size).take ((begin Tryd.checked.prog (fun _ _ => 0) default).world.heap.size - Tryd.checked.prog.globals.size) =
      (begin Tryd.checked.prog (fun _ _ => 0) default).world.heap.toList.drop Tryd.checked.prog.globals.size := by kernel_rfl
end Go.Proofs.YtanbfhnmklhjiaaDoor
