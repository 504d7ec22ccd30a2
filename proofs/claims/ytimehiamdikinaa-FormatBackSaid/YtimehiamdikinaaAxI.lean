/-
  Composite values, slices made of parts, append, make, and entries that become still. No condition.
-/
import Derived.Test.YtimehiamdikinaaAxH
set_option linter.all false
namespace Go.Ax
open Go Go.RowKit

variable {P : Program}

/-! ### composite values -/
theorem foldl_set_list (xs : List Value) (off i : Nat) : ∀ (cells : Array Value), off + i + xs.length ≤ cells.size →
    ((xs.zipIdx i).foldl (fun cs (c, j) => cs.setIfInBounds (off + j) c) cells).toList = splice cells.toList (off + i) xs := by
  induction xs generalizing i with
  | nil => intro cells _; simp [splice]
  | cons x xs ih =>
    intro cells hle
    simp only [List.length_cons] at hle
    rw [List.zipIdx_cons, List.foldl_cons, ih (i + 1) _ (by simp; omega)]
    apply List.ext_getElem?
    intro j
    have s1 := splice_get (cells.setIfInBounds (off + i) x).toList xs (off + (i + 1)) j (by simp; omega)
    have s2 := splice_get cells.toList (x :: xs) (off + i) j (by simp; omega)
    rw [s1, s2]
    simp only [Array.toList_setIfInBounds, List.getElem?_set, List.length_cons]
    by_cases h1 : j < off + i
    · rw [if_pos (by omega), if_neg (by omega), if_pos h1]
    · by_cases h2 : j = off + i
      · subst h2
        rw [if_pos (by omega), if_pos rfl, if_pos (by simp; omega), if_neg (by omega), if_pos (by omega)]
        simp
      · rw [if_neg (by omega), if_neg h1]
        by_cases h3 : j < off + i + (xs.length + 1)
        · rw [if_pos (by omega), if_pos h3]
          rw [show j - (off + i) = (j - (off + (i + 1))) + 1 from by omega]
          simp
        · rw [if_neg (by omega), if_neg h3, if_neg (by omega)]

theorem fill_step (place : Nat → Option (Nat × Nat)) (cells : Array Value) (i off size : Nat) (v : Value) (r : List (Nat × Value)) (hp : place i = some (off, size)) (hv : v.cells.size = size) (hle : off + size ≤ cells.size) :
    Instr.fill place cells ((i, v) :: r) = Instr.fill place (splice cells.toList off v.cells.toList).toArray r := by
  have e : (v.cells.zipIdx.foldl (fun cs (c, j) => cs.setIfInBounds (off + j) c) cells) = (splice cells.toList off v.cells.toList).toArray := by
    apply Array.ext'
    have := foldl_set_list v.cells.toList off 0 cells (by simp [hv]; omega)
    rw [Nat.add_zero] at this
    rw [← this, ← Array.foldl_toList]
    simp
  have hc : ¬ ((v.cells.size ≠ size || off + v.cells.size > cells.size) = true) := by simp [hv]; omega
  simp only [Instr.fill, hp]
  rw [if_neg (by simpa using hc)]
  rw [e]

def fillC (place : Nat → Option (Nat × Nat)) (cells : List C) : List (Nat × AV) → Option (List C)
  | [] => some cells
  | (i, α) :: r => match place i, avCells α with
    | some (off, size), some xs => if xs.length = size ∧ off + size ≤ cells.length then fillC place (splice cells off xs) r else none
    | _, _ => none

theorem fill_ok {G : Gh} {place : Nat → Option (Nat × Nat)} : ∀ (parts : List (Nat × AV)) (vals : List (Nat × Value)) (cells cs' : List C) (vs : List Value), All2 (Cr G) cells vs →
    All2 (fun (x : Nat × AV) (y : Nat × Value) => x.1 = y.1 ∧ Ar G x.2 y.2) parts vals → fillC place cells parts = some cs' → ∃ vs', Instr.fill place vs.toArray vals = some vs'.toArray ∧ All2 (Cr G) cs' vs'
  | [], vals, cells, cs', vs, hc, hp, hf => by
    cases hp
    cases hf
    exact ⟨vs, rfl, hc⟩
  | (i, α) :: r, vals, cells, cs', vs, hc, hp, hf => by
    cases hp with
    | @cons _ y _ vals h t =>
      obtain ⟨i', v⟩ := y
      obtain ⟨rfl, hr⟩ := h
      simp only [fillC] at hf
      split at hf
      · next off size xs h1 h2 =>
        split at hf
        · next h3 =>
          have hx := avCells_ok h2 hr
          have hvs : v.cells.size = size := by rw [← h3.1, hx.length]; simp
          obtain ⟨vs', e, hc'⟩ := fill_ok r vals _ cs' _ (hc.splice hx off) t hf
          refine ⟨vs', ?_, hc'⟩
          rw [fill_step place vs.toArray i off size v vals h1 hvs (by simp [← hc.length]; exact h3.2)]
          exact e
        · cases hf
      · cases hf

/-- A struct type: where its fields lie. -/
def plFs (P : Program) : List Field → Option (List (Nat × Nat))
  | [] => some []
  | f :: r => match (P.info? f.type).map (·.size), plFs P r with
    | some n, some l => some ((f.offset, n) :: l)
    | _, _ => none
def plT (P : Program) (t : TypeId) : Option (List (Nat × Nat)) :=
  match P.underlying t with
  | some (.struct fs) => plFs P fs.toList
  | _ => none

theorem run_places : ∀ (fs : List Field) (pl : List (Nat × Nat)) (w : World), plFs P fs = some pl →
    (fs.mapM (m := Sem) fun f => do pure (f.offset, ← sizeOf f.type)).run P w = .ok pl w
  | [], pl, w, h => by
    cases h
    rfl
  | f :: fs, pl, w, h => by
    simp only [plFs] at h
    split at h
    · next n l h1 h2 =>
      cases h
      have ih := run_places fs l w h2
      have hsz := run_sizeOf' (P := P) h1 w
      simp only [List.mapM_cons, Sem.run_bind, hsz, Result.andThen_ok, Sem.run_pure, ih]
    · cases h

theorem parts_ok {G : Gh} {ρ : Operand → AV} {a : Act} : ∀ (ps : List (Nat × Operand)), (∀ x ∈ ps.map (·.2), Ar G (ρ x) (a.eval x)) → All2 (fun (x : Nat × AV) (y : Nat × Value) => x.1 = y.1 ∧ Ar G x.2 y.2) (ps.map fun x => (x.1, ρ x.2)) (ps.map fun x => (x.1, a.eval x.2))
  | [], _ => .nil
  | p :: ps, h => .cons ⟨rfl, h _ (by simp)⟩ (parts_ok ps fun x hx => h x (by simp at hx ⊢; exact .inr hx))

variable {h : List LB} {ρ : Operand → AV} {dst : Option Tmp} {ty : TypeId} {p : String} {af : Array Edge} {gd : Option (Nat × Bool)}

theorem s_build (t : TypeId) (ps : List (Nat × Operand)) {pl : List (Nat × Nat)} {zc cs : List C} (hp : plT P t = some pl) (hz : zeroC P t = some zc) (hf : fillC (pl[·]?) zc (ps.map fun x => (x.1, ρ x.2)) = some cs) :
    Still P h ⟨dst, .build t ps.toArray, ty, p, af, gd⟩ ρ (.agg cs) := by
  intro cx G w a s ho
  obtain ⟨z, hr, hc, _⟩ := zeroC_ok hz G w
  obtain ⟨vs', e, hc'⟩ := fill_ok _ _ _ cs _ hc (parts_ok (G := G) (a := a) ps fun x hx => ho x (by simpa [Op.operands] using hx)) hf
  unfold plT at hp
  split at hp
  · next fs hu =>
    have h1 := run_places fs.toList pl w hp
    refine ⟨.agg vs'.toArray, ?_, vs', rfl, hc'⟩
    have hm : (fs.mapM (m := Sem) fun f => do pure (f.offset, ← sizeOf f.type)).run P w = .ok pl.toArray w := by
      rw [Array.mapM_eq_mapM_toList]
      simp only [Sem.run_map, h1, Result.andThen_ok]
    have e' : Instr.fill (fun i => pl.toArray[i]?) z.cells (List.map (fun x => (x.1, a.eval x.2)) ps) = some vs'.toArray := by
      simpa using e
    simp only [execOp, Instr.build, Sem.run_bind, hr, Result.andThen_ok, run_underlying hu, hm, List.map_toArray]
    simp only [e']
    simp
  · cases hp
end Go.Ax
