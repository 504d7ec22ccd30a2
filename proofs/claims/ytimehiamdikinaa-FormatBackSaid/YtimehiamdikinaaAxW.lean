/- Arguments of a statement, read as closed data, by the shape of their type. No condition. -/
import Derived.Test.YtimehiamdikinaaAxT
import Derived.ChangeArms
import Derived.Deep.Slices
set_option linter.all false
namespace Go.Ax
open Go Go.RowKit

/-- What a cell of a type can hold. -/
inductive Cs where
  | int (k : IntKind)
  | bool
  | str
  | lst (el : List Cs)

def shapeFs (P : Program) (r : TypeId → Option (List Cs)) : List Field → Nat → Option (List Cs)
  | [], _ => some []
  | f :: fs, off => if f.offset = off then
      match r f.type with
      | some a => if a.length = P.cellsOf f.type then (shapeFs P r fs (off + a.length)).map (a ++ ·) else none
      | none => none
    else none
def shape (P : Program) : Nat → TypeId → Option (List Cs)
  | 0, _ => none
  | n + 1, t => match P.underlying t with
    | some .bool => some [.bool]
    | some (.int k) => some [.int k]
    | some .string => some [.str]
    | some (.slice e) => match shape P n e with
      | some el => if 0 < el.length ∧ el.length = P.cellsOf e then some [.lst el] else none
      | none => none
    | some (.struct fs) => match shapeFs P (shape P n) fs.toList 0 with
      | some sh => if sh.length = P.cellsOf t then some sh else none
      | none => none
    | _ => none

/-- A datum is of a shape. -/
inductive FitC : Cs → D → Prop where
  | int (k : IntKind) (n : Int) (h : (Lit.int k n).wf = true) : FitC (.int k) (.int k n)
  | bool (b : Bool) : FitC .bool (.bool b)
  | str (l : List UInt8) (h : l.length ≤ maxLen) : FitC .str (.str l)
  | lst (el : List Cs) (els : List (List D)) (h1 : ∀ (i : Nat) (e : List D), els[i]? = some e → e.length = el.length) (h2 : ∀ (i : Nat) (e : List D) (j : Nat) (s : Cs) (d : D), els[i]? = some e → el[j]? = some s → e[j]? = some d → FitC s d) : FitC (.lst el) (.lst el.length els)

abbrev wV (w : World) : Vw := ⟨fun b => w.heap[b]?, fun b => ∃ o, w.heap[b]? = some o⟩

theorem cells_get {w : World} {base n : Nat} {a : Addr} {cs : List Value} (h : w.cells? base a n = some cs) : cs.length = n ∧ ∀ (j : Nat) (v : Value), cs[j]? = some v → w.cell? (a.add j) = some v := by
  unfold World.cells? at h
  split at h
  · have hl : cs.length = n := by simpa using mapM_some_length h
    refine ⟨hl, fun j v hj => ?_⟩
    have hlt : j < n := by rw [← hl]; exact getElem?_lt hj
    rw [mapM_some_get h j j (by simp [hlt])]
    exact hj
  · cases h

theorem heap_of_cell {w : World} {a : Addr} {v : Value} (h : w.cell? a = some v) : ∃ o, w.heap[a.block]? = some o := by
  unfold World.cell? at h
  cases e : w.heap[a.block]? with
  | some o => exact ⟨o, rfl⟩
  | none => simp [e] at h

variable {H : Type} {enc : TypeId × Value → H} {P : Program} {w : World} {base : Nat} {spare : Nat → Bool} {held : Bool}
structure Reads (w : World) (sh : List Cs) (cs : List Value) (ds : List D) : Prop where
  dr : All2 (Dr (wV w)) ds cs
  fit : All2 FitC sh ds

theorem read_fields {r : TypeId → Option (List Cs)} {g : TypeId → List Value → Option (DataW H × List MemPlace)} {cs : List Value} (hr : ∀ t cs x sh, r t = some sh → g t cs = some x → ∃ ds, Reads w sh cs ds) : ∀ (fs : List Field) (off : Nat) (sh : List Cs), shapeFs P r fs off = some sh →
    (∀ f ∈ fs, ∃ y, g f.type ((cs.drop f.offset).take (P.cellsOf f.type)) = some y) → ∃ ds, Reads w sh ((cs.drop off).take sh.length) ds
  | [], off, sh, h, _ => by cases h; exact ⟨[], by simp; exact .nil, .nil⟩
  | f :: fs, off, sh, h, hy => by
    unfold shapeFs at h
    split at h
    · next ho =>
      split at h
      · next a ha =>
        split at h
        · next hl =>
          cases e : shapeFs P r fs (off + a.length) with
          | none => simp [e] at h
          | some b =>
            simp only [e, Option.map_some, Option.some.injEq] at h
            subst h
            obtain ⟨y, hy1⟩ := hy f (by simp)
            obtain ⟨d1, h1⟩ := hr _ _ _ _ ha hy1
            obtain ⟨d2, h2⟩ := read_fields hr fs _ b e fun f' hf' => hy f' (by simp [hf'])
            refine ⟨d1 ++ d2, ?_, h1.fit.append h2.fit⟩
            have := h1.dr.append h2.dr
            rw [ho, ← hl] at this
            rwa [List.length_append, List.take_add, List.drop_drop]
        · cases h
      · cases h
    · cases h

theorem read_ok : ∀ (n : Nat) (t : TypeId) (sh : List Cs), shape P n t = some sh → ∀ (fuel : Nat) (cs : List Value) (x : DataW H × List MemPlace), DataW.trod enc P w base spare held fuel t cs = some x → ∃ ds, Reads w sh cs ds
  | 0, _, _, h, _, _, _, _ => by cases h
  | n + 1, t, sh, h, fuel, cs, x, hx => by
    unfold shape at h
    split at h
    · next hu => cases h; obtain ⟨b, rfl, _⟩ := DataW.trod_bool hu hx; exact ⟨[.bool b], .cons (.bool b) .nil, .cons (.bool b) .nil⟩
    · next k hu => cases h; obtain ⟨m, rfl, _, hw⟩ := DataW.trod_int hu hx; exact ⟨[.int k m], .cons (.int k m) .nil, .cons (.int k m hw) .nil⟩
    · next hu =>
      cases h; obtain ⟨s, rfl, _, hs⟩ := DataW.trod_string hu hx
      refine ⟨[.str s.data.toList], .cons ?_ .nil, .cons (.str _ (by rw [Array.length_toList]; exact hs)) .nil⟩
      have := Dr.str (V := wV w) s.data.toList
      rwa [byteArray_eta] at this
    · next e hu =>
      split at h
      · next el hel =>
        split at h
        · next hpos =>
          cases h
          rcases DataW.trod_slice hu hx with ⟨rfl, _⟩ | ⟨a, len, cap, elems, rest, m, _, rfl, _, hb, hlc, hcm, hlen, hat, _⟩
          · refine ⟨[.lst el.length []], .cons ((NilTo.nil el.length).dr (Dr.raw _ rfl)) .nil, .cons (FitC.lst el [] (fun i e he => nomatch he) (fun i e j s d he => nomatch he)) .nil⟩
          · have key : ∀ i, i < len → ∃ ds : List D, ∃ cs', w.cells? base (a.add (i * P.cellsOf e)) (P.cellsOf e) = some cs' ∧ Reads w el cs' ds := fun i hi => by
              have h1 := hat i hi
              rw [List.getElem?_eq_getElem (by omega)] at h1
              obtain ⟨cs', h2, h3⟩ := Option.bind_eq_some_iff.1 h1
              obtain ⟨ds, h4⟩ := read_ok n e el hel _ _ _ h3
              exact ⟨ds, cs', h2, h4⟩
            let f : Nat → List D := fun i => if h : i < len then Classical.choose (key i h) else []
            have hf : ∀ i, i < len → ∃ cs', w.cells? base (a.add (i * P.cellsOf e)) (P.cellsOf e) = some cs' ∧ Reads w el cs' (f i) := fun i hi => by
              have := Classical.choose_spec (key i hi)
              simp only [f, dif_pos hi]; exact this
            have hget : ∀ (i : Nat) (x : List D), ((List.range len).map f)[i]? = some x → i < len ∧ x = f i := fun i x hix => by
              have hlt := getElem?_lt hix
              simp only [List.length_map, List.length_range] at hlt
              simp [hlt] at hix
              exact ⟨hlt, hix.symm⟩
            have hall : ∀ (i : Nat) (x : List D), ((List.range len).map f)[i]? = some x → x.length = el.length ∧ ∀ (j : Nat) (c : D), x[j]? = some c → ∃ v, w.cell? (a.add (i * el.length + j)) = some v ∧ Dr (wV w) c v := fun i x hix => by
              obtain ⟨hi, rfl⟩ := hget i x hix
              obtain ⟨cs', h1, h2⟩ := hf i hi
              obtain ⟨h3, h4⟩ := cells_get h1
              refine ⟨h2.fit.length.symm, fun j c hj => ?_⟩
              obtain ⟨v, hv, hd⟩ := h2.dr.get j c hj
              have := h4 j v hv
              rw [add_add, ← hpos.2] at this
              exact ⟨v, this, hd⟩
            have hL : ((List.range len).map f).length = len := by simp
            have hdr : Dr (wV w) (.lst el.length ((List.range len).map f)) (.slice (some a) ((List.range len).map f).length cap) := by
              refine Dr.lst el.length _ (some a) cap (fun i j => (w.cell? (a.add (i * el.length + j))).getD undef) (by rw [hL]; exact hlc) hcm (fun x hx => ?_) (fun hn => ?_) (fun i x j c h1 h2 => ?_)
              · obtain ⟨i, hi, rfl⟩ := List.getElem_of_mem hx
                exact (hall i _ (List.getElem?_eq_getElem hi)).1
              · have hpl : 0 < ((List.range len).map f).length := List.length_pos_iff.2 hn
                refine ⟨a, rfl, ?_, fun i x j c h1 h2 => ?_⟩
                · obtain ⟨h3, h4⟩ := hall 0 _ (List.getElem?_eq_getElem hpl)
                  obtain ⟨v, hv, _⟩ := h4 0 _ (List.getElem?_eq_getElem (by omega))
                  have := heap_of_cell hv
                  rwa [add_block] at this
                · obtain ⟨v, hv, _⟩ := (hall i x h1).2 j c h2
                  rw [cellIn_world, hv]; rfl
              · obtain ⟨v, hv, hd⟩ := (hall i x h1).2 j c h2
                rw [hv]; exact hd
            rw [hL] at hdr
            refine ⟨_, .cons hdr .nil, .cons (.lst el _ (fun i x hix => (hall i x hix).1) (fun i x j s d hix hs hd => ?_)) .nil⟩
            obtain ⟨hi, rfl⟩ := hget i x hix
            obtain ⟨cs', h1, h2⟩ := hf i hi
            obtain ⟨d', hd', hfit⟩ := h2.fit.get j s hs
            rw [hd] at hd'; cases hd'
            exact hfit
        · cases h
      · cases h
    · next fs hu =>
      split at h
      · next sh' hsh =>
        split at h
        · next hl =>
          cases h
          obtain ⟨xs, m, rfl, _, hlen, hxl, hat⟩ := DataW.trod_struct hu hx
          obtain ⟨ds, hds⟩ := read_fields (P := P) (w := w) (g := DataW.trod enc P w base spare held m) (cs := cs) (fun t cs x sh h1 h2 => read_ok n t sh h1 m cs x h2) fs.toList 0 sh hsh fun f hf => by
            obtain ⟨i, hi, rfl⟩ := List.getElem_of_mem hf
            have h1 := hat i _ (by rw [Array.getElem?_eq_getElem (by simpa using hi)])
            rw [List.getElem?_eq_getElem (by rw [hxl]; simpa using hi)] at h1
            exact ⟨_, by simpa using h1⟩
          refine ⟨ds, ?_⟩
          rw [List.drop_zero, List.take_of_length_le (by rw [hl, hlen]; exact Nat.le_refl _)] at hds
          exact hds
        · cases h
      · cases h
    · cases h
end Go.Ax
