/- Part of a proof about this program; no condition of its own. -/
import Derived.Test.YtanbfhnmklhjiaaGreatDoorGzE
import Derived.Test.YtanbfhnmklhjiaaGreatDoorGzD
set_option linter.all false
/- Validity of fields and records, in plain data. No condition. -/
namespace Go.Fc
open Go Go.Ax Go.Or Go.Tx
def rightS (s : Sb) : Int := if codeI s.code = false then 1 else if s.val = [] then 8 else if validF s.val = false then 3 else if 200 < s.val.length then 4 else 0
def rightSs : List Sb → Int
  | [] => 0
  | s :: r => if rightS s = 0 then rightSs r else rightS s
def rightF (f : Fld) : Int :=
  if tagB f.tag = false then 6 else if indB f.ind = false then 3 else if f.subs.length = 0 then 8 else if 16 < f.subs.length then 4
  else if rightSs f.subs = 0 then (if f.auth < 0 ∨ 9999 < f.auth then 2 else 0) else rightSs f.subs
def rightFs : List Fld → Int
  | [] => 0
  | f :: r => if rightF f = 0 then rightFs r else rightF f
def langB (t : Str) : Bool := t.all fun x => decide (97 ≤ x.toNat ∧ x.toNat ≤ 122)
def rightR (r : Rec) : Int :=
  if r.id < 0 ∨ 9999 < r.id then 2 else if r.ver < 1 ∨ 3 < r.ver then 20 else if r.kind < 1 ∨ 4 < r.kind then 1 else if r.lang.length = 3 then
    (if langB r.lang = false then 3 else if 64 < r.fields.length then 4 else rightFs r.fields) else 3
theorem rightSs_step {l : List Sb} {k : Nat} (h : k < l.length) : rightSs (l.drop k) = if rightS l[k] = 0 then rightSs (l.drop (k + 1)) else rightS l[k] := by
  rw [drop_cons h]; rfl
theorem rightSs_end {l : List Sb} {k : Nat} (h : ¬ k < l.length) : rightSs (l.drop k) = 0 := by
  rw [List.drop_eq_nil_of_le (by omega)]; rfl
theorem rightFs_step {l : List Fld} {k : Nat} (h : k < l.length) : rightFs (l.drop k) = if rightF l[k] = 0 then rightFs (l.drop (k + 1)) else rightF l[k] := by
  rw [drop_cons h]; rfl
theorem rightFs_end {l : List Fld} {k : Nat} (h : ¬ k < l.length) : rightFs (l.drop k) = 0 := by
  rw [List.drop_eq_nil_of_le (by omega)]; rfl
/-- What a walk wants of the sizes of texts. -/
def Fld.sm (f : Fld) : Prop := ∀ s ∈ f.subs, s.val.length ≤ 2000000
def Rec.sm (r : Rec) : Prop := ∀ f ∈ r.fields, f.sm
theorem rightSs_ok : ∀ {l : List Sb}, rightSs l = 0 → ∀ s ∈ l, rightS s = 0
  | [], _, s, hs => by cases hs
  | x :: r, h, s, hs => by
    unfold rightSs at h
    split at h
    · next h0 =>
      rcases List.mem_cons.1 hs with rfl | hs
      · exact h0
      · exact rightSs_ok h s hs
    · next h0 => exact absurd h h0
theorem rightFs_ok : ∀ {l : List Fld}, rightFs l = 0 → ∀ s ∈ l, rightF s = 0
  | [], _, s, hs => by cases hs
  | x :: r, h, s, hs => by
    unfold rightFs at h
    split at h
    · next h0 =>
      rcases List.mem_cons.1 hs with rfl | hs
      · exact h0
      · exact rightFs_ok h s hs
    · next h0 => exact absurd h h0
theorem rightS_ok {s : Sb} (h : rightS s = 0) : s.val ≠ [] ∧ validF s.val = true ∧ s.val.length ≤ 200 := by
  unfold rightS at h
  split at h
  · omega
  · split at h
    · omega
    · split at h
      · omega
      · next h1 h2 h3 =>
        split at h
        · omega
        · exact ⟨h2, by simpa using h3, by omega⟩
theorem rightF_ok {f : Fld} (h : rightF f = 0) : f.tag.length = 3 ∧ f.subs.length ≤ 16 ∧ ∀ s ∈ f.subs, rightS s = 0 := by
  unfold rightF at h
  split at h
  · omega
  · next h1 =>
    split at h
    · omega
    · split at h
      · omega
      · split at h
        · omega
        · split at h
          · next h4 =>
            refine ⟨?_, by omega, rightSs_ok h4⟩
            simp only [Bool.not_eq_false] at h1
            unfold tagB at h1
            simp at h1; exact h1.1
          · next h4 => exact absurd h h4
theorem rightR_ok {r : Rec} (h : rightR r = 0) : (0 ≤ r.id ∧ r.id ≤ 9999) ∧ (1 ≤ r.kind ∧ r.kind ≤ 4) ∧ r.lang.length = 3 ∧ r.fields.length ≤ 64 ∧ ∀ f ∈ r.fields, rightF f = 0 := by
  unfold rightR at h
  split at h
  · omega
  · split at h
    · omega
    · split at h
      · omega
      · split at h
        · next h3 =>
          split at h
          · omega
          · split at h
            · omega
            · exact ⟨by omega, by omega, h3, by omega, rightFs_ok h⟩
        · omega
end Go.Fc
