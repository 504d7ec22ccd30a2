/- What the functions of the chapter on rules compute, in plain Lean: checks of fields and records. No condition. -/
import Derived.Test.YtjaooadhjmlhnaaDoorRDb
set_option linter.all false
namespace Go.Rl
open Go Go.Ax
def noFld : Fld := ⟨[], [], [], 0⟩
def P0 : Problem := ⟨0, 0, [], 0⟩
/-- The problems of subfields, with those already seen. -/
def subP (x : TagRule) (t : Str) (i : Int) : List Sub → List Sub → List Problem
  | _, [] => []
  | seen, s :: r => (if x.codes.any (· == s.code) then (if x.once.any (· == s.code) && seen.any (·.code == s.code) then [⟨5, i, t, s.code⟩] else []) else [⟨4, i, t, s.code⟩]) ++ subP x t i (seen ++ [s]) r
def needP (t : Str) (i : Int) (subs : List Sub) : Str → List Problem
  | [] => []
  | c :: r => (if subs.any (·.code == c) then [] else [⟨6, i, t, c⟩]) ++ needP t i subs r
def authP (x : TagRule) (f : Fld) (i : Int) : List Problem := if f.auth ≠ 0 ∧ x.auth = 0 then [⟨7, i, f.tag, 0⟩] else []
def fieldP (x : TagRule) (f : Fld) (i : Int) : List Problem := subP x f.tag i [] f.subs ++ needP f.tag i f.subs x.needs ++ authP x f i
def repP (x : TagRule) (f : Fld) (i : Int) (seen : List Fld) : List Problem := if !x.rep && seen.any (·.tag == f.tag) then [⟨3, i, f.tag, 0⟩] else []
def oneP (l : List TagRule) (seen : List Fld) (i : Nat) (f : Fld) : List Problem :=
  if (findR l f.tag).isSome then repP (getR l f.tag) f i seen ++ fieldP (getR l f.tag) f i else [⟨2, i, f.tag, 0⟩]
def fldsP (l : List TagRule) : List Fld → List Fld → List Problem
  | _, [] => []
  | seen, f :: r => oneP l seen seen.length f ++ fldsP l (seen ++ [f]) r
def mustP (fs : List Fld) : List TagRule → List Problem
  | [] => []
  | x :: r => (if x.must && !(fs.any (·.tag == x.tag)) then [⟨1, -1, x.tag, 0⟩] else []) ++ mustP fs r
def chkP (l : List TagRule) (fs : List Fld) : List Problem := mustP fs l ++ fldsP l [] fs
theorem subP_len (x : TagRule) (t : Str) (i : Int) : ∀ l seen, (subP x t i seen l).length ≤ l.length
  | [], _ => Nat.le_refl _
  | s :: r, seen => by
    have := subP_len x t i r (seen ++ [s])
    rw [subP, List.length_append, List.length_cons]
    split <;> (try split) <;> simp <;> omega
theorem needP_len (t : Str) (i : Int) (subs : List Sub) : ∀ l, (needP t i subs l).length ≤ l.length
  | [] => Nat.le_refl _
  | c :: r => by
    have := needP_len t i subs r
    rw [needP, List.length_append, List.length_cons]
    split <;> simp <;> omega
theorem authP_len (x : TagRule) (f : Fld) (i : Int) : (authP x f i).length ≤ 1 := by unfold authP; split <;> simp
theorem repP_len (x : TagRule) (f : Fld) (i : Int) (seen : List Fld) : (repP x f i seen).length ≤ 1 := by unfold repP; split <;> simp
theorem fieldP_len (x : TagRule) (f : Fld) (i : Int) : (fieldP x f i).length ≤ f.subs.length + x.needs.length + 1 := by
  have h1 := subP_len x f.tag i f.subs []
  have h2 := needP_len f.tag i f.subs x.needs
  have h3 := authP_len x f i
  unfold fieldP; simp only [List.length_append]; omega
/-- Rules and fields of moderate size. -/
structure OkR (x : TagRule) : Prop where
  tag : x.tag.length ≤ 100
  codes : x.codes.length ≤ 100
  once : x.once.length ≤ 100
  needs : x.needs.length ≤ 100
structure OkF (f : Fld) : Prop where
  subs : f.subs.length ≤ 60
  tag : f.tag.length ≤ 100
structure OkL (l : List TagRule) : Prop where
  len : l.length ≤ 60
  all : ∀ x ∈ l, OkR x
structure OkS (fs : List Fld) : Prop where
  len : fs.length ≤ 64
  all : ∀ x ∈ fs, OkF x
theorem okNo : OkR noRule := by constructor <;> decide
theorem okGet {l : List TagRule} (h : OkL l) (t : Str) : OkR (getR l t) := by
  unfold getR findR
  cases e : l.find? (·.tag == t) with
  | none => exact okNo
  | some x => exact h.all x (List.mem_of_find?_eq_some e)
theorem mustP_len (fs : List Fld) : ∀ l, (mustP fs l).length ≤ l.length
  | [] => Nat.le_refl _
  | x :: r => by
    have := mustP_len fs r
    rw [mustP, List.length_append, List.length_cons]
    split <;> simp <;> omega
theorem fldsP_len {l : List TagRule} (hl : OkL l) : ∀ fs seen, (∀ f ∈ fs, OkF f) → (fldsP l seen fs).length ≤ fs.length * 200
  | [], _, _ => by simp [fldsP]
  | f :: r, seen, h => by
    have := fldsP_len hl r (seen ++ [f]) (fun g hg => h g (by simp [hg]))
    have h1 := fieldP_len (getR l f.tag) f seen.length
    have h2 := repP_len (getR l f.tag) f seen.length seen
    have h3 := (okGet hl f.tag).needs
    have h4 := (h f (by simp)).subs
    rw [fldsP, List.length_append, List.length_cons, oneP]
    split <;> simp only [List.length_append, List.length_cons, List.length_nil] <;> omega
theorem chkP_len {l : List TagRule} {fs : List Fld} (hl : OkL l) (hf : OkS fs) : (chkP l fs).length ≤ 20000 := by
  have h1 := mustP_len fs l
  have h2 := fldsP_len hl fs [] hf.all
  have h3 := hl.len
  have h4 := hf.len
  unfold chkP; rw [List.length_append]; omega
theorem filt_pos {α : Type} (p : α → Bool) : ∀ l : List α, decide ((0:Int) < ((l.filter p).length : Nat)) = l.any p
  | [] => rfl
  | x :: r => by
    have := filt_pos p r
    by_cases h : p x = true
    · simp [h]
    · simpa [h] using this
theorem cnt_pos (l : List Sub) (c : UInt8) : decide ((0:Int) < (cnt l c : Nat)) = l.any (·.code == c) := filt_pos _ l
theorem cnt_zero (l : List Sub) (c : UInt8) : decide (((cnt l c : Nat) : Int) = 0) = !(l.any (·.code == c)) := by
  rw [← cnt_pos]; by_cases h : cnt l c = 0 <;> simp [h]; omega
theorem tagd_pos (l : List Fld) (c : Str) : decide ((0:Int) < (tagd l c : Nat)) = l.any (·.tag == c) := filt_pos _ l
theorem tagd_zero (l : List Fld) (c : Str) : decide (((tagd l c : Nat) : Int) = 0) = !(l.any (·.tag == c)) := by
  rw [← tagd_pos]; by_cases h : tagd l c = 0 <;> simp [h]; omega
theorem sub_next (x : TagRule) (t : Str) (i : Int) (l : List Sub) {k : Nat} (h : k < l.length) :
    subP x t i (l.take k) (l.drop k) = (if x.codes.any (· == l[k].code) then (if x.once.any (· == l[k].code) && (l.take k).any (·.code == l[k].code) then [⟨5, i, t, l[k].code⟩] else []) else [⟨4, i, t, l[k].code⟩]) ++ subP x t i (l.take (k + 1)) (l.drop (k + 1)) := by
  rw [drop_cons h, subP, take_next h]
theorem need_next (t : Str) (i : Int) (subs : List Sub) (l : Str) {k : Nat} (h : k < l.length) :
    needP t i subs (l.drop k) = (if subs.any (·.code == l[k]) then [] else [⟨6, i, t, l[k]⟩]) ++ needP t i subs (l.drop (k + 1)) := by
  rw [drop_cons h, needP]
theorem flds_next (rs : List TagRule) (l : List Fld) {k : Nat} (h : k < l.length) :
    fldsP rs (l.take k) (l.drop k) = oneP rs (l.take k) k l[k] ++ fldsP rs (l.take (k + 1)) (l.drop (k + 1)) := by
  have e : (l.take k).length = k := by rw [List.length_take]; omega
  rw [drop_cons h, fldsP, take_next h, e]
theorem must_next (fs : List Fld) (l : List TagRule) {k : Nat} (h : k < l.length) :
    mustP fs (l.drop k) = (if l[k].must && !(fs.any (·.tag == l[k].tag)) then [⟨1, -1, l[k].tag, 0⟩] else []) ++ mustP fs (l.drop (k + 1)) := by
  rw [drop_cons h, mustP]
end Go.Rl
