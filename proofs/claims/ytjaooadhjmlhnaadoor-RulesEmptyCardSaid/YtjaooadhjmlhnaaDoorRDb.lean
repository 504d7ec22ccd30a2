/- What the functions of the chapter on rules compute, in plain Lean. No condition. -/
import Derived.Test.YtjaooadhjmlhnaaDoorRDa
set_option linter.all false
namespace Go.Rl
open Go Go.Ax
structure Rec where
  id : Int
  version : Int
  kind : Int
  lang : Str
  fields : List Fld
deriving DecidableEq
def Rec.ds (x : Rec) : List D := [dI x.id, dI x.version, dI x.kind, .str x.lang, .lst 4 (x.fields.map Fld.ds)]
def cnt (l : List Sub) (c : UInt8) : Nat := (l.filter (·.code == c)).length
def tagd (l : List Fld) (t : Str) : Nat := (l.filter (·.tag == t)).length
def findR (l : List TagRule) (t : Str) : Option TagRule := l.find? (·.tag == t)
def getR (l : List TagRule) (t : Str) : TagRule := (findR l t).getD noRule
theorem cnt_snoc (l : List Sub) (s : Sub) (c : UInt8) : cnt (l ++ [s]) c = cnt l c + if s.code = c then 1 else 0 := by
  unfold cnt; rw [List.filter_append, List.length_append]
  by_cases h : s.code = c <;> simp [h]
theorem tagd_snoc (l : List Fld) (s : Fld) (c : Str) : tagd (l ++ [s]) c = tagd l c + if s.tag = c then 1 else 0 := by
  unfold tagd; rw [List.filter_append, List.length_append]
  by_cases h : s.tag = c <;> simp [h]
theorem cnt_le (l : List Sub) (c : UInt8) : cnt l c ≤ l.length := List.length_filter_le _ _
theorem tagd_le (l : List Fld) (c : Str) : tagd l c ≤ l.length := List.length_filter_le _ _
theorem eqP (a b : Problem) : eqDs a.ds b.ds = some (decide (a = b)) := by
  cases a; cases b
  simp [Problem.ds, eqDs, eqD, u8eq, Bool.and_assoc]
end Go.Rl
