/- Part of a proof about this program; no condition of its own. -/
import Derived.Test.YtanbfhnmklhjiaaGreatDoorOrA
import Derived.Test.YtanbfhnmklhjiaaGreatDoorAxVd
set_option linter.all false
/- Records and facets, in plain data. No condition. -/
namespace Go.Fc
open Go Go.Ax Go.Or
abbrev Str := List UInt8
structure Sb where
  code : Int
  val : Str
  deriving DecidableEq, Inhabited
structure Fld where
  tag : Str
  ind : Str
  subs : List Sb
  auth : Int
  deriving DecidableEq, Inhabited
structure Rec where
  id : Int
  ver : Int
  kind : Int
  lang : Str
  fields : List Fld
  deriving DecidableEq, Inhabited
structure Bk where
  val : Str
  cnt : Int
  deriving DecidableEq, Inhabited
def Sb.ds (s : Sb) : List D := [.int .u8 s.code, .str s.val]
def Fld.ds (f : Fld) : List D := [.str f.tag, .str f.ind, .lst 2 (f.subs.map Sb.ds), .int .i64 f.auth]
def Rec.ds (r : Rec) : List D := [.int .i64 r.id, .int .i64 r.ver, .int .i64 r.kind, .str r.lang, .lst 4 (r.fields.map Fld.ds)]
def Bk.ds (b : Bk) : List D := [.str b.val, .int .i64 b.cnt]
def sD (s : Str) : List D := [.str s]
def iD (n : Int) : List D := [.int .i64 n]
@[push_cast] theorem Sb.ds_eq (s : Sb) : s.ds = [.int .u8 s.code, .str s.val] := rfl
@[push_cast] theorem Fld.ds_eq (f : Fld) : f.ds = [.str f.tag, .str f.ind, .lst 2 (f.subs.map Sb.ds), .int .i64 f.auth] := rfl
@[push_cast] theorem Rec.ds_eq (r : Rec) : r.ds = [.int .i64 r.id, .int .i64 r.ver, .int .i64 r.kind, .str r.lang, .lst 4 (r.fields.map Fld.ds)] := rfl
@[push_cast] theorem Bk.ds_eq (b : Bk) : b.ds = [.str b.val, .int .i64 b.cnt] := rfl
@[push_cast] theorem sD_eq (s : Str) : sD s = [.str s] := rfl
@[push_cast] theorem iD_eq (n : Int) : iD n = [.int .i64 n] := rfl
attribute [push_cast] Nat.min_self
theorem take_next {α : Type} {l : List α} {k : Nat} (h : k < l.length) : l.take (k + 1) = l.take k ++ [l[k]] := by
  rw [List.take_add_one, List.getElem?_eq_getElem h]; rfl
theorem drop_cons {α : Type} {l : List α} {k : Nat} (h : k < l.length) : l.drop k = l[k] :: l.drop (k + 1) := List.drop_eq_getElem_cons h
/-! ### fields -/
/-- The first value of a code, and whether there is one. -/
def getS (l : List Sb) (c : Int) : Str × Bool :=
  match l.find? (fun s => decide (s.code = c)) with
  | some s => (s.val, true)
  | none => ([], false)
def inCodes (codes : Str) (c : Int) : Bool := codes.isEmpty || codes.any (fun x => decide ((x.toNat : Int) = c))
def allS (l : List Sb) (codes : Str) : List Str := (l.filter fun s => inCodes codes s.code).map Sb.val
/-! ### years -/
def digB (x : UInt8) : Bool := decide (48 ≤ x.toNat ∧ x.toNat ≤ 57)
/-! ### steps of loops -/
theorem eq_step {α : Type} {a b : List α} {k : Nat} (ha : k < a.length) (hb : k < b.length) : (a.drop k = b.drop k) ↔ (a[k] = b[k] ∧ a.drop (k + 1) = b.drop (k + 1)) := by
  rw [drop_cons ha, drop_cons hb]
  exact ⟨fun h => by injection h with h1 h2; exact ⟨h1, h2⟩, fun h => by rw [h.1, h.2]⟩
theorem eq_end {α : Type} {a b : List α} {k : Nat} (ha : ¬ k < a.length) (h : a.length = b.length) : a.drop k = b.drop k := by
  rw [List.drop_eq_nil_of_le (by omega), List.drop_eq_nil_of_le (by omega)]
theorem mem_step {α : Type} {l : List α} {k : Nat} {n : α} (h : k < l.length) : (n ∈ l.drop k) ↔ (l[k] = n ∨ n ∈ l.drop (k + 1)) := by
  rw [drop_cons h, List.mem_cons]
  exact ⟨fun h => h.imp Eq.symm id, fun h => h.imp Eq.symm id⟩
theorem mem_end {α : Type} {l : List α} {k : Nat} {n : α} (h : ¬ k < l.length) : ¬ n ∈ l.drop k := by
  rw [List.drop_eq_nil_of_le (by omega)]; simp
theorem getS_step {l : List Sb} {k : Nat} {c : Int} (h : k < l.length) : getS (l.drop k) c = if l[k].code = c then (l[k].val, true) else getS (l.drop (k + 1)) c := by
  rw [drop_cons h]
  unfold getS
  rw [List.find?_cons]
  by_cases e : l[k].code = c
  · rw [if_pos e, decide_eq_true e]
  · rw [if_neg e, decide_eq_false e]
theorem getS_end {l : List Sb} {k : Nat} {c : Int} (h : ¬ k < l.length) : getS (l.drop k) c = ([], false) := by
  rw [List.drop_eq_nil_of_le (by omega)]; rfl
theorem allS_next {l : List Sb} {k : Nat} {codes : Str} (h : k < l.length) : allS (l.take (k + 1)) codes = if inCodes codes l[k].code = true then allS (l.take k) codes ++ [l[k].val] else allS (l.take k) codes := by
  unfold allS
  rw [take_next h, List.filter_append, List.map_append]
  by_cases e : inCodes codes l[k].code = true
  · rw [if_pos e]; simp [List.filter_cons, e]
  · rw [if_neg e]; simp [List.filter_cons, e]
theorem allS_len (l : List Sb) (codes : Str) : (allS l codes).length ≤ l.length := by
  unfold allS
  rw [List.length_map]; exact List.length_filter_le _ _
theorem allS_mem {l : List Sb} {codes : Str} {v : Str} (h : v ∈ allS l codes) : ∃ s ∈ l, s.val = v := by
  unfold allS at h
  obtain ⟨s, hs, rfl⟩ := List.mem_map.1 h
  exact ⟨s, (List.mem_filter.1 hs).1, rfl⟩
def anyIs (codes : Str) (c : Int) : Bool := codes.any (fun x => decide ((x.toNat : Int) = c))
theorem anyIs_step {l : Str} {k : Nat} {c : Int} (h : k < l.length) : anyIs (l.drop k) c = (decide ((l[k].toNat : Int) = c) || anyIs (l.drop (k + 1)) c) := by
  rw [drop_cons h]; rfl
theorem anyIs_end {l : Str} {k : Nat} {c : Int} (h : ¬ k < l.length) : anyIs (l.drop k) c = false := by
  rw [List.drop_eq_nil_of_le (by omega)]; rfl
/-! ### validity -/
def digI (c : Int) : Bool := decide (48 ≤ c ∧ c ≤ 57)
def codeI (c : Int) : Bool := digI c || decide (97 ≤ c ∧ c ≤ 122)
def tagB (t : Str) : Bool := decide (t.length = 3) && (t.all digB && !Op.bytesLess t [48, 49, 48])
def indB (t : Str) : Bool := decide (t.length = 2) && t.all fun x => decide (x.toNat = 32) || digB x
end Go.Fc
