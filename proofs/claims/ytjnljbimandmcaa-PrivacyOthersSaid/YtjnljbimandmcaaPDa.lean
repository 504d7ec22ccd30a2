/- The data of the chapter on privacy, and what its functions compute, in plain Lean. No condition. -/
import Derived.Test.YtjnljbimandmcaaAxU
set_option linter.all false
namespace Go.Pv
open Go Go.Ax
structure Tab where
  rows : Int
  cols : Int
  cells : List Int
structure Ev where
  day : Int
  kind : Int
  branch : Int
  item : Int
  itemKind : Int
  patron : Int
  patronKind : Int
deriving DecidableEq
def iD (n : Int) : List D := [.int .i64 n]
def bD (b : Bool) : List D := [.bool b]
def Tab.ds (t : Tab) : List D := [.int .i64 t.rows, .int .i64 t.cols, .lst 1 (t.cells.map iD)]
def Tab.cs (t : Tab) : List C := [.d (.int .i64 t.rows), .d (.int .i64 t.cols), .bor 1 (t.cells.map iD)]
def Ev.ds (e : Ev) : List D := [.int .i64 e.day, .int .i64 e.kind, .int .i64 e.branch, .int .i64 e.item, .int .i64 e.itemKind, .int .i64 e.patron, .int .i64 e.patronKind]
attribute [push_cast] iD bD Tab.ds Tab.cs Ev.ds
theorem toNat_div (a b : Nat) : ((a : Int) / (b : Int)).toNat = a / b := by rw [← Int.natCast_ediv]; rfl
theorem toNat_mod (a b : Nat) : ((a : Int) % (b : Int)).toNat = a % b := by rw [← Int.natCast_emod]; rfl
theorem toNat_addmod (r a b : Nat) : ((r : Int) + (a : Int) % (b : Int)).toNat = r + a % b := by rw [← Int.natCast_emod, ← Int.natCast_add]; rfl
theorem div_pos (a b : Nat) : (0 ≤ (a : Int) / (b : Int)) = True := eq_true (by rw [← Int.natCast_ediv]; exact Int.natCast_nonneg _)
theorem mod_pos (a b : Nat) : (0 ≤ (a : Int) % (b : Int)) = True := eq_true (by rw [← Int.natCast_emod]; exact Int.natCast_nonneg _)
attribute [push_cast] toNat_div toNat_mod toNat_addmod div_pos mod_pos
def okT (t : Tab) : Prop := 1 ≤ t.rows ∧ t.rows ≤ 8 ∧ 1 ≤ t.cols ∧ t.cols ≤ 8 ∧ (t.cells.length : Int) = t.rows * t.cols
instance (t : Tab) : Decidable (okT t) := by unfold okT; infer_instance
def inC (v : Int) : Bool := decide (-1 ≤ v ∧ v ≤ 1000000)
def rightB (t : Tab) : Bool := decide (okT t) && t.cells.all inC
def openB (t : Tab) : Bool := t.cells.all fun v => decide (v ≠ -1)
def knownF (p : Int) (l : List Ev) : Nat := l.countP (fun e => decide (0 < p) && decide (e.patron = p))
def forgetE (before : Int) (e : Ev) : Ev := if e.day < before then { e with patron := 0 } else e
/-- The first number from k on, of the next m, with a property; or -1. -/
def findN (p : Nat → Bool) : Nat → Nat → Int
  | 0, _ => -1
  | m + 1, k => if p k then (k : Int) else findN p m (k + 1)
section
variable (R C : Nat) (cs : List Int)
def hidB (w c : Nat) : Bool := cs.getD c 0 == -1 && c != w
def edgB (inn : List Bool) (v c : Nat) : Bool := (v == c / C && inn.getD (R + c % C) false) || (v == R + c % C && inn.getD (c / C) false)
def reachedF (inn : List Bool) (v w : Nat) : Bool := (List.range cs.length).any fun c => hidB cs w c && edgB R C inn v c
def connStep (w : Nat) (inn : List Bool) : List Bool := (List.range inn.length).map fun i => inn.getD i false || reachedF R C cs inn i w
def conn0 (row : Nat) : List Bool := (List.range (R + C)).map fun i => i == row
def connN (row w : Nat) : Nat → List Bool
  | 0 => conn0 R C row
  | n + 1 => connStep R C cs w (connN row w n)
def detF (c : Nat) : Bool := !(connN R C cs (c / C) c (R + C)).getD (R + c % C) false
def firstF : Int := findN (fun c => cs.getD c 0 == -1 && detF R C cs c) cs.length 0
def better (at_ : Int) (k : Nat) : Bool := decide (at_ < 0) || decide (cs.getD k 0 < cs.getD at_.toNat 0)
def smStep (at_ : Int) (k : Nat) : Int := bif decide (cs.getD k 0 ≠ -1) && better cs at_ k then (k : Int) else at_
def smallF (l : List Nat) : Int := l.foldl (smStep cs) (-1)
def rowL (x : Nat) : List Nat := (List.range C).map fun j => x / C * C + j
def colL (x : Nat) : List Nat := (List.range R).map fun i => i * C + x % C
def visF : Int := findN (fun k => decide (cs.getD k 0 ≠ -1)) cs.length 0
def nextF (x : Nat) : Int :=
  if 0 ≤ smallF cs (rowL C x) then smallF cs (rowL C x)
  else if 0 ≤ smallF cs (colL R C x) then smallF cs (colL R C x)
  else visF cs
def hideLoop : Nat → List Int → List Int
  | 0, cs => cs
  | m + 1, cs => if firstF R C cs < 0 then cs else hideLoop m (cs.set (nextF R C cs (firstF R C cs).toNat).toNat (-1))
def hide0 (k : Int) : List Int := cs.map fun v => if 1 ≤ v ∧ v < k then -1 else v
end
def hideF (t : Tab) (k : Int) : Tab :=
  if rightB t = true ∧ openB t = true ∧ 2 ≤ t.rows ∧ 2 ≤ t.cols then { t with cells := hideLoop t.rows.toNat t.cols.toNat t.cells.length (hide0 t.cells k) } else t
def sumBy (p : Nat → Bool) (cs : List Int) : Int := ((List.range cs.length).map fun k => if p k && decide (cs.getD k 0 ≠ -1) then cs.getD k 0 else 0).sum
end Go.Pv
