/- The data of the chapter on formats, and what its functions compute, in plain Lean. No condition. -/
import Derived.Test.YtimehiamdikinaaAxU
set_option linter.all false
namespace Go.Fm
open Go Go.Ax
structure Fmt where
  id : Int
  since : Int
  until_ : Int
  base : Int
  name : List UInt8
  magic : List UInt8
  to : List Int
def iD (n : Int) : List D := [.int .i64 n]
def Fmt.ds (f : Fmt) : List D := [.int .i64 f.id, .int .i64 f.since, .int .i64 f.until_, .int .i64 f.base, .str f.name, .str f.magic, .lst 1 (f.to.map iD)]
attribute [push_cast] iD Fmt.ds
def inB (n low high : Int) : Bool := decide (low ≤ n) && decide (n ≤ high)
def okc (c : UInt8) : Bool := (decide (97 ≤ c.toNat) && decide (c.toNat ≤ 122)) || (decide (48 ≤ c.toNat) && decide (c.toNat ≤ 57)) || decide (c.toNat = 45)
def nameB (s : List UInt8) : Bool := s.all okc && inB s.length 1 20
def three : List Fmt := [⟨1, 1990, 2000, 20, [111, 108, 100], [65, 66], [2, 3]⟩, ⟨2, 1995, 0, 10, [109, 105, 100], [65, 66, 67], [3]⟩, ⟨3, 2010, 0, 5, [110, 101, 119], [88], []⟩]
def smallB (l : List Fmt) : Bool := decide (l.length ≤ 20) && l.all fun f => decide (f.name.length ≤ 50) && decide (f.magic.length ≤ 50) && decide (f.to.length ≤ 20)
def checkF (f : Fmt) : Int :=
  bif !inB f.id 1 9999 || !inB f.since 1 2199 || (decide (f.until_ ≠ 0) && !inB f.until_ f.since 2199) || !inB f.base 0 100 then 2
  else bif !nameB f.name || !inB f.magic.length 1 16 then 3 else 0
def preB (s p : List UInt8) : Bool := decide (p.length ≤ s.length) && decide (s.take p.length = p)
def convF (f t : Fmt) (data : List UInt8) : List UInt8 := if preB data f.magic = true then t.magic ++ data.drop f.magic.length else []
def convE (f : Fmt) (data : List UInt8) : Int := if preB data f.magic = true then 0 else 3
def riskF (f : Fmt) (year : Int) : Int :=
  if year < f.since then 100 else if f.until_ = 0 ∨ year ≤ f.until_ then f.base else imin (f.base + 10 * imin (year - f.until_) 10) 100
def findF (l : List Fmt) (id : Int) : Int := fI (fun f => decide (f.id = id)) 0 l
def idStep (data : List UInt8) (b : Int × Nat) (f : Fmt) : Int × Nat := bif decide (b.2 < f.magic.length) && preB data f.magic then (f.id, f.magic.length) else b
def identF (l : List Fmt) (data : List UInt8) : Int := (l.foldl (idStep data) (0, 0)).1
def noFmt : Fmt := ⟨0, 0, 0, 0, [], [], []⟩
def getF (l : List Fmt) (id : Int) : Fmt := if 0 ≤ findF l id then l.getD (findF l id).toNat noFmt else noFmt
def hasF (l : List Fmt) (id : Int) : Bool := decide (0 ≤ findF l id)
def inF (l : List Int) (n : Int) : Bool := l.any fun x => decide (x = n)
/-- The first number other than 0 of a run of m from k on; or 0. -/
def firstE (f : Nat → Int) : Nat → Nat → Int
  | 0, _ => 0
  | m + 1, k => if f k = 0 then firstE f m (k + 1) else f k
theorem firstE_step {f : Nat → Int} {n k : Nat} (h : k < n) : firstE f (n - k) k = if f k = 0 then firstE f (n - (k + 1)) (k + 1) else f k := by
  obtain ⟨m, hm⟩ : ∃ m, n - k = m + 1 := ⟨n - k - 1, by omega⟩
  have : n - (k + 1) = m := by omega
  rw [hm, this]; rfl
theorem firstE_end {f : Nat → Int} {n k : Nat} (h : n ≤ k) : firstE f (n - k) k = 0 := by
  have : n - k = 0 := by omega
  rw [this]; rfl
/-- The error of targets: those that do not ascend, then the others. -/
def ascF (t : List Int) : Int := firstE (fun k => if 0 < k ∧ t.getD k 0 ≤ t.getD (k - 1) 0 then 7 else 0) t.length 0
def aimF (l : List Fmt) (f : Fmt) : Int := firstE (fun k => if f.to.getD k 0 = f.id then 11 else if findF l (f.to.getD k 0) < 0 then 9 else 0) f.to.length 0
def targF (l : List Fmt) (f : Fmt) : Int := if ascF f.to = 0 then aimF l f else ascF f.to
def oneE (l : List Fmt) (k : Nat) : Int := if 0 < k ∧ (l.getD k noFmt).id ≤ (l.getD (k - 1) noFmt).id then 7 else checkF (l.getD k noFmt)
def dupB (f g : Fmt) : Bool := decide (g.name = f.name) || decide (g.magic = f.magic)
def dupE (l : List Fmt) (k : Nat) : Int := if (l.take k).any (dupB (l.getD k noFmt)) = true then 7 else 0
def aimE (l : List Fmt) (k : Nat) : Int := targF l (l.getD k noFmt)
def rightF (l : List Fmt) : Int :=
  if 16 < l.length then 13
  else if firstE (oneE l) l.length 0 ≠ 0 then firstE (oneE l) l.length 0
  else if firstE (dupE l) l.length 0 ≠ 0 then firstE (dupE l) l.length 0
  else firstE (aimE l) l.length 0
end Go.Fm
