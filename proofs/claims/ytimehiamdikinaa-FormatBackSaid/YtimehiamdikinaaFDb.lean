/- Distances between formats: what 'steps' computes. Plain Lean. -/
import Derived.Test.YtimehiamdikinaaFDa
set_option linter.all false
namespace Go.Fm
open Go Go.Ax
def hitP (l : List Fmt) (r : Int) (n : List Int) (id : Int) : Bool := decide (0 ≤ findF l id) && decide (n.getD (findF l id).toNat 0 = r)
def distStep (l : List Fmt) (r : Nat) (n : List Int) (i : Nat) : List Int :=
  if 0 ≤ n.getD i 0 then n else if (l.getD i noFmt).to.any (hitP l r n) = true then n.set i ((r : Int) + 1) else n
def distPass (l : List Fmt) (r : Nat) (n : List Int) : List Int := (List.range l.length).foldl (distStep l r) n
def dist0 (l : List Fmt) (to : Nat) : List Int := (List.replicate l.length (-1)).set to 0
def distN (l : List Fmt) (to : Nat) : Nat → List Int
  | 0 => dist0 l to
  | r + 1 => distPass l r (distN l to r)
def distF (l : List Fmt) (to : Nat) : List Int := distN l to l.length
theorem distStep_len (l : List Fmt) (r : Nat) (n : List Int) (i : Nat) : (distStep l r n i).length = n.length := by
  unfold distStep; split
  · rfl
  · split <;> simp
theorem distFold_len (l : List Fmt) (r : Nat) : ∀ (is : List Nat) (n : List Int), (is.foldl (distStep l r) n).length = n.length
  | [], _ => rfl
  | i :: is, n => by rw [List.foldl_cons, distFold_len l r is, distStep_len]
theorem distN_len (l : List Fmt) (to : Nat) : ∀ r, (distN l to r).length = l.length
  | 0 => by simp [distN, dist0]
  | r + 1 => by simp only [distN, distPass]; rw [distFold_len, distN_len l to r]
end Go.Fm
