/- What the functions of the chapter on rules compute, in plain Lean: what makes rules right. No condition. -/
import Derived.Test.YtjaooadhjmlhnaaDoorRDc
set_option linter.all false
namespace Go.Rl
open Go Go.Ax
def digB (c : UInt8) : Bool := !(decide ((c.toNat : Int) < 48) || decide (57 < (c.toNat : Int)))
def tagB (t : Str) : Bool := decide (t.length = 3) && (t.all digB && !Op.bytesLess t [48, 49, 48])
def codeAt (t : Str) (k : Nat) : Bool :=
  let c : Nat := (t.getD k 0).toNat
  (((48 ≤ c && c ≤ 57) || (97 ≤ c && c ≤ 122)) && (decide (k = 0) || decide ((t.getD (k - 1) 0).toNat < c)))
def codesB (t : Str) : Bool := (List.range t.length).all (codeAt t)
theorem getD_at {t : Str} {k : Nat} (hk : k < t.length) : t.getD k 0 = t[k] := by simp [hk]
theorem codeAt_of {t : Str} {k : Nat} (hk : k < t.length) (h : ((48 ≤ (t[k].toNat : Int) ∧ (t[k].toNat : Int) ≤ 57 ∨ 97 ≤ (t[k].toNat : Int) ∧ (t[k].toNat : Int) ≤ 122) ∧ k = 0) ∨ (0 < k ∧ (48 ≤ (t[k].toNat : Int) ∧ (t[k].toNat : Int) ≤ 57 ∨ 97 ≤ (t[k].toNat : Int) ∧ (t[k].toNat : Int) ≤ 122) ∧ (t[k - 1].toNat : Int) < (t[k].toNat : Int))) : codeAt t k = true := by
  have h1 : k - 1 < t.length := by omega
  unfold codeAt; rw [getD_at hk, getD_at h1]
  simp
  omega
theorem not_codeAt {t : Str} {k : Nat} (hk : k < t.length) (h : ¬ (48 ≤ (t[k].toNat : Int) ∧ (t[k].toNat : Int) ≤ 57 ∨ 97 ≤ (t[k].toNat : Int) ∧ (t[k].toNat : Int) ≤ 122) ∨ (0 < k ∧ (t[k].toNat : Int) ≤ (t[k - 1].toNat : Int))) : codeAt t k = false := by
  have h1 : k - 1 < t.length := by omega
  unfold codeAt; rw [getD_at hk, getD_at h1]
  simp
  omega
end Go.Rl
