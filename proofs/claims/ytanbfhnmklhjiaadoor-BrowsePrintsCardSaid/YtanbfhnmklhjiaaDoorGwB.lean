/- Part of a proof about this program; no condition of its own. -/
import Derived.Test.YtanbfhnmklhjiaaDoorGwA
import Derived.Test.YtanbfhnmklhjiaaDoorGfA
import Derived.Test.YtanbfhnmklhjiaaDoorGxR
set_option linter.all false
/- Walks: lists and fields (reference). -/
namespace Go.Proofs
open Go Go.Ax Go.Tx Go.Fc
set_option maxRecDepth 100000
set_option maxHeartbeats 0
variable {Γ : List (Nat × List D)}
theorem join_next {l : List Str} {k : Nat} (sep : Str) (h : k < l.length) : Lib.join (l.take (k + 1)) sep = if k = 0 then l[k] else Lib.join (l.take k) sep ++ sep ++ l[k] := by
  rw [Fc.take_next h]
  generalize hx : l.take k = xs
  have hl : xs.length = k := by rw [← hx, List.length_take]; omega
  cases xs with
  | nil => simp at hl; subst hl; rw [if_pos rfl]; simp [Lib.join_one]
  | cons y r =>
    rw [if_neg (by simp at hl; omega), List.cons_append, Lib.join_cons, Lib.join_cons]
    simp [Lib.joinTail]
theorem join_len_take (l : List Str) (sep : Str) (k : Nat) : (Lib.join (l.take k) sep).length ≤ (Lib.join l sep).length := by
  have key : ∀ (r : List Str) (k : Nat), (Lib.joinTail sep (r.take k)).length ≤ (Lib.joinTail sep r).length := by
    intro r
    induction r with
    | nil => intro k; simp
    | cons x r ih =>
      intro k
      cases k with
      | zero => simp [Lib.joinTail]
      | succ k =>
        have := ih k
        simp only [List.take_succ_cons, Lib.joinTail, List.map_cons, List.flatten_cons, List.length_append] at this ⊢
        omega
  cases l with
  | nil => simp
  | cons x r =>
    cases k with
    | zero => simp [Lib.join_nil]
    | succ k =>
      rw [List.take_succ_cons, Lib.join_cons, Lib.join_cons, List.length_append, List.length_append]
      have := key r k
      omega
theorem digI_b (x : UInt8) : digI (x.toNat : Int) = digB x := by
  unfold digI digB; exact decide_eq_decide.2 (by omega)
end Go.Proofs

/- Walks: validity of fields and records (reference). -/
namespace Go.Proofs
open Go Go.Ax Go.Tx Go.Fc
set_option maxRecDepth 100000
set_option maxHeartbeats 0
variable {Γ : List (Nat × List D)}
end Go.Proofs

/- Walks: validity of records (reference). -/
namespace Go.Proofs
open Go Go.Ax Go.Tx Go.Fc
set_option maxRecDepth 100000
set_option maxHeartbeats 0
variable {Γ : List (Nat × List D)}
def fewB (l : List Rec) (n : Nat) : Bool := decide (l.length ≤ 8) && (decide (n ≤ 20) && l.all fun r => decide (r.fields.length ≤ 12) && decide (rightR r = 0))
end Go.Proofs

/- Walks: values of facets (reference), first part. -/
namespace Go.Proofs
open Go Go.Ax Go.Tx Go.Fc Go.Or
set_option maxRecDepth 100000
set_option maxHeartbeats 0
variable {Γ : List (Nat × List D)}
def YI (s : Str) (R : Int) (q : Nat × Int × Int) : Prop := q.1 ≤ s.length + 1 ∧ (q.1 ≤ s.length → yrG (s.drop q.1) q.2.1 q.2.2 = R) ∧ (q.1 = s.length + 1 → R = 0) ∧ (0 ≤ q.2.1 ∧ q.2.1 ≤ 9999) ∧ (0 ≤ q.2.2 ∧ q.2.2 ≤ q.1) ∧ (q.2.2 ≤ 3 → q.2.1 < 1000) ∧ (q.2.2 ≤ 2 → q.2.1 < 100) ∧ (q.2.2 ≤ 1 → q.2.1 < 10) ∧ (q.2.2 = 0 → q.2.1 = 0)
end Go.Proofs

/- Walks: values of facets (reference), second part. -/
namespace Go.Proofs
open Go Go.Ax Go.Tx Go.Fc Go.Or Go.Lib
set_option maxRecDepth 100000
set_option maxHeartbeats 0
variable {Γ : List (Nat × List D)}
end Go.Proofs
