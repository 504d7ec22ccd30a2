/- Small facts on lists: a list changed up to a place; sums of bounds. No condition. -/
import Derived.Test.YtimehiamdikinaaAxVf
set_option linter.all false
namespace Go.Ax
section
variable {α β : Type}
def upto (f : α → α) (k : Nat) (l : List α) : List α := (l.take k).map f ++ l.drop k
theorem upto_zero (f : α → α) (l : List α) : upto f 0 l = l := by simp [upto]
theorem upto_end (f : α → α) {k : Nat} {l : List α} (h : l.length ≤ k) : upto f k l = l.map f := by simp [upto, List.take_of_length_le h, List.drop_eq_nil_of_le h]
theorem upto_len (f : α → α) (k : Nat) (l : List α) : (upto f k l).length = l.length := by simp [upto]; omega
theorem upto_get (f : α → α) {k : Nat} {l : List α} (h : k < l.length) (h' : k < (upto f k l).length) : (upto f k l)[k] = l[k] := by
  simp only [upto]
  rw [List.getElem_append_right (by simp; omega)]
  have e : k + (k - min k l.length) = k := by omega
  simp [e]
theorem upto_succ (f : α → α) {k : Nat} {l : List α} (h : k < l.length) : upto f (k + 1) l = (l.take k).map f ++ f l[k] :: l.drop (k + 1) := by
  simp only [upto, take_next h, List.map_append, List.map_cons, List.map_nil, List.append_assoc, List.cons_append, List.nil_append]
theorem upto_set (f : α → α) {k : Nat} {l : List α} (h : k < l.length) : (upto f k l).set k (f l[k]) = upto f (k + 1) l := by
  rw [upto_succ f h]
  simp only [upto]
  rw [List.set_append_right _ _ (by simp; omega)]
  have e : k - ((l.take k).map f).length = 0 := by simp; omega
  rw [e]
  conv => lhs; rw [drop_cons h]
  rfl
theorem upto_same (f : α → α) {k : Nat} {l : List α} (h : k < l.length) (e : f l[k] = l[k]) : upto f (k + 1) l = upto f k l := by
  rw [upto_succ f h, e]
  simp only [upto]
  rw [drop_cons h]
theorem map_set' (g : α → β) (l : List α) (k : Nat) (x : α) : (l.map g).set k (g x) = (l.set k x).map g := by rw [List.map_set]
theorem all_drop (p : α → Bool) {k : Nat} {l : List α} (h : k < l.length) : (l.drop k).all p = (p l[k] && (l.drop (k + 1)).all p) := by rw [drop_cons h]; rfl
theorem any_drop (p : α → Bool) {k : Nat} {l : List α} (h : k < l.length) : (l.drop k).any p = (p l[k] || (l.drop (k + 1)).any p) := by rw [drop_cons h]; rfl
theorem map_take_next (f : α → β) {k : Nat} {l : List α} (h : k < l.length) : (l.take (k + 1)).map f = (l.take k).map f ++ [f l[k]] := by rw [take_next h, List.map_append]; rfl
theorem countP_take (p : α → Bool) {k : Nat} {l : List α} (h : k < l.length) : (l.take (k + 1)).countP p = (l.take k).countP p + if p l[k] = true then 1 else 0 := by rw [take_next h, List.countP_append, List.countP_singleton]
theorem beq_drop [BEq α] {a b : List α} (h : a.length = b.length) {k : Nat} (hk : k < a.length) : (a.drop k == b.drop k) = ((a[k] == b[k]) && (a.drop (k + 1) == b.drop (k + 1))) := by
  rw [drop_cons hk, drop_cons (show k < b.length by omega)]; rfl
theorem foldl_take (f : β → α → β) (b : β) {k : Nat} {l : List α} (h : k < l.length) : (l.take (k + 1)).foldl f b = f ((l.take k).foldl f b) l[k] := by rw [take_next h, List.foldl_append]; rfl
theorem take_all {k : Nat} {l : List α} (h : l.length ≤ k) : l.take k = l := List.take_of_length_le h
end
end Go.Ax
