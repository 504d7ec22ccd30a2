/- Part of a proof about this program; no condition of its own. -/
import Derived.Test.YtanbfhnmklhjiaaDoorGwB
import Derived.Test.YtanbfhnmklhjiaaDoorGfA
set_option linter.all false
/- The reference's folding, keys and order. No condition. -/
namespace Go.Tx
open Go Go.Ax Go.Lib
theorem foldC_len (c : Nat) : (foldC c).length ≤ 2 := by
  by_cases h : c < 256
  · have key : (List.range 256).all (fun c => decide ((foldC c).length ≤ 2)) = true := by kernel_rfl
    exact of_decide_eq_true (List.all_eq_true.1 key c (List.mem_range.2 h))
  · unfold foldC
    rw [if_neg (by omega), if_pos (by omega)]
    decide
theorem chF_at {s : List UInt8} {k : Nat} (hk : k < s.length) : chF (s.drop k) = ((decF (s.drop k)).1, (s.drop k).take (max (decF (s.drop k)).2 1)) :: chF (s.drop (k + max (decF (s.drop k)).2 1)) := by
  have hne : s.drop k ≠ [] := fun e => by have := congrArg List.length e; rw [List.length_drop] at this; simp at this; omega
  rw [chF_step hne, List.drop_drop]
theorem chD_at {s : List UInt8} {k : Nat} (hk : k < s.length) : chD (s.drop k) = ((decodeL (s.drop k)).1, (s.drop k).take (decodeL (s.drop k)).2) :: chD (s.drop (k + (decodeL (s.drop k)).2)) := by
  have hne : s.drop k ≠ [] := fun e => by have := congrArg List.length e; rw [List.length_drop] at this; simp at this; omega
  rw [chD_step hne, List.drop_drop]
theorem foldC_az {c : Nat} (h1 : 65 ≤ c) (h2 : c ≤ 90) : ([97, 98, 99, 100, 101, 102, 103, 104, 105, 106, 107, 108, 109, 110, 111, 112, 113, 114, 115, 116, 117, 118, 119, 120, 121, 122].drop (c - 65)).take 1 = foldC c := by
  have key : (List.range 91).all (fun c => decide (c < 65) || decide (([97, 98, 99, 100, 101, 102, 103, 104, 105, 106, 107, 108, 109, 110, 111, 112, 113, 114, 115, 116, 117, 118, 119, 120, 121, 122].drop (c - 65)).take 1 = foldC c)) = true := by kernel_rfl
  have := List.all_eq_true.1 key c (List.mem_range.2 (by omega))
  simp only [Bool.or_eq_true, decide_eq_true_eq] at this
  rcases this with h | h
  · omega
  · exact h
theorem encR_len (c : Int) : (encodeRune c).length ≤ 4 := by
  have := runeCells_le c
  rw [runeCells_length] at this
  exact this.2
end Go.Tx
namespace Go.Proofs
open Go Go.Ax Go.Tx Go.Lib Go.RowKit Go.Fc
set_option maxRecDepth 100000
set_option maxHeartbeats 0
variable {Γ : List (Nat × List D)}
end Go.Proofs

/- The reference's keys and order. No condition. -/
namespace Go.Tx
open Go Go.Ax Go.Lib
theorem dec_w {s : List UInt8} {k : Nat} (hk : k < s.length) : 1 ≤ (decodeL (s.drop k)).2 ∧ k + (decodeL (s.drop k)).2 ≤ s.length := by
  have hne : s.drop k ≠ [] := fun e => by have := congrArg List.length e; rw [List.length_drop] at this; simp at this; omega
  have h1 := decodeL_width (s.drop k)
  have h2 : (decodeL (s.drop k)).2 ≤ (s.drop k).length := by
    have := decodeL_le (s.drop k) hne
    exact this
  rw [List.length_drop] at h2
  omega
theorem repC_len (lang : List UInt8) (c : Nat) : (repC lang c).length ≤ 4 := by
  unfold repC
  split
  · decide
  · split
    · exact encR_len _
    · unfold langC gerC sweC spaC
      repeat' split
      all_goals decide
theorem rep_flat_len {lang : List UInt8} : ∀ (xs : List Ch), (xs.flatMap fun ch => repC lang ch.1).length ≤ 4 * xs.length
  | [] => by simp
  | x :: r => by
    have h1 := rep_flat_len (lang := lang) r
    have h2 := repC_len lang x.1
    rw [List.flatMap_cons, List.length_append, List.length_cons]
    omega
theorem chD_len : ∀ (n : Nat) (l : List UInt8), l.length ≤ n → (chD l).length ≤ l.length
  | 0, l, h => by obtain rfl : l = [] := List.length_eq_zero_iff.1 (by omega); exact Nat.le_refl _
  | n + 1, l, h => by
    by_cases hne : l = []
    · subst hne; exact Nat.le_refl _
    · have hl : 1 ≤ l.length := List.length_pos_iff.2 hne
      have hp := decodeL_width l
      have := chD_len n (l.drop (decodeL l).2) (by rw [List.length_drop]; omega)
      rw [chD_step hne, List.length_cons]
      rw [List.length_drop] at this
      omega
theorem repF_len (lang l : List UInt8) : (repF lang l).length ≤ 4 * l.length := by
  have h1 := rep_flat_len (lang := lang) (chD l)
  have h2 := chD_len _ l (Nat.le_refl _)
  unfold repF
  omega
theorem chF_len : ∀ (n : Nat) (l : List UInt8), l.length ≤ n → (chF l).length ≤ l.length
  | 0, l, h => by obtain rfl : l = [] := List.length_eq_zero_iff.1 (by omega); exact Nat.le_refl _
  | n + 1, l, h => by
    by_cases hne : l = []
    · subst hne; exact Nat.le_refl _
    · have hl : 1 ≤ l.length := List.length_pos_iff.2 hne
      have := chF_len n (l.drop (max (decF l).2 1)) (by rw [List.length_drop]; omega)
      rw [chF_step hne, List.length_cons]
      rw [List.length_drop] at this
      omega
theorem fold_flat_len : ∀ (n : Nat) (l : List UInt8), l.length ≤ n → ((chF l).flatMap fold1).length ≤ 2 * l.length
  | 0, l, h => by obtain rfl : l = [] := List.length_eq_zero_iff.1 (by omega); simp [chF, chG]
  | n + 1, l, h => by
    by_cases hne : l = []
    · subst hne; simp [chF, chG]
    · have hl : 1 ≤ l.length := List.length_pos_iff.2 hne
      have h1 := fold_flat_len n (l.drop (max (decF l).2 1)) (by rw [List.length_drop]; omega)
      have h2 := decF_le l hne
      have h3 : (fold1 ((decF l).1, l.take (max (decF l).2 1))).length ≤ 2 * max (decF l).2 1 := by
        unfold fold1
        split
        · rw [List.length_take]; omega
        · have : (foldC (decF l).1).length ≤ 2 := foldC_len (decF l).1
          show (foldC (decF l).1).length ≤ _
          omega
      rw [chF_step hne, List.flatMap_cons, List.length_append]
      rw [List.length_drop] at h1
      omega
theorem foldF_len (l : List UInt8) : (foldF l).length ≤ 2 * l.length := fold_flat_len _ l (Nat.le_refl _)
end Go.Tx
namespace Go.Proofs
open Go Go.Ax Go.Tx Go.Lib Go.RowKit Go.Fc
set_option maxRecDepth 100000
set_option maxHeartbeats 0
variable {Γ : List (Nat × List D)}
theorem cmp_val : ∀ (a b : Str), Lib.compareBytes a b = if Op.bytesLess a b = true then -1 else if a = b then 0 else 1
  | [], [] => by simp [Lib.compareBytes, Op.bytesLess]
  | [], _ :: _ => by simp [Lib.compareBytes, Op.bytesLess]
  | _ :: _, [] => by simp [Lib.compareBytes, Op.bytesLess]
  | a :: r, b :: t => by
    have ih := cmp_val r t
    unfold Lib.compareBytes Op.bytesLess
    by_cases h1 : a < b
    · simp [h1]
    · by_cases h2 : b < a
      · have h3 : ¬ a = b := fun e => by subst e; exact h1 h2
        simp [h1, h2, h3]
      · have h3 : a = b := UInt8.le_antisymm (UInt8.not_lt.1 h2) (UInt8.not_lt.1 h1)
        subst h3
        simp [h1, ih]
def cmpKR (lang a b : Str) : Int := if Lib.compareBytes (keyR lang a) (keyR lang b) ≠ 0 then Lib.compareBytes (keyR lang a) (keyR lang b) else Lib.compareBytes a b
theorem cmpKR_eq {lang a b : Str} (ha : validF a = true) (hb : validF b = true) : cmpKR lang a b = cmpK lang a b := by
  unfold cmpKR cmpK
  rw [key_same ha, key_same hb]
def cmpPR (lang : Str) (x y : Pr) : Int := if cmpKR lang x.1 y.1 ≠ 0 then cmpKR lang x.1 y.1 else cmpKR lang x.2 y.2
end Go.Proofs
