/- Part of a proof about this program; no condition of its own. -/
import Derived.Lib.FieldsP
import Derived.Lib.Join
import Derived.Lib.ValidLaws
import Derived.Test.YtanbfhnmklhjiaaGreatDoorGxD
set_option linter.all false
/- Texts: what the library's functions on texts and the reference's compute is the same. Plain Lean; no condition of its own. -/
namespace Go.Tx
open Go Go.Ax Go.Lib

/-- The reference's character at the head of a list of bytes, and the number of its bytes; 0 bytes if there is none. -/
def dec3 (a b c n : Nat) : Nat × Nat :=
  if 32 ≤ a ∧ a < 127 then (a, 1)
  else if 194 ≤ a ∧ a < 224 ∧ 1 < n ∧ 128 ≤ b ∧ b < 192 then (if 160 ≤ (a - 192) * 64 + (b - 128) then ((a - 192) * 64 + (b - 128), 2) else (0, 0))
  else if 224 ≤ a ∧ a < 240 ∧ 2 < n ∧ 128 ≤ b ∧ b < 192 ∧ 128 ≤ c ∧ c < 192 then
    (if 2048 ≤ (a - 224) * 4096 + (b - 128) * 64 + (c - 128) ∧ ((a - 224) * 4096 + (b - 128) * 64 + (c - 128) < 55296 ∨ 57343 < (a - 224) * 4096 + (b - 128) * 64 + (c - 128)) then ((a - 224) * 4096 + (b - 128) * 64 + (c - 128), 3) else (0, 0))
  else (0, 0)
def decF (l : List UInt8) : Nat × Nat := dec3 (l.getD 0 0).toNat (l.getD 1 0).toNat (l.getD 2 0).toNat l.length
def okR (c : Nat) : Bool := !(decide (c < 32) || (decide (127 ≤ c) && decide (c ≤ 159)) || decide (65535 < c))
def blankR (c : Nat) : Bool := decide (c = 32) || decide (c = 160)

set_option maxRecDepth 100000 in
set_option maxHeartbeats 4000000 in
theorem dec_same (a b c d n : Nat) (ha : a < 256) (hb : b < 256) (hc : c < 256) (hd : d < 256) (hn : 1 ≤ n) :
    (0 < (dec3 a b c n).2 → decodeN n a b c d = dec3 a b c n ∧ okR (dec3 a b c n).1 = true ∧ ¬ ((dec3 a b c n).1 = 65533 ∧ (dec3 a b c n).2 = 1)) ∧
    ((dec3 a b c n).2 = 0 → ((decodeN n a b c d).1 = 65533 ∧ (decodeN n a b c d).2 = 1) ∨ okR (decodeN n a b c d).1 = false) := by
  unfold dec3 decodeN okR
  constructor
  · repeat' split
    all_goals first
      | (intro h; exfalso; simp only at h; omega)
      | (intro _; refine ⟨?_, ?_, ?_⟩
         · first | rfl | (exfalso; omega) | (apply Prod.ext <;> simp only <;> omega)
         · simp; omega
         · simp; try omega)
  · repeat' split
    all_goals first
      | (intro h; exfalso; simp only at h; omega)
      | (intro _; left; exact ⟨rfl, rfl⟩)
      | (intro _; right; simp; omega)
      | (exfalso; omega)
theorem u8lt (x : UInt8) : x.toNat < 256 := x.toNat_lt
theorem decodeL_N' (l : List UInt8) : decodeL l = decodeN l.length (l.getD 0 0).toNat (l.getD 1 0).toNat (l.getD 2 0).toNat (l.getD 3 0).toNat := decodeL_N l
theorem decF_pos {l : List UInt8} (hne : l ≠ []) (h : 0 < (decF l).2) : decodeL l = decF l ∧ okR (decF l).1 = true ∧ ¬ ((decF l).1 = 65533 ∧ (decF l).2 = 1) := by
  have hn : 1 ≤ l.length := List.length_pos_iff.2 hne
  rw [decodeL_N']
  exact (dec_same _ _ _ _ _ (u8lt _) (u8lt _) (u8lt _) (u8lt _) hn).1 h
theorem decF_zero {l : List UInt8} (hne : l ≠ []) (h : (decF l).2 = 0) : ((decodeL l).1 = 65533 ∧ (decodeL l).2 = 1) ∨ okR (decodeL l).1 = false := by
  have hn : 1 ≤ l.length := List.length_pos_iff.2 hne
  rw [decodeL_N']
  exact (dec_same _ _ _ _ _ (u8lt _) (u8lt _) (u8lt _) (u8lt _) hn).2 h
theorem decF_le (l : List UInt8) (hne : l ≠ []) : (decF l).2 ≤ l.length := by
  have hn : 1 ≤ l.length := List.length_pos_iff.2 hne
  unfold decF dec3
  repeat' split
  all_goals (simp only; omega)

/-! ### is it a text? -/
def validG : Nat → List UInt8 → Bool
  | 0, _ => true
  | f + 1, l => if l = [] then true else decide (0 < (decF l).2) && validG f (l.drop (decF l).2)
def validF (l : List UInt8) : Bool := validG l.length l
def runesG : Nat → List UInt8 → Bool
  | 0, _ => true
  | f + 1, l => if l = [] then true else okR (decodeL l).1 && runesG f (l.drop (decodeL l).2)
def runesF (l : List UInt8) : Bool := runesG l.length l
theorem validG_fuel : ∀ (n m : Nat) (l : List UInt8), l.length ≤ n → l.length ≤ m → validG n l = validG m l
  | 0, 0, _, _, _ => rfl
  | 0, m + 1, l, h, _ => by obtain rfl : l = [] := List.length_eq_zero_iff.1 (by omega); simp [validG]
  | n + 1, 0, l, _, h => by obtain rfl : l = [] := List.length_eq_zero_iff.1 (by omega); simp [validG]
  | n + 1, m + 1, l, h1, h2 => by
    unfold validG
    split
    · rfl
    · next hne =>
      have : 1 ≤ l.length := List.length_pos_iff.2 hne
      cases hd : decide (0 < (decF l).2) with
      | false => rfl
      | true =>
        have hp : 0 < (decF l).2 := of_decide_eq_true hd
        rw [validG_fuel n m _ (by rw [List.length_drop]; omega) (by rw [List.length_drop]; omega)]
theorem validF_nil : validF [] = true := rfl
theorem validF_step {l : List UInt8} (hne : l ≠ []) : validF l = (decide (0 < (decF l).2) && validF (l.drop (decF l).2)) := by
  have : 1 ≤ l.length := List.length_pos_iff.2 hne
  obtain ⟨n, hn⟩ : ∃ n, l.length = n + 1 := ⟨l.length - 1, by omega⟩
  have e : validF l = validG (n + 1) l := by unfold validF; rw [hn]
  rw [e]
  show (if l = [] then true else decide (0 < (decF l).2) && validG n (l.drop (decF l).2)) = _
  rw [if_neg hne]
  cases hd : decide (0 < (decF l).2) with
  | false => rfl
  | true =>
    have hp : 0 < (decF l).2 := of_decide_eq_true hd
    rw [validG_fuel n (l.drop (decF l).2).length _ (by rw [List.length_drop]; omega) (Nat.le_refl _)]; rfl
theorem runesG_fuel : ∀ (n m : Nat) (l : List UInt8), l.length ≤ n → l.length ≤ m → runesG n l = runesG m l
  | 0, 0, _, _, _ => rfl
  | 0, m + 1, l, h, _ => by obtain rfl : l = [] := List.length_eq_zero_iff.1 (by omega); simp [runesG]
  | n + 1, 0, l, _, h => by obtain rfl : l = [] := List.length_eq_zero_iff.1 (by omega); simp [runesG]
  | n + 1, m + 1, l, h1, h2 => by
    unfold runesG
    split
    · rfl
    · next hne =>
      have : 1 ≤ l.length := List.length_pos_iff.2 hne
      have hp := decodeL_width l
      rw [runesG_fuel n m _ (by rw [List.length_drop]; omega) (by rw [List.length_drop]; omega)]
theorem runesF_step {l : List UInt8} (hne : l ≠ []) : runesF l = (okR (decodeL l).1 && runesF (l.drop (decodeL l).2)) := by
  have : 1 ≤ l.length := List.length_pos_iff.2 hne
  obtain ⟨n, hn⟩ : ∃ n, l.length = n + 1 := ⟨l.length - 1, by omega⟩
  have e : runesF l = runesG (n + 1) l := by unfold runesF; rw [hn]
  rw [e]
  show (if l = [] then true else okR (decodeL l).1 && runesG n (l.drop (decodeL l).2)) = _
  rw [if_neg hne]
  have hp := decodeL_width l
  rw [runesG_fuel n (l.drop (decodeL l).2).length _ (by rw [List.length_drop]; omega) (Nat.le_refl _)]; rfl
theorem valid_same : ∀ (n : Nat) (l : List UInt8), l.length ≤ n → (validD l && runesF l) = validF l
  | 0, l, h => by obtain rfl : l = [] := List.length_eq_zero_iff.1 (by omega); rfl
  | n + 1, l, h => by
    by_cases hne : l = []
    · subst hne; rfl
    · have : 1 ≤ l.length := List.length_pos_iff.2 hne
      rw [validD_step l hne, runesF_step hne, validF_step hne]
      rcases Nat.eq_zero_or_pos (decF l).2 with hz | hp
      · rcases decF_zero hne hz with h1 | h1
        · rw [if_pos h1, hz]; rfl
        · rw [h1, hz]; simp
      · obtain ⟨h1, h2, h3⟩ := decF_pos hne hp
        rw [h1, if_neg h3, h2, Bool.true_and, decide_eq_true hp, Bool.true_and]
        exact valid_same n _ (by rw [List.length_drop]; omega)

/-! ### without superfluous blanks -/
def cleanStep (st : List UInt8 × Bool) (c : Nat) (x : List UInt8) : List UInt8 × Bool :=
  if blankR c = true then (st.1, true) else ((if st.2 = true ∧ st.1 ≠ [] then st.1 ++ [32] else st.1) ++ x, false)
def cleanG : Nat → List UInt8 → List UInt8 × Bool → List UInt8
  | 0, _, st => st.1
  | f + 1, l, st => if l = [] then st.1 else cleanG f (l.drop (max (decF l).2 1)) (cleanStep st (decF l).1 (l.take (max (decF l).2 1)))
def cleanF (l : List UInt8) : List UInt8 := cleanG l.length l ([], false)
def cleanP (l : List UInt8) : List UInt8 := join ((goFieldsP blankR ⟨l.toArray⟩).map (·.data.toList)) [32]
theorem join_snoc : ∀ (xs : List (List UInt8)) (x : List UInt8), join (xs ++ [x]) [32] = if xs = [] then x else join xs [32] ++ [32] ++ x
  | [], x => by simp [join_one]
  | y :: r, x => by
    rw [if_neg (by simp), List.cons_append, join_cons, join_cons]
    simp [joinTail]
theorem join_grow (xs : List (List UInt8)) (x y : List UInt8) : join (xs ++ [x ++ y]) [32] = join (xs ++ [x]) [32] ++ y := by
  rw [join_snoc, join_snoc]
  split <;> simp
theorem join_ne (xs : List (List UInt8)) (h : xs ≠ []) (hx : ∀ x ∈ xs, x ≠ []) : join xs [32] ≠ [] := by
  cases xs with
  | nil => exact absurd rfl h
  | cons y r =>
    rw [join_cons]
    intro e
    exact hx y (by simp) (List.append_eq_nil_iff.1 e).1
end Go.Tx
