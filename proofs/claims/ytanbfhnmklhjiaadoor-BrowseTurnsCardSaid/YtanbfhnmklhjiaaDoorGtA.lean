/- Part of a proof about this program; no condition of its own. -/
import Derived.Lib.FieldsP
import Derived.Lib.Join
import Derived.Lib.ValidLaws
import Derived.Test.YtanbfhnmklhjiaaDoorGxD
import Derived.Lib.MapLaws
set_option linter.all false
/- Texts: what the library's functions on texts and the reference's compute is the same. Plain Lean; no condition of its own. -/
namespace Go.Tx
open Go Go.Ax Go.Lib

/-- The reference's character at the head of a list of bytes, and the number of its bytes; 0 bytes if there is none. -/
def dec3 (a b c n : Nat) : Nat × Nat :=
  if 32 ≤ a ∧ a < 127 then (a, 1)
  else if 194 ≤ a ∧ a < 224 ∧ 1 < n ∧ 128 ≤ b ∧ b < 192 then (if 160 ≤ (a - 192) * 64 + (b - 128) then ((a - 192) * 64 + (b - 128), 2) else (0, 0))
  else if 224 ≤ a ∧ a < 240 ∧ 2 < n ∧ 128 ≤ b ∧ b < 192 ∧ 128 ≤ c ∧ c < 192 then
    (if 2048 ≤ (a - 224) * 4096 + (b - 128) * 64 + (c - 128) ∧ ((a - 224) * 4096 + (b - 128) * 64 + (c - 128) < 55296 ∨ 57343 < (a - 224) * 4096 + (b - 128) * 64 + (c - 128)) then ((a - 224) * 4096 + (b - 128) * 64 + (c - 128), 3) else (0, 0))
  else (0, 0)
def decF (l : List UInt8) : Nat × Nat := dec3 (l.getD 0 0).toNat (l.getD 1 0).toNat (l.getD 2 0).toNat l.length
def okR (c : Nat) : Bool := !(decide (c < 32) || (decide (127 ≤ c) && decide (c ≤ 159)) || decide (65535 < c))
def blankR (c : Nat) : Bool := decide (c = 32) || decide (c = 160)

set_option maxRecDepth 100000 in
set_option maxHeartbeats 4000000 in
theorem dec_same (a b c d n : Nat) (ha : a < 256) (hb : b < 256) (hc : c < 256) (hd : d < 256) (hn : 1 ≤ n) :
    (0 < (dec3 a b c n).2 → decodeN n a b c d = dec3 a b c n ∧ okR (dec3 a b c n).1 = true ∧ ¬ ((dec3 a b c n).1 = 65533 ∧ (dec3 a b c n).2 = 1)) ∧
    ((dec3 a b c n).2 = 0 → ((decodeN n a b c d).1 = 65533 ∧ (decodeN n a b c d).2 = 1) ∨ okR (decodeN n a b c d).1 = false) := by
  unfold dec3 decodeN okR
  constructor
  · repeat' split
    all_goals first
      | (intro h; exfalso; simp only at h; omega)
      | (intro _; refine ⟨?_, ?_, ?_⟩
         · first | rfl | (exfalso; omega) | (apply Prod.ext <;> simp only <;> omega)
         · simp; omega
         · simp; try omega)
  · repeat' split
    all_goals first
      | (intro h; exfalso; simp only at h; omega)
      | (intro _; left; exact ⟨rfl, rfl⟩)
      | (intro _; right; simp; omega)
      | (exfalso; omega)
theorem u8lt (x : UInt8) : x.toNat < 256 := x.toNat_lt
theorem decodeL_N' (l : List UInt8) : decodeL l = decodeN l.length (l.getD 0 0).toNat (l.getD 1 0).toNat (l.getD 2 0).toNat (l.getD 3 0).toNat := decodeL_N l
theorem decF_pos {l : List UInt8} (hne : l ≠ []) (h : 0 < (decF l).2) : decodeL l = decF l ∧ okR (decF l).1 = true ∧ ¬ ((decF l).1 = 65533 ∧ (decF l).2 = 1) := by
  have hn : 1 ≤ l.length := List.length_pos_iff.2 hne
  rw [decodeL_N']
  exact (dec_same _ _ _ _ _ (u8lt _) (u8lt _) (u8lt _) (u8lt _) hn).1 h
theorem decF_zero {l : List UInt8} (hne : l ≠ []) (h : (decF l).2 = 0) : ((decodeL l).1 = 65533 ∧ (decodeL l).2 = 1) ∨ okR (decodeL l).1 = false := by
  have hn : 1 ≤ l.length := List.length_pos_iff.2 hne
  rw [decodeL_N']
  exact (dec_same _ _ _ _ _ (u8lt _) (u8lt _) (u8lt _) (u8lt _) hn).2 h
theorem decF_le (l : List UInt8) (hne : l ≠ []) : (decF l).2 ≤ l.length := by
  have hn : 1 ≤ l.length := List.length_pos_iff.2 hne
  unfold decF dec3
  repeat' split
  all_goals (simp only; omega)

/-! ### is it a text? -/
def validG : Nat → List UInt8 → Bool
  | 0, _ => true
  | f + 1, l => if l = [] then true else decide (0 < (decF l).2) && validG f (l.drop (decF l).2)
def validF (l : List UInt8) : Bool := validG l.length l
def runesG : Nat → List UInt8 → Bool
  | 0, _ => true
  | f + 1, l => if l = [] then true else okR (decodeL l).1 && runesG f (l.drop (decodeL l).2)
def runesF (l : List UInt8) : Bool := runesG l.length l
theorem validG_fuel : ∀ (n m : Nat) (l : List UInt8), l.length ≤ n → l.length ≤ m → validG n l = validG m l
  | 0, 0, _, _, _ => rfl
  | 0, m + 1, l, h, _ => by obtain rfl : l = [] := List.length_eq_zero_iff.1 (by omega); simp [validG]
  | n + 1, 0, l, _, h => by obtain rfl : l = [] := List.length_eq_zero_iff.1 (by omega); simp [validG]
  | n + 1, m + 1, l, h1, h2 => by
    unfold validG
    split
    · rfl
    · next hne =>
      have : 1 ≤ l.length := List.length_pos_iff.2 hne
      cases hd : decide (0 < (decF l).2) with
      | false => rfl
      | true =>
        have hp : 0 < (decF l).2 := of_decide_eq_true hd
        rw [validG_fuel n m _ (by rw [List.length_drop]; omega) (by rw [List.length_drop]; omega)]
theorem validF_nil : validF [] = true := rfl
theorem validF_step {l : List UInt8} (hne : l ≠ []) : validF l = (decide (0 < (decF l).2) && validF (l.drop (decF l).2)) := by
  have : 1 ≤ l.length := List.length_pos_iff.2 hne
  obtain ⟨n, hn⟩ : ∃ n, l.length = n + 1 := ⟨l.length - 1, by omega⟩
  have e : validF l = validG (n + 1) l := by unfold validF; rw [hn]
  rw [e]
  show (if l = [] then true else decide (0 < (decF l).2) && validG n (l.drop (decF l).2)) = _
  rw [if_neg hne]
  cases hd : decide (0 < (decF l).2) with
  | false => rfl
  | true =>
    have hp : 0 < (decF l).2 := of_decide_eq_true hd
    rw [validG_fuel n (l.drop (decF l).2).length _ (by rw [List.length_drop]; omega) (Nat.le_refl _)]; rfl
theorem runesG_fuel : ∀ (n m : Nat) (l : List UInt8), l.length ≤ n → l.length ≤ m → runesG n l = runesG m l
  | 0, 0, _, _, _ => rfl
  | 0, m + 1, l, h, _ => by obtain rfl : l = [] := List.length_eq_zero_iff.1 (by omega); simp [runesG]
  | n + 1, 0, l, _, h => by obtain rfl : l = [] := List.length_eq_zero_iff.1 (by omega); simp [runesG]
  | n + 1, m + 1, l, h1, h2 => by
    unfold runesG
    split
    · rfl
    · next hne =>
      have : 1 ≤ l.length := List.length_pos_iff.2 hne
      have hp := decodeL_width l
      rw [runesG_fuel n m _ (by rw [List.length_drop]; omega) (by rw [List.length_drop]; omega)]
theorem runesF_step {l : List UInt8} (hne : l ≠ []) : runesF l = (okR (decodeL l).1 && runesF (l.drop (decodeL l).2)) := by
  have : 1 ≤ l.length := List.length_pos_iff.2 hne
  obtain ⟨n, hn⟩ : ∃ n, l.length = n + 1 := ⟨l.length - 1, by omega⟩
  have e : runesF l = runesG (n + 1) l := by unfold runesF; rw [hn]
  rw [e]
  show (if l = [] then true else okR (decodeL l).1 && runesG n (l.drop (decodeL l).2)) = _
  rw [if_neg hne]
  have hp := decodeL_width l
  rw [runesG_fuel n (l.drop (decodeL l).2).length _ (by rw [List.length_drop]; omega) (Nat.le_refl _)]; rfl
theorem valid_same : ∀ (n : Nat) (l : List UInt8), l.length ≤ n → (validD l && runesF l) = validF l
  | 0, l, h => by obtain rfl : l = [] := List.length_eq_zero_iff.1 (by omega); rfl
  | n + 1, l, h => by
    by_cases hne : l = []
    · subst hne; rfl
    · have : 1 ≤ l.length := List.length_pos_iff.2 hne
      rw [validD_step l hne, runesF_step hne, validF_step hne]
      rcases Nat.eq_zero_or_pos (decF l).2 with hz | hp
      · rcases decF_zero hne hz with h1 | h1
        · rw [if_pos h1, hz]; rfl
        · rw [h1, hz]; simp
      · obtain ⟨h1, h2, h3⟩ := decF_pos hne hp
        rw [h1, if_neg h3, h2, Bool.true_and, decide_eq_true hp, Bool.true_and]
        exact valid_same n _ (by rw [List.length_drop]; omega)

/-! ### without superfluous blanks -/
def cleanStep (st : List UInt8 × Bool) (c : Nat) (x : List UInt8) : List UInt8 × Bool :=
  if blankR c = true then (st.1, true) else ((if st.2 = true ∧ st.1 ≠ [] then st.1 ++ [32] else st.1) ++ x, false)
def cleanG : Nat → List UInt8 → List UInt8 × Bool → List UInt8
  | 0, _, st => st.1
  | f + 1, l, st => if l = [] then st.1 else cleanG f (l.drop (max (decF l).2 1)) (cleanStep st (decF l).1 (l.take (max (decF l).2 1)))
def cleanF (l : List UInt8) : List UInt8 := cleanG l.length l ([], false)
def cleanP (l : List UInt8) : List UInt8 := join ((goFieldsP blankR ⟨l.toArray⟩).map (·.data.toList)) [32]
theorem join_snoc : ∀ (xs : List (List UInt8)) (x : List UInt8), join (xs ++ [x]) [32] = if xs = [] then x else join xs [32] ++ [32] ++ x
  | [], x => by simp [join_one]
  | y :: r, x => by
    rw [if_neg (by simp), List.cons_append, join_cons, join_cons]
    simp [joinTail]
theorem join_grow (xs : List (List UInt8)) (x y : List UInt8) : join (xs ++ [x ++ y]) [32] = join (xs ++ [x]) [32] ++ y := by
  rw [join_snoc, join_snoc]
  split <;> simp
theorem join_ne (xs : List (List UInt8)) (h : xs ≠ []) (hx : ∀ x ∈ xs, x ≠ []) : join xs [32] ≠ [] := by
  cases xs with
  | nil => exact absurd rfl h
  | cons y r =>
    rw [join_cons]
    intro e
    exact hx y (by simp) (List.append_eq_nil_iff.1 e).1
end Go.Tx

/- Texts: a text without superfluous blanks, by the library's fields and by the reference. Plain Lean; no condition of its own. -/
namespace Go.Tx
open Go Go.Ax Go.Lib
def piecesOf (l : List UInt8) (acc : List (Nat × Nat)) : List (List UInt8) := acc.map fun x => pieceU l x.1 x.2
def openOf (l : List UInt8) (st : Option Nat) (pos : Nat) : List (List UInt8) := match st with | some a => [pieceU l a pos] | none => []
structure Rel (l : List UInt8) (pos : Nat) (st : Option Nat) (acc : List (Nat × Nat)) (out : List UInt8 × Bool) : Prop where
  eq : out.1 = join (piecesOf l acc ++ openOf l st pos) [32]
  opn : ∀ a, st = some a → a < pos ∧ out.2 = false
  cls : st = none → out.2 = true ∨ acc = []
  ne : ∀ x ∈ piecesOf l acc, x ≠ []
theorem clean_from (s : ByteArray) (l : List UInt8) (hl : l = s.data.toList) : ∀ (f g pos : Nat) (st : Option Nat) (acc : List (Nat × Nat)) (out : List UInt8 × Bool), l.length ≤ pos + f → l.length ≤ pos + g → pos ≤ l.length → validF (l.drop pos) = true → Rel l pos st acc out →
    join (piecesOf l (closeSpans s (spansFromP blankR s f pos st acc))) [32] = cleanG g (l.drop pos) out
  | f, g, pos, st, acc, out, hf, hg, hp, hv, hr => by
    have hsz : s.size = l.length := by rw [hl, ← size_eq]
    by_cases hlt : pos < l.length
    · match f, g, hf, hg with
      | 0, _, hf, _ => exact absurd hf (by omega)
      | _ + 1, 0, _, hg => exact absurd hg (by omega)
      | f + 1, g + 1, hf, hg =>
        have hne : l.drop pos ≠ [] := fun e => by have := congrArg List.length e; rw [List.length_drop] at this; simp at this; omega
        rw [validF_step hne, Bool.and_eq_true, decide_eq_true_eq] at hv
        obtain ⟨hv1, hv2⟩ := hv
        obtain ⟨hd, _, _⟩ := decF_pos hne hv1
        have hle := decF_le _ hne
        rw [List.length_drop] at hle
        have hdec : Utf8.decode s pos = decF (l.drop pos) := by rw [← decodeL_drop, ← hl]; exact hd
        rw [List.drop_drop] at hv2
        show join (piecesOf l (closeSpans s (spansFromP blankR s (f + 1) pos st acc))) [32] = (if l.drop pos = [] then out.1 else cleanG g ((l.drop pos).drop (max (decF (l.drop pos)).2 1)) (cleanStep out (decF (l.drop pos)).1 ((l.drop pos).take (max (decF (l.drop pos)).2 1))))
        rw [if_neg hne, show max (decF (l.drop pos)).2 1 = (decF (l.drop pos)).2 by omega, List.drop_drop]
        simp only [spansFromP, hsz, if_pos hlt, hdec]
        generalize hc : (decF (l.drop pos)).1 = c at *
        generalize hk : (decF (l.drop pos)).2 = k at *
        cases hb : blankR c with
        | true =>
          simp only [if_true]
          have hcs : cleanStep out c ((l.drop pos).take k) = (out.1, true) := by unfold cleanStep; rw [if_pos hb]
          rw [hcs]
          cases st with
          | none =>
            exact clean_from s l hl f g (pos + k) none acc _ (by omega) (by omega) (by omega) hv2 ⟨by have := hr.eq; simpa [openOf] using this, (fun a h => by cases h), fun _ => .inl rfl, hr.ne⟩
          | some a =>
            have ha := (hr.opn a rfl).1
            refine clean_from s l hl f g (pos + k) none (acc ++ [(a, pos)]) _ (by omega) (by omega) (by omega) hv2 ⟨?_, (fun a h => by cases h), fun _ => .inl rfl, fun x hx => ?_⟩
            · have := hr.eq; simpa [openOf, piecesOf] using this
            · unfold piecesOf at hx
              rw [List.map_append] at hx
              rcases List.mem_append.1 hx with hx | hx
              · exact hr.ne x hx
              · simp at hx; subst hx; exact pieceU_ne l a pos ha (by omega)
        | false =>
          simp only [Bool.false_eq_true, if_false]
          have hcs : cleanStep out c ((l.drop pos).take k) = ((if out.2 = true ∧ out.1 ≠ [] then out.1 ++ [32] else out.1) ++ (l.drop pos).take k, false) := by unfold cleanStep; rw [if_neg (by simp [hb])]
          rw [hcs]
          cases st with
          | none =>
            refine clean_from s l hl f g (pos + k) (some pos) acc _ (by omega) (by omega) (by omega) hv2 ⟨?_, (fun a h => by cases h; exact ⟨by omega, rfl⟩), (fun h => by cases h), hr.ne⟩
            have ho := hr.eq
            simp only [openOf, List.append_nil] at ho
            have hpc : pieceU l pos (pos + k) = (l.drop pos).take k := by unfold pieceU; rw [show pos + k - pos = k by omega]
            simp only [openOf, hpc]
            rw [join_snoc]
            by_cases hacc : piecesOf l acc = []
            · rw [if_pos hacc]
              have : out.1 = [] := by rw [ho, hacc]; rfl
              rw [if_neg (by simp [this]), this]; rfl
            · rw [if_neg hacc]
              have hg2 : out.2 = true := by
                rcases hr.cls rfl with h | h
                · exact h
                · exact absurd (by rw [h]; rfl) hacc
              have : out.1 ≠ [] := by rw [ho]; exact join_ne _ hacc hr.ne
              rw [if_pos ⟨hg2, this⟩, ho]
          | some a =>
            obtain ⟨ha, hg2⟩ := hr.opn a rfl
            refine clean_from s l hl f g (pos + k) (some a) acc _ (by omega) (by omega) (by omega) hv2 ⟨?_, (fun b h => by cases h; exact ⟨by omega, rfl⟩), (fun h => by cases h), hr.ne⟩
            have ho := hr.eq
            simp only [openOf] at ho ⊢
            rw [if_neg (by simp [hg2]), ← pieceU_grow l a pos k (by omega), join_grow, ho]
    · have hd : l.drop pos = [] := List.drop_eq_nil_of_le (by omega)
      have e1 : spansFromP blankR s f pos st acc = (acc, st) := spansFromP_end _ _ _ _ _ _ (by omega)
      have e2 : cleanG g (l.drop pos) out = out.1 := by rw [hd]; cases g <;> rfl
      rw [e1, e2, hr.eq]
      have hps : pos = s.size := by omega
      cases st with
      | none => simp [closeSpans, openOf]
      | some a => simp [closeSpans, openOf, piecesOf, hps]
termination_by f => f
theorem clean_same (l : List UInt8) (hv : validF l = true) : cleanP l = cleanF l := by
  have h := clean_from ⟨l.toArray⟩ l (by simp) l.length l.length 0 none [] ([], false) (by omega) (by omega) (by omega) (by simpa using hv) ⟨rfl, (fun a h => by cases h), fun _ => .inr rfl, (fun x hx => by cases hx)⟩
  rw [List.drop_zero] at h
  unfold cleanP cleanF
  rw [← h]
  congr 1
  unfold goFieldsP spansOfP piecesOf
  rw [List.map_map]
  have hsz : (⟨l.toArray⟩ : ByteArray).size = l.length := rfl
  rw [hsz]
  refine List.map_congr_left fun x _ => ?_
  show (ByteArray.extract ⟨l.toArray⟩ x.1 x.2).data.toList = pieceU l x.1 x.2
  rw [extract_data]; rfl
/-- Is it a text without superfluous blanks? -/
def noteF (l : List UInt8) : Bool := validF l && decide (cleanF l = l)
theorem note_same (l : List UInt8) : (validF l && decide (cleanP l = l)) = noteF l := by
  unfold noteF
  cases h : validF l with
  | false => rfl
  | true => rw [clean_same l h]
end Go.Tx

/- Texts as rows of characters: folding, words, keys. Plain Lean; no condition of its own. -/
namespace Go.Tx
open Go Go.Ax Go.Lib
abbrev Ch := Nat × List UInt8
/-! ### the reference's characters -/
def chG : Nat → List UInt8 → List Ch
  | 0, _ => []
  | f + 1, l => if l = [] then [] else ((decF l).1, l.take (max (decF l).2 1)) :: chG f (l.drop (max (decF l).2 1))
def chF (l : List UInt8) : List Ch := chG l.length l
theorem chG_fuel : ∀ (n m : Nat) (l : List UInt8), l.length ≤ n → l.length ≤ m → chG n l = chG m l
  | 0, 0, _, _, _ => rfl
  | 0, m + 1, l, h, _ => by obtain rfl : l = [] := List.length_eq_zero_iff.1 (by omega); simp [chG]
  | n + 1, 0, l, _, h => by obtain rfl : l = [] := List.length_eq_zero_iff.1 (by omega); simp [chG]
  | n + 1, m + 1, l, h1, h2 => by
    unfold chG
    split
    · rfl
    · next hne =>
      have : 1 ≤ l.length := List.length_pos_iff.2 hne
      rw [chG_fuel n m _ (by rw [List.length_drop]; omega) (by rw [List.length_drop]; omega)]
theorem chF_nil : chF [] = [] := rfl
theorem chF_step {l : List UInt8} (hne : l ≠ []) : chF l = ((decF l).1, l.take (max (decF l).2 1)) :: chF (l.drop (max (decF l).2 1)) := by
  have : 1 ≤ l.length := List.length_pos_iff.2 hne
  obtain ⟨n, hn⟩ : ∃ n, l.length = n + 1 := ⟨l.length - 1, by omega⟩
  have e : chF l = chG (n + 1) l := by unfold chF; rw [hn]
  rw [e]
  show (if l = [] then _ else _ :: chG n (l.drop (max (decF l).2 1))) = _
  rw [if_neg hne, chG_fuel n (l.drop (max (decF l).2 1)).length _ (by rw [List.length_drop]; omega) (Nat.le_refl _)]; rfl
/-! ### the characters of a range -/
def chE : Nat → List UInt8 → List Ch
  | 0, _ => []
  | f + 1, l => if l = [] then [] else ((decodeL l).1, l.take (decodeL l).2) :: chE f (l.drop (decodeL l).2)
def chD (l : List UInt8) : List Ch := chE l.length l
theorem chE_fuel : ∀ (n m : Nat) (l : List UInt8), l.length ≤ n → l.length ≤ m → chE n l = chE m l
  | 0, 0, _, _, _ => rfl
  | 0, m + 1, l, h, _ => by obtain rfl : l = [] := List.length_eq_zero_iff.1 (by omega); simp [chE]
  | n + 1, 0, l, _, h => by obtain rfl : l = [] := List.length_eq_zero_iff.1 (by omega); simp [chE]
  | n + 1, m + 1, l, h1, h2 => by
    unfold chE
    split
    · rfl
    · next hne =>
      have : 1 ≤ l.length := List.length_pos_iff.2 hne
      have hp := decodeL_width l
      rw [chE_fuel n m _ (by rw [List.length_drop]; omega) (by rw [List.length_drop]; omega)]
theorem chD_nil : chD [] = [] := rfl
theorem chD_step {l : List UInt8} (hne : l ≠ []) : chD l = ((decodeL l).1, l.take (decodeL l).2) :: chD (l.drop (decodeL l).2) := by
  have : 1 ≤ l.length := List.length_pos_iff.2 hne
  obtain ⟨n, hn⟩ : ∃ n, l.length = n + 1 := ⟨l.length - 1, by omega⟩
  have e : chD l = chE (n + 1) l := by unfold chD; rw [hn]
  have hp := decodeL_width l
  rw [e]
  show (if l = [] then _ else _ :: chE n (l.drop (decodeL l).2)) = _
  rw [if_neg hne, chE_fuel n (l.drop (decodeL l).2).length _ (by rw [List.length_drop]; omega) (Nat.le_refl _)]; rfl
/-- On texts they are the same. -/
theorem ch_same : ∀ (n : Nat) (l : List UInt8), l.length ≤ n → validF l = true → chD l = chF l
  | 0, l, h, _ => by obtain rfl : l = [] := List.length_eq_zero_iff.1 (by omega); rfl
  | n + 1, l, h, hv => by
    by_cases hne : l = []
    · subst hne; rfl
    · have : 1 ≤ l.length := List.length_pos_iff.2 hne
      rw [validF_step hne, Bool.and_eq_true, decide_eq_true_eq] at hv
      obtain ⟨h1, _, _⟩ := decF_pos hne hv.1
      rw [chD_step hne, chF_step hne, h1, show max (decF l).2 1 = (decF l).2 by omega]
      rw [ch_same n _ (by rw [List.length_drop]; omega) hv.2]
/-- What a text's head is read as, stands before more. -/
theorem decF_append {x : List UInt8} (y : List UInt8) (h : 0 < (decF x).2) : decF (x ++ y) = decF x := by
  have key : ∀ (a b c b' c' n m : Nat), n ≤ m → (1 < n → b' = b) → (2 < n → c' = c) → 0 < (dec3 a b c n).2 → dec3 a b' c' m = dec3 a b c n := by
    intro a b c b' c' n m hm hb hc h
    unfold dec3 at *
    by_cases h1 : 32 ≤ a ∧ a < 127
    · rw [if_pos h1, if_pos h1]
    · rw [if_neg h1] at h ⊢
      rw [if_neg h1]
      by_cases h2 : 194 ≤ a ∧ a < 224 ∧ 1 < n ∧ 128 ≤ b ∧ b < 192
      · obtain ⟨q1, q2, q3, q4, q5⟩ := h2
        have := hb q3; subst this
        rw [if_pos (show 194 ≤ a ∧ a < 224 ∧ 1 < m ∧ 128 ≤ b' ∧ b' < 192 from ⟨q1, q2, by omega, q4, q5⟩), if_pos (show 194 ≤ a ∧ a < 224 ∧ 1 < n ∧ 128 ≤ b' ∧ b' < 192 from ⟨q1, q2, q3, q4, q5⟩)]
      · rw [if_neg h2] at h ⊢
        by_cases h3 : 224 ≤ a ∧ a < 240 ∧ 2 < n ∧ 128 ≤ b ∧ b < 192 ∧ 128 ≤ c ∧ c < 192
        · obtain ⟨q1, q2, q3, q4, q5, q6, q7⟩ := h3
          have := hb (by omega); subst this
          have := hc q3; subst this
          rw [if_neg (show ¬(194 ≤ a ∧ a < 224 ∧ 1 < m ∧ 128 ≤ b' ∧ b' < 192) by omega), if_pos (show 224 ≤ a ∧ a < 240 ∧ 2 < m ∧ 128 ≤ b' ∧ b' < 192 ∧ 128 ≤ c' ∧ c' < 192 from ⟨q1, q2, by omega, q4, q5, q6, q7⟩), if_pos (show 224 ≤ a ∧ a < 240 ∧ 2 < n ∧ 128 ≤ b' ∧ b' < 192 ∧ 128 ≤ c' ∧ c' < 192 from ⟨q1, q2, q3, q4, q5, q6, q7⟩)]
        · rw [if_neg h3] at h; simp at h
  by_cases hx : x = []
  · subst hx; unfold decF dec3 at h; simp at h
  · have hl := List.length_pos_iff.2 hx
    unfold decF at *
    have e0 : (x ++ y).getD 0 0 = x.getD 0 0 := by simp [List.getD, List.getElem?_append_left hl]
    rw [e0]
    refine key _ _ _ _ _ _ _ (by simp) (fun h1 => ?_) (fun h2 => ?_) h
    · simp [List.getD, List.getElem?_append_left h1]
    · simp [List.getD, List.getElem?_append_left h2]
theorem decF_take {l : List UInt8} (hne : l ≠ []) (h : 0 < (decF l).2) : decF (l.take (decF l).2) = decF l := by
  have key : ∀ (a b c n : Nat), 1 ≤ n → ∀ b' c' : Nat, (1 < (dec3 a b c n).2 → b' = b) → (2 < (dec3 a b c n).2 → c' = c) → 0 < (dec3 a b c n).2 → dec3 a b' c' (dec3 a b c n).2 = dec3 a b c n := by
    intro a b c n hn b' c' hb hc h
    unfold dec3 at *
    by_cases h1 : 32 ≤ a ∧ a < 127
    · simp only [if_pos h1]
    · simp only [if_neg h1] at *
      by_cases h2 : 194 ≤ a ∧ a < 224 ∧ 1 < n ∧ 128 ≤ b ∧ b < 192
      · simp only [if_pos h2] at *
        by_cases h3 : 160 ≤ (a - 192) * 64 + (b - 128)
        · simp only [if_pos h3] at *
          have := hb (by omega); subst this
          rw [if_pos ⟨h2.1, h2.2.1, by omega, h2.2.2.2.1, h2.2.2.2.2⟩]
          exact if_pos h3
        · simp only [if_neg h3] at h; omega
      · simp only [if_neg h2] at *
        by_cases h3 : 224 ≤ a ∧ a < 240 ∧ 2 < n ∧ 128 ≤ b ∧ b < 192 ∧ 128 ≤ c ∧ c < 192
        · simp only [if_pos h3] at *
          split at h
          · next h4 =>
            simp only [if_pos h4] at *
            have := hb (by omega); subst this
            have := hc (by omega); subst this
            rw [if_neg (by omega), if_pos ⟨h3.1, h3.2.1, by omega, h3.2.2.2.1, h3.2.2.2.2.1, h3.2.2.2.2.2.1, h3.2.2.2.2.2.2⟩]
            exact if_pos h4
          · simp only at h; omega
        · simp only [if_neg h3] at h; omega
  have hl := List.length_pos_iff.2 hne
  have hle := decF_le l hne
  have e0 : (l.take (decF l).2).getD 0 0 = l.getD 0 0 := by simp [List.getD, List.getElem?_take, h]
  have el : (l.take (decF l).2).length = (decF l).2 := by rw [List.length_take]; omega
  have e := key (l.getD 0 0).toNat (l.getD 1 0).toNat (l.getD 2 0).toNat l.length hl ((l.take (decF l).2).getD 1 0).toNat ((l.take (decF l).2).getD 2 0).toNat
    (fun q => by have q : 1 < (decF l).2 := q; simp [List.getD, List.getElem?_take, q]) (fun q => by have q : 2 < (decF l).2 := q; simp [List.getD, List.getElem?_take, q]) h
  show dec3 ((l.take (decF l).2).getD 0 0).toNat ((l.take (decF l).2).getD 1 0).toNat ((l.take (decF l).2).getD 2 0).toNat (l.take (decF l).2).length = _
  rw [e0, el]
  exact e
/-- A text before a row: its characters, then the row's. -/
theorem chF_append : ∀ (n : Nat) (x y : List UInt8), x.length ≤ n → validF x = true → chF (x ++ y) = chF x ++ chF y
  | 0, x, y, h, _ => by obtain rfl : x = [] := List.length_eq_zero_iff.1 (by omega); rfl
  | n + 1, x, y, h, hv => by
    by_cases hne : x = []
    · subst hne; rfl
    · have hl : 1 ≤ x.length := List.length_pos_iff.2 hne
      rw [validF_step hne, Bool.and_eq_true, decide_eq_true_eq] at hv
      have hle := decF_le x hne
      rw [chF_step (by simp [hne]), chF_step hne, decF_append y hv.1, show max (decF x).2 1 = (decF x).2 by omega, List.take_append_of_le_length hle, List.drop_append_of_le_length hle,
        chF_append n _ y (by rw [List.length_drop]; omega) hv.2]
      rfl
theorem validF_append : ∀ (n : Nat) (x y : List UInt8), x.length ≤ n → validF x = true → validF (x ++ y) = validF y
  | 0, x, y, h, _ => by obtain rfl : x = [] := List.length_eq_zero_iff.1 (by omega); rfl
  | n + 1, x, y, h, hv => by
    by_cases hne : x = []
    · subst hne; rfl
    · have hl : 1 ≤ x.length := List.length_pos_iff.2 hne
      rw [validF_step hne, Bool.and_eq_true, decide_eq_true_eq] at hv
      have hle := decF_le x hne
      rw [validF_step (by simp [hne]), decF_append y hv.1, List.drop_append_of_le_length hle, decide_eq_true hv.1, Bool.true_and]
      exact validF_append n _ y (by rw [List.length_drop]; omega) hv.2
theorem validF_flat {α : Type} (f : α → List UInt8) : ∀ (xs : List α), (∀ x ∈ xs, validF (f x) = true) → validF (xs.flatMap f) = true
  | [], _ => rfl
  | x :: r, h => by
    rw [List.flatMap_cons, validF_append _ _ _ (Nat.le_refl _) (h x (by simp))]
    exact validF_flat f r fun y hy => h y (by simp [hy])
/-- A character of a text is a text, and reads as itself. -/
theorem ch_valid : ∀ (n : Nat) (l : List UInt8), l.length ≤ n → validF l = true → ∀ ch ∈ chF l, validF ch.2 = true ∧ ch.2 ≠ [] ∧ decF ch.2 = (ch.1, ch.2.length) ∧ okR ch.1 = true
  | 0, l, h, _ => by obtain rfl : l = [] := List.length_eq_zero_iff.1 (by omega); intro ch hc; cases hc
  | n + 1, l, h, hv => by
    by_cases hne : l = []
    · subst hne; intro ch hc; cases hc
    · have hl : 1 ≤ l.length := List.length_pos_iff.2 hne
      rw [validF_step hne, Bool.and_eq_true, decide_eq_true_eq] at hv
      have hle := decF_le l hne
      intro ch hc
      rw [chF_step hne, show max (decF l).2 1 = (decF l).2 by omega] at hc
      rcases List.mem_cons.1 hc with rfl | hc
      · have ht := decF_take hne hv.1
        have hlen : (l.take (decF l).2).length = (decF l).2 := by rw [List.length_take]; omega
        have hnt : l.take (decF l).2 ≠ [] := fun e => by rw [e] at hlen; simp at hlen; omega
        refine ⟨?_, hnt, by simp only [ht, hlen], (decF_pos hne hv.1).2.1⟩
        rw [validF_step hnt, ht, decide_eq_true hv.1, List.drop_of_length_le (by omega)]
        rfl
      · exact ch_valid n _ (by rw [List.length_drop]; omega) hv.2 ch hc
theorem ch_enc {l : List UInt8} (hv : validF l = true) : ∀ ch ∈ chF l, encodeRune (ch.1 : Int) = ch.2 := by
  intro ch hc
  obtain ⟨h1, h2, h3, _⟩ := ch_valid _ l (Nat.le_refl _) hv ch hc
  have hp : 0 < (decF ch.2).2 := by rw [h3]; exact List.length_pos_iff.2 h2
  obtain ⟨e1, _, e3⟩ := decF_pos h2 hp
  have := encode_decode ch.2 h2 (by rw [e1]; exact e3)
  rw [e1, h3] at this
  simpa using this
theorem ch_flat : ∀ (n : Nat) (l : List UInt8), l.length ≤ n → (chF l).flatMap (·.2) = l
  | 0, l, h => by obtain rfl : l = [] := List.length_eq_zero_iff.1 (by omega); rfl
  | n + 1, l, h => by
    by_cases hne : l = []
    · subst hne; rfl
    · have hl : 1 ≤ l.length := List.length_pos_iff.2 hne
      rw [chF_step hne, List.flatMap_cons, ch_flat n _ (by rw [List.length_drop]; omega)]
      exact List.take_append_drop _ _
/-! ### folding -/
def foldC (c : Nat) : List UInt8 :=
  if 65 ≤ c ∧ c ≤ 90 then [(c + 32).toUInt8] else if c < 192 ∨ 255 < c ∨ c = 215 ∨ c = 247 then [] else if c = 223 then [115, 115] else if c = 255 then [121] else
  let d := if 224 ≤ c then c - 32 else c
  if d ≤ 197 then [97] else if d = 198 then [97, 101] else if d = 199 then [99] else if d ≤ 203 then [101] else if d ≤ 207 then [105] else if d = 208 then [100] else if d = 209 then [110] else if d ≤ 216 then [111] else if d ≤ 220 then [117] else if d = 221 then [121] else [116, 104]
def fold1 (ch : Ch) : List UInt8 := if foldC ch.1 = [] then ch.2 else foldC ch.1
def foldF (l : List UInt8) : List UInt8 := (chF l).flatMap fold1
def foldD (l : List UInt8) : List UInt8 := (chD l).flatMap fun ch => if foldC ch.1 = [] then encodeRune (ch.1 : Int) else foldC ch.1
theorem fold_same {l : List UInt8} (hv : validF l = true) : foldD l = foldF l := by
  unfold foldD foldF
  rw [ch_same _ l (Nat.le_refl _) hv]
  have : ∀ xs : List Ch, (∀ ch ∈ xs, encodeRune (ch.1 : Int) = ch.2) → (xs.flatMap fun ch => if foldC ch.1 = [] then encodeRune (ch.1 : Int) else foldC ch.1) = xs.flatMap fold1 := by
    intro xs
    induction xs with
    | nil => intro _; rfl
    | cons x r ih =>
      intro h
      rw [List.flatMap_cons, List.flatMap_cons, ih fun y hy => h y (by simp [hy]), h x (by simp)]
      rfl
  exact this _ (ch_enc hv)
theorem foldC_valid : ∀ c : Nat, validF (foldC c) = true := by
  intro c
  by_cases h : c < 256
  · have : (List.range 256).all (fun c => validF (foldC c)) = true := by kernel_rfl
    exact List.all_eq_true.1 this c (List.mem_range.2 h)
  · unfold foldC; rw [if_neg (by omega), if_pos (by omega)]; rfl
theorem fold_valid {l : List UInt8} (hv : validF l = true) : validF (foldF l) = true := by
  refine validF_flat _ _ fun ch hc => ?_
  unfold fold1
  split
  · exact (ch_valid _ l (Nat.le_refl _) hv ch hc).1
  · exact foldC_valid _
/-! ### words -/
def letterC (c : Nat) : Bool := (decide (97 ≤ c) && decide (c ≤ 122)) || (decide (48 ≤ c) && decide (c ≤ 57)) || decide (256 ≤ c)
def wStep (st : List (List UInt8) × List UInt8) (ch : Ch) : List (List UInt8) × List UInt8 :=
  if letterC ch.1 = true then (st.1, st.2 ++ ch.2) else if st.2 = [] then st else (st.1 ++ [st.2], [])
def wEnd (st : List (List UInt8) × List UInt8) : List (List UInt8) := if st.2 = [] then st.1 else st.1 ++ [st.2]
def wordsF (l : List UInt8) : List (List UInt8) := wEnd ((chF (foldF l)).foldl wStep ([], []))
/-! ### keys -/
def gerC (c : Nat) : List UInt8 := if c = 196 ∨ c = 228 then [97, 101] else if c = 214 ∨ c = 246 then [111, 101] else if c = 220 ∨ c = 252 then [117, 101] else []
def sweC (c : Nat) : List UInt8 := if c = 197 ∨ c = 229 then [123] else if c = 196 ∨ c = 228 then [124] else if c = 214 ∨ c = 246 then [125] else []
def spaC (c : Nat) : List UInt8 := if c = 209 ∨ c = 241 then [110, 126] else []
def langC (lang : List UInt8) (c : Nat) : List UInt8 := if lang = [103, 101, 114] then gerC c else if lang = [115, 119, 101] then sweC c else if lang = [115, 112, 97] then spaC c else []
def repC (lang : List UInt8) (c : Nat) : List UInt8 := if 123 ≤ c ∧ c ≤ 126 then [32] else if langC lang c = [] then encodeRune (c : Int) else langC lang c
def repF (lang l : List UInt8) : List UInt8 := (chD l).flatMap fun ch => repC lang ch.1
def keyLet (c : Nat) : Bool := (decide (97 ≤ c) && decide (c ≤ 122)) || (decide (48 ≤ c) && decide (c ≤ 57)) || (decide (123 ≤ c) && decide (c ≤ 126)) || decide (256 ≤ c)
def kStep (st : List UInt8 × Bool) (ch : Ch) : List UInt8 × Bool :=
  if keyLet ch.1 = true then ((if st.2 = true ∧ st.1 ≠ [] then st.1 ++ [32] else st.1) ++ encodeRune (ch.1 : Int), false) else (st.1, true)
/-- The key by the program, by the reference. -/
def keyP (lang l : List UInt8) : List UInt8 := ((chD (foldD (repF lang l))).foldl kStep ([], false)).1
def keyR (lang l : List UInt8) : List UInt8 := ((chD (foldF (repF lang l))).foldl kStep ([], false)).1
theorem langC_valid (lang : List UInt8) (c : Nat) : validF (langC lang c) = true := by
  unfold langC gerC sweC spaC
  repeat' split
  all_goals rfl
theorem rep_valid {lang l : List UInt8} (hv : validF l = true) : validF (repF lang l) = true := by
  unfold repF
  rw [ch_same _ l (Nat.le_refl _) hv]
  refine validF_flat _ _ fun ch hc => ?_
  unfold repC
  split
  · rfl
  · split
    · rw [ch_enc hv ch hc]; exact (ch_valid _ l (Nat.le_refl _) hv ch hc).1
    · exact langC_valid _ _
theorem key_same {lang l : List UInt8} (hv : validF l = true) : keyP lang l = keyR lang l := by
  unfold keyP keyR
  rw [fold_same (rep_valid hv)]
end Go.Tx

/- Headings: their parts and normal forms. Plain Lean; no condition of its own. -/
namespace Go.Tx
open Go Go.Ax Go.Lib
/-! ### a text divided at each separator -/
def splG (sep : List UInt8) : Nat → List UInt8 → List UInt8 → List (List UInt8)
  | 0, cur, l => [cur ++ l]
  | f + 1, cur, l => if sep.length ≤ l.length then (if l.take sep.length = sep then cur :: splG sep f [] (l.drop sep.length) else splG sep f (cur ++ l.take 1) (l.drop 1)) else [cur ++ l]
def splF (l sep : List UInt8) : List (List UInt8) := splG sep l.length [] l
theorem splG_fuel (sep : List UInt8) (hs : 1 ≤ sep.length) : ∀ (n m : Nat) (cur l : List UInt8), l.length ≤ n → l.length ≤ m → splG sep n cur l = splG sep m cur l
  | 0, 0, _, _, _, _ => rfl
  | 0, m + 1, cur, l, h, _ => by
    obtain rfl : l = [] := List.length_eq_zero_iff.1 (by omega)
    show [cur ++ []] = if _ then _ else _
    rw [if_neg (show ¬ sep.length ≤ ([] : List UInt8).length by rw [List.length_nil]; omega)]
  | n + 1, 0, cur, l, _, h => by
    obtain rfl : l = [] := List.length_eq_zero_iff.1 (by omega)
    show (if _ then _ else _) = [cur ++ []]
    rw [if_neg (show ¬ sep.length ≤ ([] : List UInt8).length by rw [List.length_nil]; omega)]
  | n + 1, m + 1, cur, l, h1, h2 => by
    show (if _ then _ else _) = if _ then _ else _
    by_cases h : sep.length ≤ l.length
    · rw [if_pos h, if_pos h, splG_fuel sep hs n m [] (l.drop sep.length) (by rw [List.length_drop]; omega) (by rw [List.length_drop]; omega), splG_fuel sep hs n m (cur ++ l.take 1) (l.drop 1) (by rw [List.length_drop]; omega) (by rw [List.length_drop]; omega)]
    · rw [if_neg h, if_neg h]
/-- The rest of the pieces when the piece at hand began with cur. -/
def splR (sep cur l : List UInt8) : List (List UInt8) := splG sep l.length cur l
theorem splR_hit {sep cur l : List UInt8} (hs : 1 ≤ sep.length) (h : sep.length ≤ l.length) (e : l.take sep.length = sep) : splR sep cur l = cur :: splR sep [] (l.drop sep.length) := by
  have hl : splR sep cur l = splG sep (l.length + 1) cur l := splG_fuel sep hs _ _ cur l (Nat.le_refl _) (by omega)
  rw [hl]
  show (if _ then _ else _) = _
  rw [if_pos h, if_pos e, splG_fuel sep hs l.length (l.drop sep.length).length _ _ (by rw [List.length_drop]; omega) (Nat.le_refl _)]; rfl
theorem splR_miss {sep cur l : List UInt8} (hs : 1 ≤ sep.length) (h : sep.length ≤ l.length) (e : ¬ l.take sep.length = sep) : splR sep cur l = splR sep (cur ++ l.take 1) (l.drop 1) := by
  have hl : splR sep cur l = splG sep (l.length + 1) cur l := splG_fuel sep hs _ _ cur l (Nat.le_refl _) (by omega)
  rw [hl]
  show (if _ then _ else _) = _
  rw [if_pos h, if_neg e, splG_fuel sep hs l.length (l.drop 1).length _ _ (by rw [List.length_drop]; omega) (Nat.le_refl _)]; rfl
theorem splR_end {sep cur l : List UInt8} (hs : 1 ≤ sep.length) (h : ¬ sep.length ≤ l.length) : splR sep cur l = [cur ++ l] := by
  have hl : splR sep cur l = splG sep (l.length + 1) cur l := splG_fuel sep hs _ _ cur l (Nat.le_refl _) (by omega)
  rw [hl]
  show (if _ then _ else _) = _
  rw [if_neg h]
theorem splG_len (sep : List UInt8) (hs : 1 ≤ sep.length) : ∀ (n : Nat) (cur l : List UInt8), (splG sep n cur l).length ≤ l.length + 1 ∧ ∀ x ∈ splG sep n cur l, x.length ≤ cur.length + l.length
  | 0, cur, l => by simp [splG]
  | n + 1, cur, l => by
    rw [splG.eq_2]
    by_cases h : sep.length ≤ l.length
    · by_cases e : l.take sep.length = sep
      · obtain ⟨h1, h2⟩ := splG_len sep hs n [] (l.drop sep.length)
        rw [if_pos h, if_pos e]
        rw [List.length_drop] at h1 h2
        refine ⟨by rw [List.length_cons]; omega, fun x hx => ?_⟩
        rcases List.mem_cons.1 hx with rfl | hx
        · omega
        · have := h2 x hx; simp at this; omega
      · obtain ⟨h1, h2⟩ := splG_len sep hs n (cur ++ l.take 1) (l.drop 1)
        rw [if_pos h, if_neg e]
        rw [List.length_drop] at h1 h2
        refine ⟨by omega, fun x hx => ?_⟩
        have := h2 x hx
        rw [List.length_append, List.length_take] at this
        omega
    · rw [if_neg h]
      refine ⟨by simp, fun x hx => ?_⟩
      simp at hx
      rw [hx, List.length_append]; omega
theorem splF_len {l sep : List UInt8} (hs : 1 ≤ sep.length) : (splF l sep).length ≤ l.length + 1 ∧ ∀ x ∈ splF l sep, x.length ≤ l.length := by
  have := splG_len sep hs l.length [] l
  simpa [splF] using this
/-! ### no longer than before -/
theorem cleanG_le : ∀ (f : Nat) (l : List UInt8) (st : List UInt8 × Bool), (cleanG f l st).length ≤ st.1.length + l.length + (if st.2 = true ∧ st.1 ≠ [] then 1 else 0)
  | 0, l, st => by simp [cleanG]; omega
  | f + 1, l, st => by
    unfold cleanG
    by_cases hne : l = []
    · rw [if_pos hne]; omega
    · rw [if_neg hne]
      have hl : 1 ≤ l.length := List.length_pos_iff.2 hne
      have hle := decF_le l hne
      have ih := cleanG_le f (l.drop (max (decF l).2 1)) (cleanStep st (decF l).1 (l.take (max (decF l).2 1)))
      rw [List.length_drop] at ih
      unfold cleanStep at ih ⊢
      by_cases hb : blankR (decF l).1 = true
      · rw [if_pos hb] at ih ⊢
        simp only at ih
        by_cases h2 : st.1 = []
        · rw [if_neg (by simp [h2])] at ih
          have : st.1.length = 0 := by rw [h2]; rfl
          omega
        · rw [if_pos ⟨trivial, h2⟩] at ih
          omega
      · rw [if_neg hb] at ih ⊢
        simp only [Bool.false_eq_true, false_and, if_false] at ih
        by_cases h2 : st.2 = true ∧ st.1 ≠ []
        · simp only [if_pos h2, List.length_append, List.length_cons, List.length_nil, List.length_take] at ih ⊢
          omega
        · simp only [if_neg h2, List.length_append, List.length_take] at ih ⊢
          omega
theorem cleanF_le (l : List UInt8) : (cleanF l).length ≤ l.length := by
  have := cleanG_le l.length l ([], false)
  simpa [cleanF] using this
/-! ### parts, normal forms -/
def neS (p : List UInt8) : Bool := decide (p ≠ [])
def partsF (l : List UInt8) : List (List UInt8) := ((splF l [45, 45]).map cleanF).filter neS
def wordJ (p : List UInt8) : List UInt8 := join (wordsF p) [32]
def normF (l : List UInt8) : List UInt8 := join (((partsF l).map wordJ).filter neS) [45, 45]
theorem partsF_len (l : List UInt8) : (partsF l).length ≤ l.length + 1 ∧ ∀ x ∈ partsF l, x.length ≤ l.length := by
  obtain ⟨h1, h2⟩ := splF_len (l := l) (sep := [45, 45]) (by decide)
  unfold partsF
  refine ⟨Nat.le_trans (List.length_filter_le _ _) (by rw [List.length_map]; exact h1), fun x hx => ?_⟩
  obtain ⟨y, hy, rfl⟩ := List.mem_map.1 (List.mem_filter.1 hx).1
  exact Nat.le_trans (cleanF_le y) (h2 y hy)
/-! ### how long words are -/
def wLen (st : List (List UInt8) × List UInt8) : Nat := (st.1.map List.length).sum + st.2.length
theorem wStep_len (st : List (List UInt8) × List UInt8) (ch : Ch) : wLen (wStep st ch) ≤ wLen st + ch.2.length ∧ (wStep st ch).1.length + (wStep st ch).2.length ≤ st.1.length + st.2.length + ch.2.length ∧ ((∀ x ∈ st.1, x ≠ []) → ∀ x ∈ (wStep st ch).1, x ≠ []) := by
  unfold wStep wLen
  split
  · refine ⟨by simp [List.length_append]; omega, by simp [List.length_append]; omega, fun h => h⟩
  · split
    · exact ⟨by omega, by omega, fun h => h⟩
    · next h1 h2 =>
      have := List.length_pos_iff.2 h2
      refine ⟨by simp [List.sum_append], by simp; omega, fun h x hx => ?_⟩
      rcases List.mem_append.1 hx with hx | hx
      · exact h x hx
      · simp at hx; rw [hx]; exact h2
theorem wFold_len : ∀ (cs : List Ch) (st : List (List UInt8) × List UInt8), wLen (cs.foldl wStep st) ≤ wLen st + (cs.flatMap (·.2)).length ∧ (cs.foldl wStep st).1.length + (cs.foldl wStep st).2.length ≤ st.1.length + st.2.length + (cs.flatMap (·.2)).length ∧ ((∀ x ∈ st.1, x ≠ []) → ∀ x ∈ (cs.foldl wStep st).1, x ≠ [])
  | [], st => by simp
  | c :: cs, st => by
    obtain ⟨h1, h2, h3⟩ := wStep_len st c
    obtain ⟨k1, k2, k3⟩ := wFold_len cs (wStep st c)
    rw [List.foldl_cons, List.flatMap_cons, List.length_append]
    exact ⟨by omega, by omega, fun h => k3 (h3 h)⟩
theorem wEnd_len (st : List (List UInt8) × List UInt8) : ((wEnd st).map List.length).sum = wLen st ∧ (wEnd st).length ≤ st.1.length + st.2.length ∧ ((∀ x ∈ st.1, x ≠ []) → ∀ x ∈ wEnd st, x ≠ []) := by
  unfold wEnd wLen
  split
  · next h => exact ⟨by rw [h]; simp, by omega, fun h => h⟩
  · next h2 =>
    have := List.length_pos_iff.2 h2
    refine ⟨by simp [List.sum_append], by simp; omega, fun h x hx => ?_⟩
    rcases List.mem_append.1 hx with hx | hx
    · exact h x hx
    · simp at hx; rw [hx]; exact h2
theorem wordsF_len (l : List UInt8) : ((wordsF l).map List.length).sum ≤ (foldF l).length ∧ (wordsF l).length ≤ (foldF l).length ∧ ∀ x ∈ wordsF l, x ≠ [] := by
  obtain ⟨h1, h2, h3⟩ := wFold_len (chF (foldF l)) ([], [])
  rw [ch_flat _ _ (Nat.le_refl _)] at h1 h2
  obtain ⟨k1, k2, k3⟩ := wEnd_len ((chF (foldF l)).foldl wStep ([], []))
  unfold wordsF
  refine ⟨by rw [k1]; simpa [wLen] using h1, Nat.le_trans k2 (by simpa using h2), k3 (h3 (by simp))⟩
theorem join_sum (sep : List UInt8) : ∀ l : List (List UInt8), (join l sep).length ≤ (l.map List.length).sum + l.length * sep.length
  | [] => by simp [join]
  | [x] => by simp [join]
  | x :: y :: r => by
    have ih := join_sum sep (y :: r)
    have e : (join (x :: y :: r) sep).length = x.length + sep.length + (join (y :: r) sep).length := by simp [join]; omega
    rw [e]
    simp only [List.map_cons, List.sum_cons, List.length_cons, Nat.add_mul] at ih ⊢
    omega
theorem sum_filter (p : List UInt8 → Bool) : ∀ l : List (List UInt8), ((l.filter p).map List.length).sum ≤ (l.map List.length).sum
  | [] => by simp
  | x :: r => by
    have := sum_filter p r
    rw [List.filter_cons]
    split <;> simp <;> omega
end Go.Tx
