/- Part of a proof about this program; no condition of its own. -/
import Derived.Lib.FieldsP
import Derived.Lib.Join
import Derived.Lib.ValidLaws
import Derived.Test.YtanbfhnmklhjiaaGreatDoorGxD
set_option linter.all false
/- Texts: what the library's functions on texts and the reference's compute is the same. Plain Lean; no condition of its own. -/
namespace Go.Tx
open Go Go.Ax Go.Lib

/-- The reference's character at the head of a list of bytes, and the number of its bytes; 0 bytes if there is none. -/
def dec3 (a b c n : Nat) : Nat × Nat :=
  if 32 ≤ a ∧ a < 127 then (a, 1)
  else if 194 ≤ a ∧ a < 224 ∧ 1 < n ∧ 128 ≤ b ∧ b < 192 then (if 160 ≤ (a - 192) * 64 + (b - 128) then ((a - 192) * 64 + (b - 128), 2) else (0, 0))
  else if 224 ≤ a ∧ a < 240 ∧ 2 < n ∧ 128 ≤ b ∧ b < 192 ∧ 128 ≤ c ∧ c < 192 then
    (if 2048 ≤ (a - 224) * 4096 + (b - 128) * 64 + (c - 128) ∧ ((a - 224) * 4096 + (b - 128) * 64 + (c - 128) < 55296 ∨ 57343 < (a - 224) * 4096 + (b - 128) * 64 + (c - 128)) then ((a - 224) * 4096 + (b - 128) * 64 + (c - 128), 3) else (0, 0))
  else (0, 0)
def decF (l : List UInt8) : Nat × Nat := dec3 (l.getD 0 0).toNat (l.getD 1 0).toNat (l.getD 2 0).toNat l.length
def okR (c : Nat) : Bool := !(decide (c < 32) || (decide (127 ≤ c) && decide (c ≤ 159)) || decide (65535 < c))
def blankR (c : Nat) : Bool := decide (c = 32) || decide (c = 160)

set_option maxRecDepth 100000 in
set_option maxHeartbeats 4000000 in
theorem dec_same (a b c d n : Nat) (ha : a < 256) (hb : b < 256) (hc : c < 256) (hd : d < 256) (hn : 1 ≤ n) :
    (0 < (dec3 a b c n).2 → decodeN n a b c d = dec3 a b c n ∧ okR (dec3 a b c n).1 = true ∧ ¬ ((dec3 a b c n).1 = 65533 ∧ (dec3 a b c n).2 = 1)) ∧
    ((dec3 a b c n).2 = 0 → ((decodeN n a b c d).1 = 65533 ∧ (decodeN n a b c d).2 = 1) ∨ okR (decodeN n a b c d).1 = false) := by
  unfold dec3 decodeN okR
  constructor
  · repeat' split
    all_goals first
      | (intro h; exfalso; simp only at h; omega)
      | (intro _; refine ⟨?_, ?_, ?_⟩
         · first | rfl | (exfalso; omega) | (apply Prod.ext <;> simp only <;> omega)
         · simp; omega
         · simp; try omega)
  · repeat' split
    all_goals first
      | (intro h; exfalso; simp only at h; omega)
      | (intro _; left; exact ⟨rfl, rfl⟩)
      | (intro _; right; simp; omega)
      | (exfalso; omega)
theorem u8lt (x : UInt8) : x.toNat < 256 := x.toNat_lt
theorem decodeL_N' (l : List UInt8) : decodeL l = decodeN l.length (l.getD 0 0).toNat (l.getD 1 0).toNat (l.getD 2 0).toNat (l.getD 3 0).toNat := decodeL_N l
theorem decF_pos {l : List UInt8} (hne : l ≠ []) (h : 0 < (decF l).2) : decodeL l = decF l ∧ okR (decF l).1 = true ∧ ¬ ((decF l).1 = 65533 ∧ (decF l).2 = 1) := by
  have hn : 1 ≤ l.length := List.length_pos_iff.2 hne
  rw [decodeL_N']
  exact (dec_same _ _ _ _ _ (u8lt _) (u8lt _) (u8lt _) (u8lt _) hn).1 h
theorem decF_zero {l : List UInt8} (hne : l ≠ []) (h : (decF l).2 = 0) : ((decodeL l).1 = 65533 ∧ (decodeL l).2 = 1) ∨ okR (decodeL l).1 = false := by
  have hn : 1 ≤ l.length := List.length_pos_iff.2 hne
  rw [decodeL_N']
  exact (dec_same _ _ _ _ _ (u8lt _) (u8lt _) (u8lt _) (u8lt _) hn).2 h
theorem decF_le (l : List UInt8) (hne : l ≠ []) : (decF l).2 ≤ l.length := by
  have hn : 1 ≤ l.length := List.length_pos_iff.2 hne
  unfold decF dec3
  repeat' split
  all_goals (simp only; omega)

/-! ### is it a text? -/
def validG : Nat → List UInt8 → Bool
  | 0, _ => true
  | f + 1, l => if l = [] then true else decide (0 < (decF l).2) && validG f (l.drop (decF l).2)
def validF (l : List UInt8) : Bool := validG l.length l
def runesG : Nat → List UInt8 → Bool
  | 0, _ => true
  | f + 1, l => if l = [] then true else okR (decodeL l).1 && runesG f (l.drop (decodeL l).2)
def runesF (l : List UInt8) : Bool := runesG l.length l
theorem validG_fuel : ∀ (n m : Nat) (l : List UInt8), l.length ≤ n → l.length ≤ m → validG n l = validG m l
  | 0, 0, _, _, _ => rfl
  | 0, m + 1, l, h, _ => by obtain rfl : l = [] := List.length_eq_zero_iff.1 (by omega); simp [validG]
  | n + 1, 0, l, _, h => by obtain rfl : l = [] := List.length_eq_zero_iff.1 (by omega); simp [validG]
  | n + 1, m + 1, l, h1, h2 => by
    unfold validG
    split
    · rfl
    · next hne =>
      have : 1 ≤ l.length := List.length_pos_iff.2 hne
      cases hd : decide (0 < (decF l).2) with
      | false => rfl
      | true =>
        have hp : 0 < (decF l).2 := of_decide_eq_true hd
        rw [validG_fuel n m _ (by rw [List.length_drop]; omega) (by rw [List.length_drop]; omega)]
theorem validF_nil : validF [] = true := rfl
theorem validF_step {l : List UInt8} (hne : l ≠ []) : validF l = (decide (0 < (decF l).2) && validF (l.drop (decF l).2)) := by
  have : 1 ≤ l.length := List.length_pos_iff.2 hne
  obtain ⟨n, hn⟩ : ∃ n, l.length = n + 1 := ⟨l.length - 1, by omega⟩
  have e : validF l = validG (n + 1) l := by unfold validF; rw [hn]
  rw [e]
  show (if l = [] then true else decide (0 < (decF l).2) && validG n (l.drop (decF l).2)) = _
  rw [if_neg hne]
  cases hd : decide (0 < (decF l).2) with
  | false => rfl
  | true =>
    have hp : 0 < (decF l).2 := of_decide_eq_true hd
    rw [validG_fuel n (l.drop (decF l).2).length _ (by rw [List.length_drop]; omega) (Nat.le_refl _)]; rfl
theorem runesG_fuel : ∀ (n m : Nat) (l : List UInt8), l.length ≤ n → l.length ≤ m → runesG n l = runesG m l
  | 0, 0, _, _, _ => rfl
  | 0, m + 1, l, h, _ => by obtain rfl : l = [] := List.length_eq_zero_iff.1 (by omega); simp [runesG]
  | n + 1, 0, l, _, h => by obtain rfl : l = [] := List.length_eq_zero_iff.1 (by omega); simp [runesG]
  | n + 1, m + 1, l, h1, h2 => by
    unfold runesG
    split
    · rfl
    · next hne =>
      have : 1 ≤ l.length := List.length_pos_iff.2 hne
      have hp := decodeL_width l
      rw [runesG_fuel n m _ (by rw [List.length_drop]; omega) (by rw [List.length_drop]; omega)]
theorem runesF_step {l : List UInt8} (hne : l ≠ []) : runesF l = (okR (decodeL l).1 && runesF (l.drop (decodeL l).2)) := by
  have : 1 ≤ l.length := List.length_pos_iff.2 hne
  obtain ⟨n, hn⟩ : ∃ n, l.length = n + 1 := ⟨l.length - 1, by omega⟩
  have e : runesF l = runesG (n + 1) l := by unfold runesF; rw [hn]
  rw [e]
  show (if l = [] then true else okR (decodeL l).1 && runesG n (l.drop (decodeL l).2)) = _
  rw [if_neg hne]
  have hp := decodeL_width l
  rw [runesG_fuel n (l.drop (decodeL l).2).length _ (by rw [List.length_drop]; omega) (Nat.le_refl _)]; rfl
theorem valid_same : ∀ (n : Nat) (l : List UInt8), l.length ≤ n → (validD l && runesF l) = validF l
  | 0, l, h => by obtain rfl : l = [] := List.length_eq_zero_iff.1 (by omega); rfl
  | n + 1, l, h => by
    by_cases hne : l = []
    · subst hne; rfl
    · have : 1 ≤ l.length := List.length_pos_iff.2 hne
      rw [validD_step l hne, runesF_step hne, validF_step hne]
      rcases Nat.eq_zero_or_pos (decF l).2 with hz | hp
      · rcases decF_zero hne hz with h1 | h1
        · rw [if_pos h1, hz]; rfl
        · rw [h1, hz]; simp
      · obtain ⟨h1, h2, h3⟩ := decF_pos hne hp
        rw [h1, if_neg h3, h2, Bool.true_and, decide_eq_true hp, Bool.true_and]
        exact valid_same n _ (by rw [List.length_drop]; omega)

/-! ### without superfluous blanks -/
def cleanStep (st : List UInt8 × Bool) (c : Nat) (x : List UInt8) : List UInt8 × Bool :=
  if blankR c = true then (st.1, true) else ((if st.2 = true ∧ st.1 ≠ [] then st.1 ++ [32] else st.1) ++ x, false)
def cleanG : Nat → List UInt8 → List UInt8 × Bool → List UInt8
  | 0, _, st => st.1
  | f + 1, l, st => if l = [] then st.1 else cleanG f (l.drop (max (decF l).2 1)) (cleanStep st (decF l).1 (l.take (max (decF l).2 1)))
def cleanF (l : List UInt8) : List UInt8 := cleanG l.length l ([], false)
def cleanP (l : List UInt8) : List UInt8 := join ((goFieldsP blankR ⟨l.toArray⟩).map (·.data.toList)) [32]
theorem join_snoc : ∀ (xs : List (List UInt8)) (x : List UInt8), join (xs ++ [x]) [32] = if xs = [] then x else join xs [32] ++ [32] ++ x
  | [], x => by simp [join_one]
  | y :: r, x => by
    rw [if_neg (by simp), List.cons_append, join_cons, join_cons]
    simp [joinTail]
theorem join_grow (xs : List (List UInt8)) (x y : List UInt8) : join (xs ++ [x ++ y]) [32] = join (xs ++ [x]) [32] ++ y := by
  rw [join_snoc, join_snoc]
  split <;> simp
theorem join_ne (xs : List (List UInt8)) (h : xs ≠ []) (hx : ∀ x ∈ xs, x ≠ []) : join xs [32] ≠ [] := by
  cases xs with
  | nil => exact absurd rfl h
  | cons y r =>
    rw [join_cons]
    intro e
    exact hx y (by simp) (List.append_eq_nil_iff.1 e).1
end Go.Tx

/- Texts: a text without superfluous blanks, by the library's fields and by the reference. Plain Lean; no condition of its own. -/
namespace Go.Tx
open Go Go.Ax Go.Lib
def piecesOf (l : List UInt8) (acc : List (Nat × Nat)) : List (List UInt8) := acc.map fun x => pieceU l x.1 x.2
def openOf (l : List UInt8) (st : Option Nat) (pos : Nat) : List (List UInt8) := match st with | some a => [pieceU l a pos] | none => []
structure Rel (l : List UInt8) (pos : Nat) (st : Option Nat) (acc : List (Nat × Nat)) (out : List UInt8 × Bool) : Prop where
  eq : out.1 = join (piecesOf l acc ++ openOf l st pos) [32]
  opn : ∀ a, st = some a → a < pos ∧ out.2 = false
  cls : st = none → out.2 = true ∨ acc = []
  ne : ∀ x ∈ piecesOf l acc, x ≠ []
theorem clean_from (s : ByteArray) (l : List UInt8) (hl : l = s.data.toList) : ∀ (f g pos : Nat) (st : Option Nat) (acc : List (Nat × Nat)) (out : List UInt8 × Bool), l.length ≤ pos + f → l.length ≤ pos + g → pos ≤ l.length → validF (l.drop pos) = true → Rel l pos st acc out →
    join (piecesOf l (closeSpans s (spansFromP blankR s f pos st acc))) [32] = cleanG g (l.drop pos) out
  | f, g, pos, st, acc, out, hf, hg, hp, hv, hr => by
    have hsz : s.size = l.length := by rw [hl, ← size_eq]
    by_cases hlt : pos < l.length
    · match f, g, hf, hg with
      | 0, _, hf, _ => exact absurd hf (by omega)
      | _ + 1, 0, _, hg => exact absurd hg (by omega)
      | f + 1, g + 1, hf, hg =>
        have hne : l.drop pos ≠ [] := fun e => by have := congrArg List.length e; rw [List.length_drop] at this; simp at this; omega
        rw [validF_step hne, Bool.and_eq_true, decide_eq_true_eq] at hv
        obtain ⟨hv1, hv2⟩ := hv
        obtain ⟨hd, _, _⟩ := decF_pos hne hv1
        have hle := decF_le _ hne
        rw [List.length_drop] at hle
        have hdec : Utf8.decode s pos = decF (l.drop pos) := by rw [← decodeL_drop, ← hl]; exact hd
        rw [List.drop_drop] at hv2
        show join (piecesOf l (closeSpans s (spansFromP blankR s (f + 1) pos st acc))) [32] = (if l.drop pos = [] then out.1 else cleanG g ((l.drop pos).drop (max (decF (l.drop pos)).2 1)) (cleanStep out (decF (l.drop pos)).1 ((l.drop pos).take (max (decF (l.drop pos)).2 1))))
        rw [if_neg hne, show max (decF (l.drop pos)).2 1 = (decF (l.drop pos)).2 by omega, List.drop_drop]
        simp only [spansFromP, hsz, if_pos hlt, hdec]
        generalize hc : (decF (l.drop pos)).1 = c at *
        generalize hk : (decF (l.drop pos)).2 = k at *
        cases hb : blankR c with
        | true =>
          simp only [if_true]
          have hcs : cleanStep out c ((l.drop pos).take k) = (out.1, true) := by unfold cleanStep; rw [if_pos hb]
          rw [hcs]
          cases st with
          | none =>
            exact clean_from s l hl f g (pos + k) none acc _ (by omega) (by omega) (by omega) hv2 ⟨by have := hr.eq; simpa [openOf] using this, (fun a h => by cases h), fun _ => .inl rfl, hr.ne⟩
          | some a =>
            have ha := (hr.opn a rfl).1
            refine clean_from s l hl f g (pos + k) none (acc ++ [(a, pos)]) _ (by omega) (by omega) (by omega) hv2 ⟨?_, (fun a h => by cases h), fun _ => .inl rfl, fun x hx => ?_⟩
            · have := hr.eq; simpa [openOf, piecesOf] using this
            · unfold piecesOf at hx
              rw [List.map_append] at hx
              rcases List.mem_append.1 hx with hx | hx
              · exact hr.ne x hx
              · simp at hx; subst hx; exact pieceU_ne l a pos ha (by omega)
        | false =>
          simp only [Bool.false_eq_true, if_false]
          have hcs : cleanStep out c ((l.drop pos).take k) = ((if out.2 = true ∧ out.1 ≠ [] then out.1 ++ [32] else out.1) ++ (l.drop pos).take k, false) := by unfold cleanStep; rw [if_neg (by simp [hb])]
          rw [hcs]
          cases st with
          | none =>
            refine clean_from s l hl f g (pos + k) (some pos) acc _ (by omega) (by omega) (by omega) hv2 ⟨?_, (fun a h => by cases h; exact ⟨by omega, rfl⟩), (fun h => by cases h), hr.ne⟩
            have ho := hr.eq
            simp only [openOf, List.append_nil] at ho
            have hpc : pieceU l pos (pos + k) = (l.drop pos).take k := by unfold pieceU; rw [show pos + k - pos = k by omega]
            simp only [openOf, hpc]
            rw [join_snoc]
            by_cases hacc : piecesOf l acc = []
            · rw [if_pos hacc]
              have : out.1 = [] := by rw [ho, hacc]; rfl
              rw [if_neg (by simp [this]), this]; rfl
            · rw [if_neg hacc]
              have hg2 : out.2 = true := by
                rcases hr.cls rfl with h | h
                · exact h
                · exact absurd (by rw [h]; rfl) hacc
              have : out.1 ≠ [] := by rw [ho]; exact join_ne _ hacc hr.ne
              rw [if_pos ⟨hg2, this⟩, ho]
          | some a =>
            obtain ⟨ha, hg2⟩ := hr.opn a rfl
            refine clean_from s l hl f g (pos + k) (some a) acc _ (by omega) (by omega) (by omega) hv2 ⟨?_, (fun b h => by cases h; exact ⟨by omega, rfl⟩), (fun h => by cases h), hr.ne⟩
            have ho := hr.eq
            simp only [openOf] at ho ⊢
            rw [if_neg (by simp [hg2]), ← pieceU_grow l a pos k (by omega), join_grow, ho]
    · have hd : l.drop pos = [] := List.drop_eq_nil_of_le (by omega)
      have e1 : spansFromP blankR s f pos st acc = (acc, st) := spansFromP_end _ _ _ _ _ _ (by omega)
      have e2 : cleanG g (l.drop pos) out = out.1 := by rw [hd]; cases g <;> rfl
      rw [e1, e2, hr.eq]
      have hps : pos = s.size := by omega
      cases st with
      | none => simp [closeSpans, openOf]
      | some a => simp [closeSpans, openOf, piecesOf, hps]
termination_by f => f
theorem clean_same (l : List UInt8) (hv : validF l = true) : cleanP l = cleanF l := by
  have h := clean_from ⟨l.toArray⟩ l (by simp) l.length l.length 0 none [] ([], false) (by omega) (by omega) (by omega) (by simpa using hv) ⟨rfl, (fun a h => by cases h), fun _ => .inr rfl, (fun x hx => by cases hx)⟩
  rw [List.drop_zero] at h
  unfold cleanP cleanF
  rw [← h]
  congr 1
  unfold goFieldsP spansOfP piecesOf
  rw [List.map_map]
  have hsz : (⟨l.toArray⟩ : ByteArray).size = l.length := rfl
  rw [hsz]
  refine List.map_congr_left fun x _ => ?_
  show (ByteArray.extract ⟨l.toArray⟩ x.1 x.2).data.toList = pieceU l x.1 x.2
  rw [extract_data]; rfl
/-- Is it a text without superfluous blanks? -/
def noteF (l : List UInt8) : Bool := validF l && decide (cleanF l = l)
theorem note_same (l : List UInt8) : (validF l && decide (cleanP l = l)) = noteF l := by
  unfold noteF
  cases h : validF l with
  | false => rfl
  | true => rw [clean_same l h]
end Go.Tx
