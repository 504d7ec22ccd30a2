/- Part of a proof about this program; no condition of its own. -/
import Derived.Test.YtanbfhnmklhjiaaGreatDoorTXa
set_option linter.all false
/- Texts: a text without superfluous blanks, by the library's fields and by the reference. Plain Lean; no condition of its own. -/
namespace Go.Tx
open Go Go.Ax Go.Lib
def piecesOf (l : List UInt8) (acc : List (Nat × Nat)) : List (List UInt8) := acc.map fun x => pieceU l x.1 x.2
def openOf (l : List UInt8) (st : Option Nat) (pos : Nat) : List (List UInt8) := match st with | some a => [pieceU l a pos] | none => []
structure Rel (l : List UInt8) (pos : Nat) (st : Option Nat) (acc : List (Nat × Nat)) (out : List UInt8 × Bool) : Prop where
  eq : out.1 = join (piecesOf l acc ++ openOf l st pos) [32]
  opn : ∀ a, st = some a → a < pos ∧ out.2 = false
  cls : st = none → out.2 = true ∨ acc = []
  ne : ∀ x ∈ piecesOf l acc, x ≠ []
theorem clean_from (s : ByteArray) (l : List UInt8) (hl : l = s.data.toList) : ∀ (f g pos : Nat) (st : Option Nat) (acc : List (Nat × Nat)) (out : List UInt8 × Bool), l.length ≤ pos + f → l.length ≤ pos + g → pos ≤ l.length → validF (l.drop pos) = true → Rel l pos st acc out →
    join (piecesOf l (closeSpans s (spansFromP blankR s f pos st acc))) [32] = cleanG g (l.drop pos) out
  | f, g, pos, st, acc, out, hf, hg, hp, hv, hr => by
    have hsz : s.size = l.length := by rw [hl, ← size_eq]
    by_cases hlt : pos < l.length
    · match f, g, hf, hg with
      | 0, _, hf, _ => exact absurd hf (by omega)
      | _ + 1, 0, _, hg => exact absurd hg (by omega)
      | f + 1, g + 1, hf, hg =>
        have hne : l.drop pos ≠ [] := fun e => by have := congrArg List.length e; rw [List.length_drop] at this; simp at this; omega
        rw [validF_step hne, Bool.and_eq_true, decide_eq_true_eq] at hv
        obtain ⟨hv1, hv2⟩ := hv
        obtain ⟨hd, _, _⟩ := decF_pos hne hv1
        have hle := decF_le _ hne
        rw [List.length_drop] at hle
        have hdec : Utf8.decode s pos = decF (l.drop pos) := by rw [← decodeL_drop, ← hl]; exact hd
        rw [List.drop_drop] at hv2
        show join (piecesOf l (closeSpans s (spansFromP blankR s (f + 1) pos st acc))) [32] = (if l.drop pos = [] then out.1 else cleanG g ((l.drop pos).drop (max (decF (l.drop pos)).2 1)) (cleanStep out (decF (l.drop pos)).1 ((l.drop pos).take (max (decF (l.drop pos)).2 1))))
        rw [if_neg hne, show max (decF (l.drop pos)).2 1 = (decF (l.drop pos)).2 by omega, List.drop_drop]
        simp only [spansFromP, hsz, if_pos hlt, hdec]
        generalize hc : (decF (l.drop pos)).1 = c at *
        generalize hk : (decF (l.drop pos)).2 = k at *
        cases hb : blankR c with
        | true =>
          simp only [if_true]
          have hcs : cleanStep out c ((l.drop pos).take k) = (out.1, true) := by unfold cleanStep; rw [if_pos hb]
          rw [hcs]
          cases st with
          | none =>
            exact clean_from s l hl f g (pos + k) none acc _ (by omega) (by omega) (by omega) hv2 ⟨by have := hr.eq; simpa [openOf] using this, (fun a h => by cases h), fun _ => .inl rfl, hr.ne⟩
          | some a =>
            have ha := (hr.opn a rfl).1
            refine clean_from s l hl f g (pos + k) none (acc ++ [(a, pos)]) _ (by omega) (by omega) (by omega) hv2 ⟨?_, (fun a h => by cases h), fun _ => .inl rfl, fun x hx => ?_⟩
            · have := hr.eq; simpa [openOf, piecesOf] using this
            · unfold piecesOf at hx
              rw [List.map_append] at hx
              rcases List.mem_append.1 hx with hx | hx
              · exact hr.ne x hx
              · simp at hx; subst hx; exact pieceU_ne l a pos ha (by omega)
        | false =>
          simp only [Bool.false_eq_true, if_false]
          have hcs : cleanStep out c ((l.drop pos).take k) = ((if out.2 = true ∧ out.1 ≠ [] then out.1 ++ [32] else out.1) ++ (l.drop pos).take k, false) := by unfold cleanStep; rw [if_neg (by simp [hb])]
          rw [hcs]
          cases st with
          | none =>
            refine clean_from s l hl f g (pos + k) (some pos) acc _ (by omega) (by omega) (by omega) hv2 ⟨?_, (fun a h => by cases h; exact ⟨by omega, rfl⟩), (fun h => by cases h), hr.ne⟩
            have ho := hr.eq
            simp only [openOf, List.append_nil] at ho
            have hpc : pieceU l pos (pos + k) = (l.drop pos).take k := by unfold pieceU; rw [show pos + k - pos = k by omega]
            simp only [openOf, hpc]
            rw [join_snoc]
            by_cases hacc : piecesOf l acc = []
            · rw [if_pos hacc]
              have : out.1 = [] := by rw [ho, hacc]; rfl
              rw [if_neg (by simp [this]), this]; rfl
            · rw [if_neg hacc]
              have hg2 : out.2 = true := by
                rcases hr.cls rfl with h | h
                · exact h
                · exact absurd (by rw [h]; rfl) hacc
              have : out.1 ≠ [] := by rw [ho]; exact join_ne _ hacc hr.ne
              rw [if_pos ⟨hg2, this⟩, ho]
          | some a =>
            obtain ⟨ha, hg2⟩ := hr.opn a rfl
            refine clean_from s l hl f g (pos + k) (some a) acc _ (by omega) (by omega) (by omega) hv2 ⟨?_, (fun b h => by cases h; exact ⟨by omega, rfl⟩), (fun h => by cases h), hr.ne⟩
            have ho := hr.eq
            simp only [openOf] at ho ⊢
            rw [if_neg (by simp [hg2]), ← pieceU_grow l a pos k (by omega), join_grow, ho]
    · have hd : l.drop pos = [] := List.drop_eq_nil_of_le (by omega)
      have e1 : spansFromP blankR s f pos st acc = (acc, st) := spansFromP_end _ _ _ _ _ _ (by omega)
      have e2 : cleanG g (l.drop pos) out = out.1 := by rw [hd]; cases g <;> rfl
      rw [e1, e2, hr.eq]
      have hps : pos = s.size := by omega
      cases st with
      | none => simp [closeSpans, openOf]
      | some a => simp [closeSpans, openOf, piecesOf, hps]
termination_by f => f
theorem clean_same (l : List UInt8) (hv : validF l = true) : cleanP l = cleanF l := by
  have h := clean_from ⟨l.toArray⟩ l (by simp) l.length l.length 0 none [] ([], false) (by omega) (by omega) (by omega) (by simpa using hv) ⟨rfl, (fun a h => by cases h), fun _ => .inr rfl, (fun x hx => by cases hx)⟩
  rw [List.drop_zero] at h
  unfold cleanP cleanF
  rw [← h]
  congr 1
  unfold goFieldsP spansOfP piecesOf
  rw [List.map_map]
  have hsz : (⟨l.toArray⟩ : ByteArray).size = l.length := rfl
  rw [hsz]
  refine List.map_congr_left fun x _ => ?_
  show (ByteArray.extract ⟨l.toArray⟩ x.1 x.2).data.toList = pieceU l x.1 x.2
  rw [extract_data]; rfl
/-- Is it a text without superfluous blanks? -/
def noteF (l : List UInt8) : Bool := validF l && decide (cleanF l = l)
theorem note_same (l : List UInt8) : (validF l && decide (cleanP l = l)) = noteF l := by
  unfold noteF
  cases h : validF l with
  | false => rfl
  | true => rw [clean_same l h]
end Go.Tx
