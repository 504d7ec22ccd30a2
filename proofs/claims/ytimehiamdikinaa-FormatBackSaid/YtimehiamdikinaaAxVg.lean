/-
  Regions of which several operations with effects may come up in either order: every order is walked.
-/
import Derived.Test.YtimehiamdikinaaAxVf
set_option linter.all false
namespace Go.Ax
open Go Go.RowKit
/-- All orders, as a tree: 'cons i t r': the operation i comes up, then t; or one of those in r. -/
inductive Tr where
  | leaf
  | nil
  | cons (i : Nat) (t r : Tr)
def Tr.kids : Tr → List Nat
  | .cons i _ r => i :: r.kids
  | _ => []
def Tr.chk (l : List Oper) : Tr → Nat → Array Bool → Bool → Bool
  | .leaf, _, L, top => top && Region.ready .any l.toArray L == []
  | .nil, _, _, top => !top
  | .cons i t r, n, L, top => (!top || Region.ready .any l.toArray L == i :: r.kids) && (match n with
    | 0 => false
    | n + 1 => t.chk l n (L.setIfInBounds i true) true && r.chk l (n + 1) L false)
section
variable {P : Program} {pm : Pm} {E : List Nat}
def vca (P : Program) (pm : Pm) (E : List Nat) (l : List Oper) : Tr → St → (St → Prop) → Prop
  | .leaf, st, K => K st
  | .nil, _, _ => True
  | .cons i t r, st, K => (match l[i]? with
    | some o => vgd l o.guard st (fun st => vrun P pm E o st fun st' => vca P pm E l t st' K) (fun st => vca P pm E l t (st.put o.dst U) K)
    | none => False) ∧ vca P pm E l r st K
def vcaO (P : Program) (pm : Pm) (E : List Nat) (l : List Oper) (t : Tr) (st : St) (oo : Option Oper) (K : St → Prop) : Prop := match oo with
    | some o => vgd l o.guard st (fun st => vrun P pm E o st fun st' => vca P pm E l t st' K) (fun st => vca P pm E l t (st.put o.dst U) K)
    | none => False
@[push_cast] theorem vca_leaf (l : List Oper) (st : St) (K : St → Prop) : ap (vca P pm E l .leaf st) K ⟨⟩ = K st := (rfl)
@[push_cast] theorem vca_nil (l : List Oper) (st : St) (K : St → Prop) : ap (vca P pm E l .nil st) K ⟨⟩ = True := (rfl)
@[push_cast] theorem vca_cons (l : List Oper) (i : Nat) (t r : Tr) (st : St) (K : St → Prop) : ap (vca P pm E l (.cons i t r) st) K ⟨⟩ = (ap (vcaO P pm E l t st l[i]?) K ⟨⟩ ∧ ap (vca P pm E l r st) K ⟨⟩) := (rfl)
@[push_cast] theorem vcaO_some (l : List Oper) (o : Oper) (t : Tr) (st : St) (K : St → Prop) : ap (vcaO P pm E l t st (some o)) K ⟨⟩ = ap2 (vgd l o.guard st) (fun st => ap (vrun P pm E o st) (fun st' => ap (vca P pm E l t st') K ⟨⟩) ⟨⟩) (fun st => ap (vca P pm E l t (st.put o.dst U)) K ⟨⟩) ⟨⟩ ⟨⟩ := (rfl)
def Qm (K : Act → World → Prop) (Q : Exit → Act → World → Prop) : Exit → Act → World → Prop
  | .normal => K
  | e => Q e
theorem wp_qm {o : Oper} {a : Act} {w : World} {K : Act → World → Prop} {Q : Exit → Act → World → Prop} (h : o.wp P a w K (Qm K Q)) : o.wp P a w K Q := by
  unfold Oper.wp at *
  generalize (execOp a.eval o).run P w = r at *
  cases r with
  | ok n w' => cases n <;> first | exact h | exact Calls.mono h (fun e w'' he => by cases e <;> exact he)
  | halt x w' => cases x <;> exact h
theorem wpOp_of_list {l : List Oper} {i : Nat} {o : Oper} {a : Act} {w : World} {K : Act → World → Prop} {Q : Exit → Act → World → Prop} (ho : l[i]? = some o) (h : wpList P l.toArray (Qm K Q) [o] a w) : wpOp P l.toArray Q i K a w := by
  have h1 : l.toArray[i]? = some o := by simpa using ho
  unfold wpOp
  simp only [h1]
  simp only [wpList] at h
  split
  · next hw =>
    rw [if_pos hw] at h
    rcases h with h | ⟨h, h2⟩
    · exact .inl (wp_qm h)
    · exact .inr ⟨h, h2⟩
  · next hw => rw [if_neg hw] at h; exact h
theorem vca_ok {l : List Oper} (hok : opsOk l pm.N = true) {cx : Cx} (hp : cx.pm = pm) {Q : Exit → Act → World → Prop} {K : St → Prop} (hQ : ∀ G st a w, Sat cx G st a w → K st → Q .normal a w) : ∀ (t : Tr) (n : Nat) (L : Array Bool) (st : St), vca P pm E l t st K →
    (t.chk l n L true = true → ∀ G a w, Sat cx G st a w → wpAny P .any l.toArray Q n L a w) ∧
    (t.chk l n L false = true → ∀ i ∈ t.kids, ∃ m, n = m + 1 ∧ ∀ G a w, Sat cx G st a w → wpOp P l.toArray Q i (wpAny P .any l.toArray Q m (L.setIfInBounds i true)) a w)
  | .leaf, n, L, st, h => by
    refine ⟨fun hc G a w s => ?_, fun hc => by simp [Tr.chk] at hc⟩
    simp only [Tr.chk, Bool.true_and, beq_iff_eq] at hc
    have hq := hQ G st a w s h
    cases n with
    | zero => exact ⟨hc, hq⟩
    | succ n => exact ⟨fun _ => hq, fun i hi => by rw [hc] at hi; cases hi⟩
  | .nil, n, L, st, _ => ⟨fun hc => by simp [Tr.chk] at hc, fun _ i hi => by cases hi⟩
  | .cons i t r, n, L, st, h => by
    obtain ⟨h1, h2⟩ := h
    have sib : (Tr.cons i t r).chk l n L false = true → ∀ j ∈ (Tr.cons i t r).kids, ∃ m, n = m + 1 ∧ ∀ G a w, Sat cx G st a w → wpOp P l.toArray Q j (wpAny P .any l.toArray Q m (L.setIfInBounds j true)) a w := by
      intro hc j hj
      cases n with
      | zero => simp [Tr.chk] at hc
      | succ n =>
        simp only [Tr.chk, Bool.not_false, Bool.true_or, Bool.true_and, Bool.and_eq_true] at hc
        obtain ⟨hc1, hc2⟩ := hc
        rcases List.mem_cons.1 hj with rfl | hj
        · refine ⟨n, rfl, fun G a w s => ?_⟩
          cases ho : l[j]? with
          | none => rw [ho] at h1; exact h1.elim
          | some o =>
            rw [ho] at h1
            simp only at h1
            refine wpOp_of_list ho ?_
            obtain ⟨g1, g2⟩ := opsOk_at hok (List.mem_of_getElem? ho)
            have key : AXl P pm l.toArray [o] st (fun st' => vca P pm E l t st' K) := vgd_ok g2 g1 (fun st hst => by
              intro ops rest' K' hK'
              exact vrun_ok g2 hst ops rest' K' fun st' hst' => hK' st' (AXl.nil hst')) (fun st hst => AXl.nil hst) h1
            exact key cx G a w _ hp s fun G' st' a' w' s' hk => ((vca_ok hok hp hQ t n _ st' hk).1 hc1) G' a' w' s'
        · obtain ⟨m, hm, hh⟩ := (vca_ok hok hp hQ r (n + 1) L st h2).2 hc2 j hj
          exact ⟨m, hm, hh⟩
    refine ⟨fun hc => ?_, sib⟩
    cases n with
    | zero => simp [Tr.chk] at hc
    | succ n =>
      intro G a w s
      have hc' : (Tr.cons i t r).chk l (n + 1) L false = true := by
        simp only [Tr.chk, Bool.not_true, Bool.false_or, Bool.not_false, Bool.true_or, Bool.true_and, Bool.and_eq_true] at hc ⊢
        exact hc.2
      have hr : Region.ready .any l.toArray L = i :: r.kids := by
        simp only [Tr.chk, Bool.not_true, Bool.false_or, Bool.and_eq_true, beq_iff_eq] at hc
        exact hc.1
      refine ⟨fun he => (by rw [hr] at he; cases he), fun j hj => ?_⟩
      rw [hr] at hj
      obtain ⟨m, hm, hh⟩ := sib hc' j hj
      have : n = m := by omega
      subst this
      exact hh G a w s
theorem RegV.any {id : Nat} {l : List Oper} {st : St} {Q : Exit → St → Prop} {tk : Tok Q} (hm : P.follows .mixedOrders = true) (t : Tr) (hc : t.chk l l.length (Array.replicate l.length false) true = true) (K : St → Prop) (h : ap (vca P pm E l t st) K ⟨⟩) (hK : ∀ st', K st' → Q .normal st') : RegV P pm id l st Q tk := by
  intro hok cx G a w hp s
  refine wp_region_any hm ?_
  have s' : Sat cx G st a { w with drawn := w.drawn + 1 } := ⟨s.h.later ((Below.refl _ w).drew), fun t => s.ev (.tmp t), s.N, s.defers⟩
  have := (vca_ok (P := P) (E := E) (Q := Post cx Q) (K := K) hok hp (fun G st a w s k => ⟨G, st, s, hK st k⟩) t l.length (Array.replicate l.length false) st h).1 hc G a _ s'
  simpa using this
end
end Go.Ax
