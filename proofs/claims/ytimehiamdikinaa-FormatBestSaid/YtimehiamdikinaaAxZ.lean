/- Nil slices within closed data, read as empty lists. No condition. -/
import Derived.Test.YtimehiamdikinaaAxVg
set_option linter.all false
namespace Go.Ax
open Go Go.RowKit
inductive Nl : D → D → Prop where
  | refl (x : D) : Nl x x
  | nil (sz : Nat) : Nl (.raw (.slice none 0 0)) (.lst sz [])
  | lst (sz : Nat) (els els' : List (List D)) (hl : els'.length = els.length) (hr : ∀ (i : Nat) (e e' : List D), els[i]? = some e → els'[i]? = some e' → e'.length = e.length)
      (h : ∀ (i j : Nat) (e e' : List D) (c c' : D), els[i]? = some e → els'[i]? = some e' → e[j]? = some c → e'[j]? = some c' → Nl c c') : Nl (.lst sz els) (.lst sz els')
theorem Nl.dr {V : Vw} {x y : D} (h : Nl x y) : ∀ {v : Value}, Dr V x v → Dr V y v := by
  induction h with
  | refl x => intro v hd; exact hd
  | nil sz => intro v hd; exact (NilTo.nil sz).dr hd
  | lst sz els els' hl hr _ ih =>
    intro v hd
    cases hd with
    | lst _ _ A cap u hc hm he ha hu =>
      rw [← hl]
      have lk : ∀ (i j : Nat) (e' : List D) (c' : D), els'[i]? = some e' → e'[j]? = some c' → ∃ e c, els[i]? = some e ∧ e[j]? = some c := fun i j e' c' h1 h2 => by
        have hi := getElem?_lt h1
        have hi' : i < els.length := by omega
        have hj := getElem?_lt h2
        have hlen := hr i _ _ (List.getElem?_eq_getElem hi') h1
        exact ⟨_, _, List.getElem?_eq_getElem hi', List.getElem?_eq_getElem (show j < els[i].length by omega)⟩
      refine .lst sz els' A cap u (by omega) hm (fun e' he' => ?_) (fun hn => ?_) (fun i e' j c' h1 h2 => ?_)
      · obtain ⟨i, hi, rfl⟩ := List.getElem_of_mem he'
        have hi' : i < els.length := by omega
        rw [hr i _ _ (List.getElem?_eq_getElem hi') (List.getElem?_eq_getElem hi)]
        exact he _ (List.getElem_mem _)
      · obtain ⟨ad, h1, h2, h3⟩ := ha fun e => hn (by rw [e] at hl; exact List.length_eq_zero_iff.1 hl)
        refine ⟨ad, h1, h2, fun i e' j c' q1 q2 => ?_⟩
        obtain ⟨e, c, q3, q4⟩ := lk i j e' c' q1 q2
        exact h3 i e j c q3 q4
      · obtain ⟨e, c, q3, q4⟩ := lk i j e' c' h1 h2
        exact ih i j e e' c c' q3 h1 q4 h2 (hu i e j c q3 q4)
theorem Nl.rows {sz : Nat} {els els' : List (List D)} (h : All2 (All2 Nl) els els') : Nl (.lst sz els) (.lst sz els') := by
  refine .lst sz els els' h.length.symm (fun i e e' h1 h2 => ?_) (fun i j e e' c c' h1 h2 h3 h4 => ?_)
  · obtain ⟨b, q1, q2⟩ := h.get _ _ h1
    rw [h2] at q1; cases q1; exact q2.length.symm
  · obtain ⟨b, q1, q2⟩ := h.get _ _ h1
    rw [h2] at q1; cases q1
    obtain ⟨b, q3, q4⟩ := q2.get _ _ h3
    rw [h4] at q3; cases q3; exact q4
theorem AFn.nl {P : Program} {Γ : List (Nat × List D)} {f : FuncId} {args : List AV} {x y : D} (h : AFn P Γ f args [.d x]) (hn : Nl x y) : AFn P Γ f args [.d y] :=
  ⟨h.call, fun V w vals hv ha => (h.run V w vals hv ha).mono fun e w' ⟨V', vs, h1, h2, h3, h4, h5, h6⟩ => ⟨V', vs, h1, h2, h3, h4, by
    cases h5 with
    | cons q1 q2 => exact .cons (hn.dr q1) q2, h6⟩⟩
end Go.Ax
