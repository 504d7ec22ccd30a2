/- Part of a proof about this program; no condition of its own. -/
import Derived.Test.YticdcapnomageaaDoorGxL
set_option linter.all false
/- Loops at whose head what a box holds is read as data. No condition. -/
namespace Go.Ax
open Go Go.RowKit
variable {P : Program} {pm : Pm} {E : List Nat}
def frzB4 (j c : Nat) (st : St) (tb : TypeId) (cs : List C) (i ver : Nat) : Option LB → St
  | some (.row _ sz els v') => if ver = v' then ⟨st.env, (st.heap.set i .dead).set j (.box tb (cs.set c (.d (.lst sz els))))⟩ else st
  | _ => st
def frzB3 (j c sz : Nat) (st : St) (tb : TypeId) (cs : List C) : Option C → St
  | some (.own i ver) => frzB4 j c st tb cs i ver st.heap[i]?
  | some (.d (.raw (.slice none 0 0))) => ⟨st.env, st.heap.set j (.box tb (cs.set c (.d (.lst sz []))))⟩
  | _ => st
def frzB2 (j c sz : Nat) (st : St) : Option LB → St
  | some (.box tb cs) => frzB3 j c sz st tb cs cs[c]?
  | _ => st
/-- A row that a box holds (or nil), read as data from here on. -/
def frzB (j c sz : Nat) (st : St) : St := frzB2 j c sz st st.heap[j]?
@[push_cast] theorem frzB_eq (j c sz : Nat) (e : Env) (h : List LB) : frzB j c sz ⟨e, h⟩ = frzB2 j c sz ⟨e, h⟩ h[j]? := (rfl)
@[push_cast] theorem frzB2_b (j c sz : Nat) (st : St) (tb : TypeId) (cs : List C) : frzB2 j c sz st (some (.box tb cs)) = frzB3 j c sz st tb cs cs[c]? := (rfl)
@[push_cast] theorem frzB3_o (j c sz : Nat) (e : Env) (h : List LB) (tb : TypeId) (cs : List C) (i ver : Nat) : frzB3 j c sz ⟨e, h⟩ tb cs (some (.own i ver)) = frzB4 j c ⟨e, h⟩ tb cs i ver h[i]? := (rfl)
@[push_cast] theorem frzB3_n (j c sz : Nat) (e : Env) (h : List LB) (tb : TypeId) (cs : List C) : frzB3 j c sz ⟨e, h⟩ tb cs (some (.d (.raw (.slice none 0 0)))) = ⟨e, h.set j (.box tb (cs.set c (.d (.lst sz []))))⟩ := (rfl)
@[push_cast] theorem frzB3_d (j c sz n : Nat) (st : St) (tb : TypeId) (cs : List C) (els : List (List D)) : frzB3 j c sz st tb cs (some (.d (.lst n els))) = st := (rfl)
@[push_cast] theorem frzB4_r (j c : Nat) (e : Env) (h : List LB) (tb t : TypeId) (cs : List C) (i ver sz : Nat) (els : List (List D)) : frzB4 j c ⟨e, h⟩ tb cs i ver (some (.row t sz els ver)) = ⟨e, (h.set i .dead).set j (.box tb (cs.set c (.d (.lst sz els))))⟩ := (if_pos rfl)
theorem frzB_ok (j c sz : Nat) (st : St) : Fw pm st (frzB j c sz st) := by
  intro cx G a w hp s
  unfold frzB
  cases hj : st.heap[j]? with
  | none => exact ⟨G, s⟩
  | some lb =>
    cases lb with
    | box tb cs =>
      show ∃ G', Sat cx G' (frzB3 j c sz st tb cs cs[c]?) a w
      cases hc : cs[c]? with
      | none => exact ⟨G, s⟩
      | some x =>
        unfold frzB3
        split
        · next i ver hx =>
          cases hx
          unfold frzB4
          split
          · next t sz' els v' hi =>
            split
            · next hv =>
              subst hv
              exact s.freezeBox j c hj hc hi
            · exact ⟨G, s⟩
          · exact ⟨G, s⟩
        · next hx =>
          cases hx
          have s2 := s.h.relabel (lb' := .box tb (cs.set c (C.d (.lst sz [])))) hj id fun e he hL => by
            obtain ⟨h1, b, vs, h2, h3, h4, h5, h6⟩ := hL
            refine ⟨h1, b, vs, h2, h3, h4, h5, ?_⟩
            obtain ⟨v, hvv, hr⟩ := h6.get _ _ hc
            have hn : v = .slice none 0 0 := ar_raw (hr : Ar G (.c (.d (.raw (.slice none 0 0)))) v)
            have hnil : Cr G (C.d (.lst sz [])) v := by
              rw [hn]
              exact Dr.lst _ [] none 0 (fun _ _ => undef) (by simp) (by simp) (by simp) (by simp) (by simp)
            have hs := h6.set (i := c) (a := C.d (.lst sz [])) (b := v) hnil
            rwa [show vs.set c v = vs from by
              have := getElem?_lt hvv
              rw [List.getElem?_eq_getElem this] at hvv
              injection hvv with hvv
              rw [← hvv]; exact List.set_getElem_self this] at hs
          exact ⟨G, s2, fun x => s.env x, s.N, s.defers⟩
        · exact ⟨G, s⟩
    | row t sz els ver => exact ⟨G, s⟩
    | dead => exact ⟨G, s⟩
theorem Fw.trans {a b c : St} (h1 : Fw pm a b) (h2 : Fw pm b c) : Fw pm a c := fun cx G x w hp s => by
  obtain ⟨G1, s1⟩ := h1 cx G x w hp s
  exact h2 cx G1 x w hp s1
/-- A loop: at its head, and ahead of its next round, the state is first read through. -/
theorem LoopV.ofF {b : Code} {st : St} {Q : Exit → St → Prop} {S : Type} (hm : P.follows .mixedOrders = true) (fz : St → St) (hfz : ∀ st, Fw pm st (fz st)) (keep : List Nat) (vars : S → List (Nat × AV)) (heap : S → List LB) (I : S → Prop) (μ : S → Nat) (s0 : S) (h0 : I s0) (f0 : fitsV pm (fz st) ⟨frame keep st.env (vars s0), heap s0⟩)
    (round : ∀ s, I s → ap (vc P pm E b ⟨frame keep st.env (vars s), heap s⟩) (EthenT (fun st' => ∃ s', (I s' ∧ μ s' < μ s) ∧ fitsV pm (fz st') ⟨frame keep st.env (vars s'), heap s'⟩) Q ⟨⟩ ⟨⟩) ⟨⟩) : LoopV P pm E b st Q ⟨⟩ :=
  fun hok => AXc.loopW (fun s => ⟨frame keep st.env (vars s), heap s⟩) I μ s0 h0 ((hfz st).trans (fitsV_ok f0)) fun s hs => (vc_ok hm b _ _ hok (round s hs)).mono fun e s hs => by
    cases e with
    | normal => obtain ⟨s', ⟨h1, h2⟩, h3⟩ := hs; exact ⟨s', h1, h2, (hfz _).trans (fitsV_ok h3)⟩
    | _ => exact hs
end Go.Ax
