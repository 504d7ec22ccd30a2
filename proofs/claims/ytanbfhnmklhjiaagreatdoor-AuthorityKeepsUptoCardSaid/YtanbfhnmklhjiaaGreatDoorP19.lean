/- Part of a proof about this program; no condition of its own. -/
import Derived.Test.YtanbfhnmklhjiaaGreatDoorP18
set_option linter.all false
/-
  Regions of which several operations with effects may come up in either order: every order is walked.
-/
namespace Go.Ax
open Go Go.RowKit
inductive Tr where
  | leaf
  | nil
  | cons (i : Nat) (t r : Tr)
def Tr.kids : Tr → List Nat
  | .cons i _ r => i :: r.kids
  | _ => []
def Tr.chk (l : List Oper) : Tr → Nat → Array Bool → Bool → Bool
  | .leaf, _, L, top => top && Region.ready .any l.toArray L == []
  | .nil, _, _, top => !top
  | .cons i t r, n, L, top => (!top || Region.ready .any l.toArray L == i :: r.kids) && (match n with
    | 0 => false
    | n + 1 => t.chk l n (L.setIfInBounds i true) true && r.chk l (n + 1) L false)
section
variable {P : Program} {pm : Pm} {E : List Nat}
def vca (P : Program) (pm : Pm) (E : List Nat) (l : List Oper) : Tr → St → (St → Prop) → Prop
  | .leaf, st, K => K st
  | .nil, _, _ => True
  | .cons i t r, st, K => (match l[i]? with
    | some o => vgd l o.guard st (fun st => vrun P pm E o st fun st' => vca P pm E l t st' K) (fun st => vca P pm E l t (st.put o.dst U) K)
    | none => False) ∧ vca P pm E l r st K
def vcaO (P : Program) (pm : Pm) (E : List Nat) (l : List Oper) (t : Tr) (st : St) (oo : Option Oper) (K : St → Prop) : Prop := match oo with
    | some o => vgd l o.guard st (fun st => vrun P pm E o st fun st' => vca P pm E l t st' K) (fun st => vca P pm E l t (st.put o.dst U) K)
    | none => False
@[push_cast] theorem vca_leaf (l : List Oper) (st : St) (K : St → Prop) : ap (vca P pm E l .leaf st) K ⟨⟩ = K st := (rfl)
@[push_cast] theorem vca_nil (l : List Oper) (st : St) (K : St → Prop) : ap (vca P pm E l .nil st) K ⟨⟩ = True := (rfl)
@[push_cast] theorem vca_cons (l : List Oper) (i : Nat) (t r : Tr) (st : St) (K : St → Prop) : ap (vca P pm E l (.cons i t r) st) K ⟨⟩ = (ap (vcaO P pm E l t st l[i]?) K ⟨⟩ ∧ ap (vca P pm E l r st) K ⟨⟩) := (rfl)
@[push_cast] theorem vcaO_some (l : List Oper) (o : Oper) (t : Tr) (st : St) (K : St → Prop) : ap (vcaO P pm E l t st (some o)) K ⟨⟩ = ap2 (vgd l o.guard st) (fun st => ap (vrun P pm E o st) (fun st' => ap (vca P pm E l t st') K ⟨⟩) ⟨⟩) (fun st => ap (vca P pm E l t (st.put o.dst U)) K ⟨⟩) ⟨⟩ ⟨⟩ := (rfl)
def Qm (K : Act → World → Prop) (Q : Exit → Act → World → Prop) : Exit → Act → World → Prop
  | .normal => K
  | e => Q e
theorem wp_qm {o : Oper} {a : Act} {w : World} {K : Act → World → Prop} {Q : Exit → Act → World → Prop} (h : o.wp P a w K (Qm K Q)) : o.wp P a w K Q := by
  unfold Oper.wp at *
  generalize (execOp a.eval o).run P w = r at *
  cases r with
  | ok n w' => cases n <;> first | exact h | exact Calls.mono h (fun e w'' he => by cases e <;> exact he)
  | halt x w' => cases x <;> exact h
theorem wpOp_of_list {l : List Oper} {i : Nat} {o : Oper} {a : Act} {w : World} {K : Act → World → Prop} {Q : Exit → Act → World → Prop} (ho : l[i]? = some o) (h : wpList P l.toArray (Qm K Q) [o] a w) : wpOp P l.toArray Q i K a w := by
  have h1 : l.toArray[i]? = some o := by simpa using ho
  unfold wpOp
  simp only [h1]
  simp only [wpList] at h
  split
  · next hw =>
    rw [if_pos hw] at h
    rcases h with h | ⟨h, h2⟩
    · exact .inl (wp_qm h)
    · exact .inr ⟨h, h2⟩
  · next hw => rw [if_neg hw] at h; exact h
theorem vca_ok {l : List Oper} (hok : opsOk l pm.N = true) {cx : Cx} (hp : cx.pm = pm) {Q : Exit → Act → World → Prop} {K : St → Prop} (hQ : ∀ G st a w, Sat cx G st a w → K st → Q .normal a w) : ∀ (t : Tr) (n : Nat) (L : Array Bool) (st : St), vca P pm E l t st K →
    (t.chk l n L true = true → ∀ G a w, Sat cx G st a w → wpAny P .any l.toArray Q n L a w) ∧
    (t.chk l n L false = true → ∀ i ∈ t.kids, ∃ m, n = m + 1 ∧ ∀ G a w, Sat cx G st a w → wpOp P l.toArray Q i (wpAny P .any l.toArray Q m (L.setIfInBounds i true)) a w)
  | .leaf, n, L, st, h => by
    refine ⟨fun hc G a w s => ?_, fun hc => by simp [Tr.chk] at hc⟩
    simp only [Tr.chk, Bool.true_and, beq_iff_eq] at hc
    have hq := hQ G st a w s h
    cases n with
    | zero => exact ⟨hc, hq⟩
    | succ n => exact ⟨fun _ => hq, fun i hi => by rw [hc] at hi; cases hi⟩
  | .nil, n, L, st, _ => ⟨fun hc => by simp [Tr.chk] at hc, fun _ i hi => by cases hi⟩
  | .cons i t r, n, L, st, h => by
    obtain ⟨h1, h2⟩ := h
    have sib : (Tr.cons i t r).chk l n L false = true → ∀ j ∈ (Tr.cons i t r).kids, ∃ m, n = m + 1 ∧ ∀ G a w, Sat cx G st a w → wpOp P l.toArray Q j (wpAny P .any l.toArray Q m (L.setIfInBounds j true)) a w := by
      intro hc j hj
      cases n with
      | zero => simp [Tr.chk] at hc
      | succ n =>
        simp only [Tr.chk, Bool.not_false, Bool.true_or, Bool.true_and, Bool.and_eq_true] at hc
        obtain ⟨hc1, hc2⟩ := hc
        rcases List.mem_cons.1 hj with rfl | hj
        · refine ⟨n, rfl, fun G a w s => ?_⟩
          cases ho : l[j]? with
          | none => rw [ho] at h1; exact h1.elim
          | some o =>
            rw [ho] at h1
            simp only at h1
            refine wpOp_of_list ho ?_
            obtain ⟨g1, g2⟩ := opsOk_at hok (List.mem_of_getElem? ho)
            have key : AXl P pm l.toArray [o] st (fun st' => vca P pm E l t st' K) := vgd_ok g2 g1 (fun st hst => by
              intro ops rest' K' hK'
              exact vrun_ok g2 hst ops rest' K' fun st' hst' => hK' st' (AXl.nil hst')) (fun st hst => AXl.nil hst) h1
            exact key cx G a w _ hp s fun G' st' a' w' s' hk => ((vca_ok hok hp hQ t n _ st' hk).1 hc1) G' a' w' s'
        · obtain ⟨m, hm, hh⟩ := (vca_ok hok hp hQ r (n + 1) L st h2).2 hc2 j hj
          exact ⟨m, hm, hh⟩
    refine ⟨fun hc => ?_, sib⟩
    cases n with
    | zero => simp [Tr.chk] at hc
    | succ n =>
      intro G a w s
      have hc' : (Tr.cons i t r).chk l (n + 1) L false = true := by
        simp only [Tr.chk, Bool.not_true, Bool.false_or, Bool.not_false, Bool.true_or, Bool.true_and, Bool.and_eq_true] at hc ⊢
        exact hc.2
      have hr : Region.ready .any l.toArray L = i :: r.kids := by
        simp only [Tr.chk, Bool.not_true, Bool.false_or, Bool.and_eq_true, beq_iff_eq] at hc
        exact hc.1
      refine ⟨fun he => (by rw [hr] at he; cases he), fun j hj => ?_⟩
      rw [hr] at hj
      obtain ⟨m, hm, hh⟩ := sib hc' j hj
      have : n = m := by omega
      subst this
      exact hh G a w s
theorem RegV.any {id : Nat} {l : List Oper} {st : St} {Q : Exit → St → Prop} {tk : Tok Q} (hm : P.follows .mixedOrders = true) (t : Tr) (hc : t.chk l l.length (Array.replicate l.length false) true = true) (K : St → Prop) (h : ap (vca P pm E l t st) K ⟨⟩) (hK : ∀ st', K st' → Q .normal st') : RegV P pm id l st Q tk := by
  intro hok cx G a w hp s
  refine wp2_region_any hm ?_
  have s' : Sat cx G st a { w with drawn := w.drawn + 1 } := ⟨s.h.later ((Below.refl _ w).drew), fun t => s.ev (.tmp t), s.N, s.defers⟩
  have := (vca_ok (P := P) (E := E) (Q := Post cx Q) (K := K) hok hp (fun G st a w s k => ⟨G, st, s, hK st k⟩) t l.length (Array.replicate l.length false) st h).1 hc G a _ s'
  simpa using this
end
end Go.Ax

/- Small facts on lists: a list changed up to a place; sums of bounds. No condition. -/
namespace Go.Ax
section
variable {α β : Type}
def upto (f : α → α) (k : Nat) (l : List α) : List α := (l.take k).map f ++ l.drop k
end
end Go.Ax

/- Nil slices within closed data, read as empty lists. No condition. -/
namespace Go.Ax
open Go Go.RowKit
inductive Nl : D → D → Prop where
  | refl (x : D) : Nl x x
  | nil (sz : Nat) : Nl (.raw (.slice none 0 0)) (.lst sz [])
  | lst (sz : Nat) (els els' : List (List D)) (hl : els'.length = els.length) (hr : ∀ (i : Nat) (e e' : List D), els[i]? = some e → els'[i]? = some e' → e'.length = e.length)
      (h : ∀ (i j : Nat) (e e' : List D) (c c' : D), els[i]? = some e → els'[i]? = some e' → e[j]? = some c → e'[j]? = some c' → Nl c c') : Nl (.lst sz els) (.lst sz els')
theorem Nl.dr {V : Vw} {x y : D} (h : Nl x y) : ∀ {v : Value}, Dr V x v → Dr V y v := by
  induction h with
  | refl x => intro v hd; exact hd
  | nil sz => intro v hd; exact (NilTo.nil sz).dr hd
  | lst sz els els' hl hr _ ih =>
    intro v hd
    cases hd with
    | lst _ _ A cap u hc hm he ha hu =>
      rw [← hl]
      have lk : ∀ (i j : Nat) (e' : List D) (c' : D), els'[i]? = some e' → e'[j]? = some c' → ∃ e c, els[i]? = some e ∧ e[j]? = some c := fun i j e' c' h1 h2 => by
        have hi := getElem?_lt h1
        have hi' : i < els.length := by omega
        have hj := getElem?_lt h2
        have hlen := hr i _ _ (List.getElem?_eq_getElem hi') h1
        exact ⟨_, _, List.getElem?_eq_getElem hi', List.getElem?_eq_getElem (show j < els[i].length by omega)⟩
      refine .lst sz els' A cap u (by omega) hm (fun e' he' => ?_) (fun hn => ?_) (fun i e' j c' h1 h2 => ?_)
      · obtain ⟨i, hi, rfl⟩ := List.getElem_of_mem he'
        have hi' : i < els.length := by omega
        rw [hr i _ _ (List.getElem?_eq_getElem hi') (List.getElem?_eq_getElem hi)]
        exact he _ (List.getElem_mem _)
      · obtain ⟨ad, h1, h2, h3⟩ := ha fun e => hn (by rw [e] at hl; exact List.length_eq_zero_iff.1 hl)
        refine ⟨ad, h1, h2, fun i e' j c' q1 q2 => ?_⟩
        obtain ⟨e, c, q3, q4⟩ := lk i j e' c' q1 q2
        exact h3 i e j c q3 q4
      · obtain ⟨e, c, q3, q4⟩ := lk i j e' c' h1 h2
        exact ih i j e e' c c' q3 h1 q4 h2 (hu i e j c q3 q4)
theorem Nl.rows {sz : Nat} {els els' : List (List D)} (h : All2 (All2 Nl) els els') : Nl (.lst sz els) (.lst sz els') := by
  refine .lst sz els els' h.length.symm (fun i e e' h1 h2 => ?_) (fun i j e e' c c' h1 h2 h3 h4 => ?_)
  · obtain ⟨b, q1, q2⟩ := h.get _ _ h1
    rw [h2] at q1; cases q1; exact q2.length.symm
  · obtain ⟨b, q1, q2⟩ := h.get _ _ h1
    rw [h2] at q1; cases q1
    obtain ⟨b, q3, q4⟩ := q2.get _ _ h3
    rw [h4] at q3; cases q3; exact q4
theorem AFn.nl {P : Program} {Γ : List (Nat × List D)} {f : FuncId} {args : List AV} {x y : D} (h : AFn P Γ f args [.d x]) (hn : Nl x y) : AFn P Γ f args [.d y] :=
  ⟨h.call, fun V w vals hv ha => (h.run V w vals hv ha).mono fun e w' ⟨V', vs, h1, h2, h3, h4, h5, h6⟩ => ⟨V', vs, h1, h2, h3, h4, by
    cases h5 with
    | cons q1 q2 => exact .cons (hn.dr q1) q2, h6⟩⟩
end Go.Ax

/- A call walked in place, reckoned; and what stands behind it. No condition. -/
namespace Go.Ax
open Go Go.RowKit
def inl2 (st : St) (dst : Option Nat) (k : St → Prop) (_ : Tok k) (h : List LB) : Option (List AV) → Prop
  | some [] => k (St.put ⟨st.env, h⟩ dst (.tup []))
  | some [α] => k (St.put ⟨st.env, h⟩ dst α)
  | some (α :: β :: r) => (α :: β :: r).all AV.flat = true ∧ k (St.put ⟨st.env, h⟩ dst (.tup (α :: β :: r)))
  | none => False
def inlF (P : Program) (res : List ResultVar) (st : St) (dst : Option Nat) (k : St → Prop) (t : Tok k) (st' : St) : Prop := inl2 st dst k t st'.heap (resAVs P st' res)
def InlQ (P : Program) (res : List ResultVar) (st : St) (dst : Option Nat) (k : St → Prop) (t : Tok k) : Exit → St → Prop
  | .ret, st' => inlF P res st dst k t st'
  | .normal, st' => inlF P res st dst k t st'
  | _, _ => False
theorem inl_in {P : Program} {res : List ResultVar} {st st' : St} {dst : Option Nat} {k : St → Prop} {t : Tok k} (h : inlF P res st dst k t st') : ∃ α, inRes P st' res = some α ∧ k (St.put ⟨st.env, st'.heap⟩ dst α) := by
  unfold inlF at h
  match res with
  | [] => exact ⟨.tup [], by simp [inRes, resAVs], by simpa [resAVs, inl2] using h⟩
  | [r] =>
    simp only [resAVs] at h
    split at h
    · next α l h1 h2 => cases h2; exact ⟨α, h1, h⟩
    · exact h.elim
  | r1 :: r2 :: rs =>
    cases hr : resAVs P st' (r1 :: r2 :: rs) with
    | none => rw [hr] at h; exact h.elim
    | some αs =>
      rw [hr] at h
      match αs, h, hr with
      | [], h, hr => simp only [resAVs] at hr; split at hr <;> cases hr
      | [α], h, hr =>
        simp only [resAVs] at hr
        split at hr
        · next h1 h2 =>
          cases hr
          split at h2 <;> cases h2
        · cases hr
      | α :: β :: r, h, hr =>
        refine ⟨.tup (α :: β :: r), ?_, h.2⟩
        show (match resAVs P st' _ with | some αs => if αs.all AV.flat = true ∧ αs.length ≠ 1 then some (AV.tup αs) else none | none => none) = _
        rw [hr]
        exact if_pos ⟨h.1, by simp⟩
section
variable {P : Program} {pm : Pm} {st : St} {o : Oper} {as : List AV} {f : FuncId}
theorem CallL.inl {k : St → Prop} {t : Tok k} {fn : Func} {c : Code} {n : Nat} {res : Array ResultVar} {x : Operand} {xs : List Operand} {ts : Array TypeId} (E : List Nat) (hf : P.funcs[f]? = some fn) (hb : fn.body = some c) (hm : P.follows .mixedOrders = true)
    (hok : (!(fn.name == "runtime.NumGoroutine") && codeOk E fn.ntmps c) = true) (hn : fn.ntmps = n) (hr : fn.results = res)
    (h : ap (Ax.vc P ⟨st.heap.length, n, pm.Γ⟩ E c ⟨envOf as 0, st.heap⟩) (InlQ P res.toList st o.dst k ⟨⟩) ⟨⟩)
    (hop : o.op = .call { callee := .value x, args := xs.toArray, argTypes := ts } := by rfl) (hx : ev pm.Γ st.env x = .c (.clo f []) := by rfl) (has : xs.map (ev pm.Γ st.env) = as := by rfl) (hN : xs.length ≤ n := by decide) (hd : dstOk pm.N o.dst := by first | decide | trivial) :
    CallL P pm o st (.c (.clo f [])) as k t := by
  subst hn hr has
  simp only [Bool.and_eq_true, Bool.not_eq_true'] at hok
  refine .inr (.inr fun ops rest K hK => ?_)
  obtain ⟨dst, op, ty, p, af, gd⟩ := o
  simp only at hop hd
  subst hop
  refine AXl.inline hf hok.1 hb hx (by simpa using hN) hd ?_
  simp only [List.map_nil, List.append_nil]
  refine (vc_ok (pm := ⟨st.heap.length, fn.ntmps, pm.Γ⟩) hm c _ _ hok.2 h).mono fun e s hs => ?_
  cases e with
  | ret => obtain ⟨α, h1, h2⟩ := inl_in hs; exact ⟨.inl rfl, α, h1, hK _ h2⟩
  | normal => obtain ⟨α, h1, h2⟩ := inl_in hs; exact ⟨.inr rfl, α, h1, hK _ h2⟩
  | _ => exact hs.elim
@[push_cast] theorem InlQ_r (res : List ResultVar) (st : St) (dst : Option Nat) (k : St → Prop) (t : Tok k) (st' : St) : InlQ P res st dst k t .ret st' = inlF P res st dst k t st' := (rfl)
@[push_cast] theorem InlQ_n (res : List ResultVar) (st : St) (dst : Option Nat) (k : St → Prop) (t : Tok k) (st' : St) : InlQ P res st dst k t .normal st' = inlF P res st dst k t st' := (rfl)
@[push_cast] theorem inlF_2 (res : List ResultVar) (st : St) (dst : Option Nat) (k : St → Prop) (t : Tok k) (st' : St) : inlF P res st dst k t st' = inl2 st dst k t st'.heap (resAVs P st' res) := (rfl)
@[push_cast] theorem inl2_0 (st : St) (dst : Option Nat) (k : St → Prop) (t : Tok k) (h : List LB) : inl2 st dst k t h (some []) = k (St.put ⟨st.env, h⟩ dst (.tup [])) := (rfl)
@[push_cast] theorem inl2_1 (st : St) (dst : Option Nat) (k : St → Prop) (t : Tok k) (h : List LB) (α : AV) : inl2 st dst k t h (some [α]) = k (St.put ⟨st.env, h⟩ dst α) := (rfl)
@[push_cast] theorem inl2_2 (st : St) (dst : Option Nat) (k : St → Prop) (t : Tok k) (h : List LB) (α β : AV) (r : List AV) : inl2 st dst k t h (some (α :: β :: r)) = ((α :: β :: r).all AV.flat = true ∧ k (St.put ⟨st.env, h⟩ dst (.tup (α :: β :: r)))) := (rfl)
end
section
variable {P : Program} {pm : Pm} {E : List Nat} {h : List LB} {ρ : Operand → AV} {k : AV → Prop} {ks : St → Prop} {dst : Option Tmp} {ty : TypeId} {p : String} {af : Array Edge} {gd : Option (Nat × Bool)}
@[push_cast] theorem pureO_field (t : TypeId) (x : Operand) (i : Nat) : pureO E ⟨dst, .field t x i, ty, p, af, gd⟩ = true := (rfl)
@[push_cast] theorem vq_field (t : TypeId) (x : Operand) (i : Nat) : ap (vq P h pm ⟨dst, .field t x i, ty, p, af, gd⟩ ρ) (k) ⟨⟩ = ap (vfv2 (flT P t i) (ρ x)) (k) ⟨⟩ := (rfl)
@[push_cast] theorem vrun_field (t : TypeId) (x : Operand) (i : Nat) (st : St) : ap (vrun P pm E ⟨dst, .field t x i, ty, p, af, gd⟩ st) (ks) ⟨⟩ = ap (vfv2 (flT P t i) (ev pm.Γ st.env x)) (fun r => ks (st.put dst r)) ⟨⟩ := (rfl)
@[push_cast] theorem vfv2_s (o : Nat) (cs : List C) : ap (vfv2 (some o) (.agg cs)) (k) ⟨⟩ = ap (vat cs o) (k) ⟨⟩ := (rfl)
end
end Go.Ax

/- A region whose operations may come up in any order, by the sets of those that have come up. No condition. -/
namespace Go.Ax
open Go Go.RowKit
theorem countFalse_set : ∀ (L : List Bool) (i : Nat), L[i]? = some false → (L.set i true).count false + 1 = L.count false
  | [], i, h => by simp at h
  | b :: r, 0, h => by simp at h; subst h; simp
  | b :: r, i + 1, h => by
    have := countFalse_set r i (by simpa using h)
    simp only [List.set_cons_succ, List.count_cons]
    omega
theorem none_ready (l : List Oper) (L : List Bool) (hl : L.length = l.length) (hc : L.count false = 0) : Region.ready .any l.toArray L.toArray = [] := by
  unfold Region.ready
  rw [List.filter_eq_nil_iff]
  intro i hi
  have hi : i < L.length := by rw [hl]; simpa using hi
  have hm : false ∉ L := List.count_eq_zero.1 hc
  have : L[i] = true := by
    cases e : L[i] with
    | true => rfl
    | false => exact absurd (e ▸ List.getElem_mem hi) hm
  simp [hi, this]
theorem ready_at {l : List Oper} {L : List Bool} (hl : L.length = l.length) {i : Nat} (h : i ∈ Region.ready .any l.toArray L.toArray) : L[i]? = some false := by
  unfold Region.ready at h
  rw [List.mem_filter] at h
  obtain ⟨h1, h2⟩ := h
  have hi : i < L.length := by rw [hl]; simpa using h1
  simp only [Bool.and_eq_true, Bool.not_eq_true'] at h2
  have h3 := h2.1
  simp [hi] at h3
  rw [List.getElem?_eq_getElem hi, h3]
section
variable {P : Program} {pm : Pm} {E : List Nat}
theorem set_ok {l : List Oper} (hok : opsOk l pm.N = true) {cx : Cx} (hp : cx.pm = pm) {Q : Exit → Act → World → Prop} {J : List Bool → St → Prop} (hlen : ∀ L st, J L st → L.length = l.length)
    (hstep : ∀ L st, J L st → ∀ i, i ∈ Region.ready .any l.toArray L.toArray → ∃ o, l[i]? = some o ∧ ap2 (vgd l o.guard st) (fun st => ap (vrun P pm E o st) (fun st' => J (L.set i true) st') ⟨⟩) (fun st => J (L.set i true) (st.put o.dst U)) ⟨⟩ ⟨⟩)
    (hQ : ∀ L st, J L st → Region.ready .any l.toArray L.toArray = [] → ∀ G a w, Sat cx G st a w → Q .normal a w) : ∀ (n : Nat) (L : List Bool) (st : St), J L st → L.count false = n → ∀ G a w, Sat cx G st a w → wpAny P .any l.toArray Q n L.toArray a w
  | 0, L, st, hj, hc, G, a, w, s => by
    have hr := none_ready l L (hlen L st hj) hc
    exact ⟨hr, hQ L st hj hr G a w s⟩
  | n + 1, L, st, hj, hc, G, a, w, s => by
    refine ⟨fun hr => hQ L st hj hr G a w s, fun i hi => ?_⟩
    obtain ⟨o, ho, h1⟩ := hstep L st hj i hi
    have hf := ready_at (hlen L st hj) hi
    have hcs := countFalse_set L i hf
    refine wpOp_of_list ho ?_
    obtain ⟨g1, g2⟩ := opsOk_at hok (List.mem_of_getElem? ho)
    have key : AXl P pm l.toArray [o] st (fun st' => J (L.set i true) st') := vgd_ok g2 g1 (fun st hst => by
      intro ops rest' K' hK'
      exact vrun_ok g2 hst ops rest' K' fun st' hst' => hK' st' (AXl.nil hst')) (fun st hst => AXl.nil hst) h1
    refine key cx G a w _ hp s fun G' st' a' w' s' hk => ?_
    have e : (L.toArray.setIfInBounds i true) = (L.set i true).toArray := by simp
    rw [e]
    exact set_ok hok hp hlen hstep hQ n (L.set i true) st' hk (by omega) G' a' w' s'
theorem RegV.set {id : Nat} {l : List Oper} {st : St} {Q : Exit → St → Prop} {tk : Tok Q} (hm : P.follows .mixedOrders = true) (J : List Bool → St → Prop) (h0 : J (List.replicate l.length false) st) (hlen : ∀ L st, J L st → L.length = l.length)
    (hstep : ∀ L st, J L st → ∀ i, i ∈ Region.ready .any l.toArray L.toArray → ∃ o, l[i]? = some o ∧ ap2 (vgd l o.guard st) (fun st => ap (vrun P pm E o st) (fun st' => J (L.set i true) st') ⟨⟩) (fun st => J (L.set i true) (st.put o.dst U)) ⟨⟩ ⟨⟩)
    (hK : ∀ L st', J L st' → Region.ready .any l.toArray L.toArray = [] → Q .normal st') : RegV P pm id l st Q tk := by
  intro hok cx G a w hp s
  refine wp2_region_any hm ?_
  have s' : Sat cx G st a { w with drawn := w.drawn + 1 } := ⟨s.h.later ((Below.refl _ w).drew), fun t => s.ev (.tmp t), s.N, s.defers⟩
  have := set_ok (P := P) (E := E) (Q := Post cx Q) hok hp hlen hstep (fun L st hj hr G a w s => ⟨G, st, s, hK L st hj hr⟩) (List.replicate l.length false).length.succ.pred (List.replicate l.length false) st h0 (by simp) G a _ s'
  simpa using this
end
/-! ### by a table of the sets -/
def fenv : Env → List (Option (Nat × AV)) → List Bool → Env
  | e, some (d, v) :: r, true :: L => fenv (pute d v e) r L
  | e, some _ :: r, false :: L => fenv e r L
  | e, none :: r, _ :: L => fenv e r L
  | e, _, _ => e
def hfold : List LB → List (Option (List LB)) → List Bool → List LB
  | _, some h :: r, true :: L => hfold h r L
  | h, some _ :: r, false :: L => hfold h r L
  | h, none :: r, _ :: L => hfold h r L
  | h, _, _ => h
@[push_cast] theorem fenv_t (e : Env) (d : Nat) (v : AV) (r : List (Option (Nat × AV))) (L : List Bool) : fenv e (some (d, v) :: r) (true :: L) = fenv (pute d v e) r L := (rfl)
@[push_cast] theorem fenv_f (e : Env) (x : Nat × AV) (r : List (Option (Nat × AV))) (L : List Bool) : fenv e (some x :: r) (false :: L) = fenv e r L := (rfl)
@[push_cast] theorem fenv_n (e : Env) (b : Bool) (r : List (Option (Nat × AV))) (L : List Bool) : fenv e (none :: r) (b :: L) = fenv e r L := (rfl)
@[push_cast] theorem fenv_z (e : Env) (L : List Bool) : fenv e [] L = e := (rfl)
@[push_cast] theorem hfold_t (h0 h : List LB) (r : List (Option (List LB))) (L : List Bool) : hfold h0 (some h :: r) (true :: L) = hfold h r L := (rfl)
@[push_cast] theorem hfold_f (h0 h : List LB) (r : List (Option (List LB))) (L : List Bool) : hfold h0 (some h :: r) (false :: L) = hfold h0 r L := (rfl)
@[push_cast] theorem hfold_n (h0 : List LB) (b : Bool) (r : List (Option (List LB))) (L : List Bool) : hfold h0 (none :: r) (b :: L) = hfold h0 r L := (rfl)
@[push_cast] theorem hfold_z (h0 : List LB) (L : List Bool) : hfold h0 [] L = h0 := (rfl)
section
variable (P : Program) (pm : Pm) (E : List Nat) (l : List Oper) (e0 : Env) (h0 : List LB) (vals : List (Option (Nat × AV))) (heaps : List (Option (List LB)))
def tst (L : List Bool) : St := ⟨fenv e0 vals L, hfold h0 heaps L⟩
def EqSt (a b : St) : Prop := a = b
def oblI (L : List Bool) (i : Nat) : Option Oper → Prop
  | some o => ap2 (vgd l o.guard (tst e0 h0 vals heaps L)) (fun st => ap (vrun P pm E o st) (fun st' => EqSt st' (tst e0 h0 vals heaps (L.set i true))) ⟨⟩) (fun st => EqSt (st.put o.dst U) (tst e0 h0 vals heaps (L.set i true))) ⟨⟩ ⟨⟩
  | none => False
def oblL (L : List Bool) : List Nat → Prop
  | [] => True
  | i :: r => oblI P pm E l e0 h0 vals heaps L i l[i]? ∧ oblL L r
def oblT : List (List Bool × List Nat) → Prop
  | [] => True
  | x :: r => oblL P pm E l e0 h0 vals heaps x.1 x.2 ∧ oblT r
end
def tabOk (l : List Oper) (tab : List (List Bool × List Nat)) : Bool :=
  tab.all fun x => decide (x.1.length = l.length) && (Region.ready .any l.toArray x.1.toArray == x.2) && x.2.all (fun i => tab.any fun y => y.1 == x.1.set i true) && (x.2 != [] || x.1.all id)
section
variable {P : Program} {pm : Pm} {E : List Nat} {l : List Oper} {e0 : Env} {h0 : List LB} {vals : List (Option (Nat × AV))} {heaps : List (Option (List LB))}
theorem oblT_at : ∀ (tab : List (List Bool × List Nat)), oblT P pm E l e0 h0 vals heaps tab → ∀ x ∈ tab, oblL P pm E l e0 h0 vals heaps x.1 x.2
  | [], _, x, hx => by cases hx
  | y :: r, h, x, hx => by
    rcases List.mem_cons.1 hx with rfl | hx
    · exact h.1
    · exact oblT_at r h.2 x hx
theorem oblL_at (L : List Bool) : ∀ (is : List Nat), oblL P pm E l e0 h0 vals heaps L is → ∀ i ∈ is, oblI P pm E l e0 h0 vals heaps L i l[i]?
  | [], _, i, hi => by cases hi
  | y :: r, h, i, hi => by
    rcases List.mem_cons.1 hi with rfl | hi
    · exact h.1
    · exact oblL_at L r h.2 i hi
theorem RegV.tab {id : Nat} {Q : Exit → St → Prop} {tk : Tok Q} (hm : P.follows .mixedOrders = true) (tab : List (List Bool × List Nat)) (vals : List (Option (Nat × AV))) (heaps : List (Option (List LB))) (hc : tabOk l tab = true) (hz : tab.any (fun x => x.1 == List.replicate l.length false) = true)
    (hs : tst e0 h0 vals heaps (List.replicate l.length false) = ⟨e0, h0⟩) (ho : oblT P pm E l e0 h0 vals heaps tab) (hK : Q .normal (tst e0 h0 vals heaps (List.replicate l.length true))) : RegV P pm id l ⟨e0, h0⟩ Q tk := by
  have hc' := List.all_eq_true.1 hc
  refine RegV.set (E := E) hm (fun L st => (∃ is, (L, is) ∈ tab) ∧ st = tst e0 h0 vals heaps L) ⟨?_, hs.symm⟩ (fun L st hj => ?_) (fun L st hj i hi => ?_) (fun L st hj hr => ?_)
  · obtain ⟨x, hx, he⟩ := List.any_eq_true.1 hz
    have : x.1 = List.replicate l.length false := by simpa using he
    exact ⟨x.2, by rw [← this]; exact hx⟩
  · obtain ⟨⟨is, hx⟩, _⟩ := hj
    have := hc' _ hx
    simp only [Bool.and_eq_true, decide_eq_true_eq] at this
    exact this.1.1.1
  · obtain ⟨⟨is, hx⟩, rfl⟩ := hj
    have := hc' _ hx
    simp only [Bool.and_eq_true, decide_eq_true_eq, beq_iff_eq] at this
    obtain ⟨⟨⟨q1, q2⟩, q3⟩, _⟩ := this
    rw [q2] at hi
    have hob := oblL_at L is (oblT_at tab ho _ hx) i hi
    obtain ⟨y, hy, he⟩ := List.any_eq_true.1 (List.all_eq_true.1 q3 i hi)
    have hy2 : y.1 = L.set i true := by simpa using he
    have hmem : ∃ is', (L.set i true, is') ∈ tab := ⟨y.2, by rw [← hy2]; exact hy⟩
    cases hl : l[i]? with
    | none => rw [hl] at hob; exact hob.elim
    | some o =>
      rw [hl] at hob
      refine ⟨o, rfl, ?_⟩
      have e1 : (fun st' : St => (∃ is', (L.set i true, is') ∈ tab) ∧ st' = tst e0 h0 vals heaps (L.set i true)) = fun st' => EqSt st' (tst e0 h0 vals heaps (L.set i true)) := by
        funext st'
        exact propext ⟨fun h => h.2, fun h => ⟨hmem, h⟩⟩
      show ap2 (vgd l o.guard (tst e0 h0 vals heaps L)) (fun st => vrun P pm E o st fun st' => (∃ is', (L.set i true, is') ∈ tab) ∧ st' = tst e0 h0 vals heaps (L.set i true)) (fun st => (∃ is', (L.set i true, is') ∈ tab) ∧ st.put o.dst U = tst e0 h0 vals heaps (L.set i true)) ⟨⟩ ⟨⟩
      have e2 : (fun st : St => (∃ is', (L.set i true, is') ∈ tab) ∧ st.put o.dst U = tst e0 h0 vals heaps (L.set i true)) = fun st => EqSt (st.put o.dst U) (tst e0 h0 vals heaps (L.set i true)) := by
        funext st
        exact propext ⟨fun h => h.2, fun h => ⟨hmem, h⟩⟩
      rw [e1, e2]
      exact hob
  · obtain ⟨⟨is, hx⟩, rfl⟩ := hj
    have := hc' _ hx
    simp only [Bool.and_eq_true, decide_eq_true_eq, beq_iff_eq, Bool.or_eq_true, bne_iff_ne] at this
    obtain ⟨⟨⟨q1, q2⟩, _⟩, q4⟩ := this
    have hall : L = List.replicate l.length true := by
      rcases q4 with q4 | q4
      · exact absurd (q2.symm.trans hr) q4
      · rw [← q1]
        refine List.eq_replicate_iff.2 ⟨rfl, fun b hb => ?_⟩
        exact (List.all_eq_true.1 q4 b hb)
    rw [← hall] at hK
    exact hK
@[push_cast] theorem oblT_n : oblT P pm E l e0 h0 vals heaps [] = True := (rfl)
@[push_cast] theorem oblT_c (L : List Bool) (is : List Nat) (r : List (List Bool × List Nat)) : oblT P pm E l e0 h0 vals heaps ((L, is) :: r) = (oblL P pm E l e0 h0 vals heaps L is ∧ oblT P pm E l e0 h0 vals heaps r) := (rfl)
@[push_cast] theorem oblL_n (L : List Bool) : oblL P pm E l e0 h0 vals heaps L [] = True := (rfl)
@[push_cast] theorem oblL_c (L : List Bool) (i : Nat) (r : List Nat) : oblL P pm E l e0 h0 vals heaps L (i :: r) = (oblI P pm E l e0 h0 vals heaps L i l[i]? ∧ oblL P pm E l e0 h0 vals heaps L r) := (rfl)
@[push_cast] theorem oblI_s (L : List Bool) (i : Nat) (o : Oper) : oblI P pm E l e0 h0 vals heaps L i (some o) = ap2 (vgd l o.guard (tst e0 h0 vals heaps L)) (fun st => ap (vrun P pm E o st) (fun st' => EqSt st' (tst e0 h0 vals heaps (L.set i true))) ⟨⟩) (fun st => EqSt (st.put o.dst U) (tst e0 h0 vals heaps (L.set i true))) ⟨⟩ ⟨⟩ := (rfl)
@[push_cast] theorem tst_eq (L : List Bool) : tst e0 h0 vals heaps L = ⟨fenv e0 vals L, hfold h0 heaps L⟩ := (rfl)
end
end Go.Ax

/- A call walked in place, whose own memory is forgotten behind it. No condition. -/
namespace Go.Ax
open Go Go.RowKit
section
variable {P : Program} {pm : Pm}
def fgt (pm : Pm) (st : St) (dst : Option Nat) (k : St → Prop) (_ : Tok k) (h : List LB) : Prop := st.heap.length ≤ h.length ∧ lowHs st.heap.length (h.take st.heap.length) ∧ k (St.put ⟨st.env, h.take st.heap.length⟩ dst (.tup []))
def Inl0Q (pm : Pm) (st : St) (dst : Option Nat) (k : St → Prop) (t : Tok k) : Exit → St → Prop
  | .ret, st' => fgt pm st dst k t st'.heap
  | .normal, st' => fgt pm st dst k t st'.heap
  | _, _ => False
variable {st : St} {o : Oper} {as : List AV} {f : FuncId}
@[push_cast] theorem Inl0Q_r (k : St → Prop) (t : Tok k) (dst : Option Nat) (st' : St) : Inl0Q pm st dst k t .ret st' = fgt pm st dst k t st'.heap := (rfl)
@[push_cast] theorem Inl0Q_n (k : St → Prop) (t : Tok k) (dst : Option Nat) (st' : St) : Inl0Q pm st dst k t .normal st' = fgt pm st dst k t st'.heap := (rfl)
@[push_cast] theorem fgt_e (k : St → Prop) (t : Tok k) (dst : Option Nat) (h : List LB) : fgt pm st dst k t h = (st.heap.length ≤ h.length ∧ lowHs st.heap.length (h.take st.heap.length) ∧ k (St.put ⟨st.env, h.take st.heap.length⟩ dst (.tup []))) := (rfl)
end
end Go.Ax
