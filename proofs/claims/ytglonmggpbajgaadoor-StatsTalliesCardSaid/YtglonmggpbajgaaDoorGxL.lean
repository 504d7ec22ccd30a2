/- Part of a proof about this program; no condition of its own. -/
import Derived.Test.YtglonmggpbajgaaDoorGxK
set_option linter.all false
/- A region by a table of the sets with variants, from its start. No condition. -/
namespace Go.Ax
open Go Go.RowKit
variable {P : Program} {pm : Pm}
@[push_cast] theorem gv_s (x : Vs) (r : List Vs) (n : Nat) : gv (x :: r) (n + 1) = gv r n := (rfl)
def allV (f : Nat → Prop) : List Nat → Prop
  | [] => True
  | v :: r => f v ∧ allV f r
theorem allV_at {f : Nat → Prop} : ∀ {l : List Nat}, allV f l → ∀ v ∈ l, f v
  | [], _, v, hv => (List.not_mem_nil hv).elim
  | x :: r, h, v, hv => by
    rcases List.mem_cons.1 hv with rfl | hv
    · exact h.1
    · exact allV_at h.2 v hv
theorem RegV.tabV {E : List Nat} {id : Nat} {l : List Oper} {e0 : Env} {h0 : List LB} {Q : Exit → St → Prop} {tk : Tok Q} (hm : P.follows .mixedOrders = true) (tab : List (Nat × List Bool × List (Nat × Nat))) (vs : List Vs) (f : List Nat) (hc : tabVok l tab = true)
    (hz : (has tab 0 (List.replicate l.length false) && fin tab f) = true) (hs : tstP e0 h0 (gv vs 0) (List.replicate l.length false) = ⟨e0, h0⟩) (ho : obvT P pm E l e0 h0 vs tab)
    (hK : allV (fun v => Q .normal (tstP e0 h0 (gv vs v) (List.replicate l.length true))) f) : RegV P pm id l ⟨e0, h0⟩ Q tk := by
  rw [Bool.and_eq_true] at hz
  intro hok cx G a w hp s
  refine wp2_region_any hm ?_
  have s' : Sat cx G ⟨e0, h0⟩ a { w with drawn := w.drawn + 1 } := ⟨s.h.later ((Below.refl _ w).drew), fun t => s.ev (.tmp t), s.N, s.defers⟩
  have hK' : ∀ x ∈ tab, x.2.2 = [] → Q .normal (tstP e0 h0 (gv vs x.1) (List.replicate l.length true)) := fun y hy he => by
    have := List.all_eq_true.1 hz.2 y hy
    rw [he] at this
    exact allV_at hK y.1 (by simpa using this)
  have := RegT.tab (E := E) (tk := tk) tab hc ho hK' 0 hz.1 hs hok cx G a _ hp s'
  simpa using this
end Go.Ax

/- A nil slice in a box, taken as an empty row of the call's own, ahead of a loop. No condition. -/
namespace Go.Ax
open Go Go.RowKit
variable {P : Program} {pm : Pm} {st : St}
theorem Sat.nilfield {cx : Cx} {G : Gh} {a : Act} {w : World} (s : Sat cx G st a w) (b f : Nat) (t te : TypeId) (sz : Nat) {cs : List C} (hb : st.heap[b]? = some (.box t cs)) (hf : cs[f]? = some (.d (.raw (.slice none 0 0)))) :
    Sat cx ⟨G.V, G.g ++ [(.slice none 0 0, 0)]⟩ ⟨st.env, st.heap.set b (.box t (cs.set f (.own st.heap.length 0))) ++ [.row te sz [] 0]⟩ a w := by
  have s' := s.h.push (.slice none 0 0) 0 (.row te sz [] 0) ⟨rfl, [], World.ownsRow_nil w _ te sz, fun b hb => (by cases hb), .nil, by simp⟩ (fun k hk => by cases hk)
  have hbl := getElem?_lt hb
  have hi : (st.heap ++ [LB.row te sz [] 0])[b]? = some (.box t cs) := by rw [List.getElem?_append_left hbl]; exact hb
  obtain ⟨e, he⟩ : ∃ e, (G.g ++ [((.slice none 0 0 : Value), 0)])[b]? = some e := ⟨_, List.getElem?_eq_getElem (by rw [List.length_append, s.h.len]; omega)⟩
  have hL := s'.ent b _ _ hi he
  obtain ⟨q1, blk, vs, q2, q3, q4, q5, q6⟩ := hL
  have hfl := getElem?_lt hf
  have hA : All2 (Cr ⟨G.V, G.g ++ [(.slice none 0 0, 0)]⟩) (cs.set f (.own st.heap.length 0)) vs := by
    refine All2.of_get (by rw [List.length_set]; exact q6.length) fun j c v h1 h2 => ?_
    by_cases hj : f = j
    · subst hj
      rw [List.getElem?_set_self hfl] at h1
      cases h1
      obtain ⟨d, hd, hv⟩ := q6.getR f v h2
      rw [hf] at hd
      cases hd
      have hv : v = .slice none 0 0 := ar_raw (hv : Ar _ (.c (.d (.raw (.slice none 0 0)))) v)
      rw [hv]
      exact ⟨rfl, _, 0, get_last _ _ s.h.len.symm, Nat.le_refl _, fun _ => rfl⟩
    · rw [List.getElem?_set_ne hj] at h1
      obtain ⟨d, hd, hv⟩ := q6.getR j v h2
      rw [h1] at hd
      cases hd
      exact hv
  have s2 := s'.upd (w' := w) (i := b) (b := blk) (lb := .box t cs) (lb' := .box t (cs.set f (.own st.heap.length 0))) (e := e) hi trivial he (by rw [q2]; rfl) rfl rfl rfl rfl (fun _ _ => rfl) ⟨q1, blk, vs, q2, q3, q4, q5, hA⟩
  have e1 : (st.heap ++ [LB.row te sz [] 0]).set b (.box t (cs.set f (.own st.heap.length 0))) = st.heap.set b (.box t (cs.set f (.own st.heap.length 0))) ++ [.row te sz [] 0] := List.set_append_left _ _ hbl
  rw [e1] at s2
  exact ⟨s2, fun t => (s.env t).grow (gle_push _), s.N, s.defers⟩
theorem LoopV.nilfield {E : List Nat} {c : Code} {Q : Exit → St → Prop} {tk : Tok Q} (b f : Nat) (t te : TypeId) (sz : Nat) {cs : List C} (h : LoopV P pm E c ⟨st.env, st.heap.set b (.box t (cs.set f (.own st.heap.length 0))) ++ [.row te sz [] 0]⟩ Q ⟨⟩) (hb : st.heap[b]? = some (.box t cs) := by rfl) (hf : cs[f]? = some (.d (.raw (.slice none 0 0))) := by rfl) : LoopV P pm E c st Q tk :=
  fun hok cx G a w hp s => h hok cx _ a w hp (s.nilfield b f t te sz hb hf)
end Go.Ax

/- Loops at whose head what a box holds is read as data. No condition. -/
namespace Go.Ax
open Go Go.RowKit
variable {P : Program} {pm : Pm} {E : List Nat}
def frzB4 (j c : Nat) (st : St) (tb : TypeId) (cs : List C) (i ver : Nat) : Option LB → St
  | some (.row _ sz els v') => if ver = v' then ⟨st.env, (st.heap.set i .dead).set j (.box tb (cs.set c (.d (.lst sz els))))⟩ else st
  | _ => st
def frzB3 (j c sz : Nat) (st : St) (tb : TypeId) (cs : List C) : Option C → St
  | some (.own i ver) => frzB4 j c st tb cs i ver st.heap[i]?
  | some (.d (.raw (.slice none 0 0))) => ⟨st.env, st.heap.set j (.box tb (cs.set c (.d (.lst sz []))))⟩
  | _ => st
def frzB2 (j c sz : Nat) (st : St) : Option LB → St
  | some (.box tb cs) => frzB3 j c sz st tb cs cs[c]?
  | _ => st
/-- A row that a box holds (or nil), read as data from here on. -/
def frzB (j c sz : Nat) (st : St) : St := frzB2 j c sz st st.heap[j]?
@[push_cast] theorem frzB_eq (j c sz : Nat) (e : Env) (h : List LB) : frzB j c sz ⟨e, h⟩ = frzB2 j c sz ⟨e, h⟩ h[j]? := (rfl)
@[push_cast] theorem frzB2_b (j c sz : Nat) (st : St) (tb : TypeId) (cs : List C) : frzB2 j c sz st (some (.box tb cs)) = frzB3 j c sz st tb cs cs[c]? := (rfl)
@[push_cast] theorem frzB3_o (j c sz : Nat) (e : Env) (h : List LB) (tb : TypeId) (cs : List C) (i ver : Nat) : frzB3 j c sz ⟨e, h⟩ tb cs (some (.own i ver)) = frzB4 j c ⟨e, h⟩ tb cs i ver h[i]? := (rfl)
@[push_cast] theorem frzB3_n (j c sz : Nat) (e : Env) (h : List LB) (tb : TypeId) (cs : List C) : frzB3 j c sz ⟨e, h⟩ tb cs (some (.d (.raw (.slice none 0 0)))) = ⟨e, h.set j (.box tb (cs.set c (.d (.lst sz []))))⟩ := (rfl)
@[push_cast] theorem frzB3_d (j c sz n : Nat) (st : St) (tb : TypeId) (cs : List C) (els : List (List D)) : frzB3 j c sz st tb cs (some (.d (.lst n els))) = st := (rfl)
@[push_cast] theorem frzB4_r (j c : Nat) (e : Env) (h : List LB) (tb t : TypeId) (cs : List C) (i ver sz : Nat) (els : List (List D)) : frzB4 j c ⟨e, h⟩ tb cs i ver (some (.row t sz els ver)) = ⟨e, (h.set i .dead).set j (.box tb (cs.set c (.d (.lst sz els))))⟩ := (if_pos rfl)
theorem frzB_ok (j c sz : Nat) (st : St) : Fw pm st (frzB j c sz st) := by
  intro cx G a w hp s
  unfold frzB
  cases hj : st.heap[j]? with
  | none => exact ⟨G, s⟩
  | some lb =>
    cases lb with
    | box tb cs =>
      show ∃ G', Sat cx G' (frzB3 j c sz st tb cs cs[c]?) a w
      cases hc : cs[c]? with
      | none => exact ⟨G, s⟩
      | some x =>
        unfold frzB3
        split
        · next i ver hx =>
          cases hx
          unfold frzB4
          split
          · next t sz' els v' hi =>
            split
            · next hv =>
              subst hv
              exact s.freezeBox j c hj hc hi
            · exact ⟨G, s⟩
          · exact ⟨G, s⟩
        · next hx =>
          cases hx
          have s2 := s.h.relabel (lb' := .box tb (cs.set c (C.d (.lst sz [])))) hj id fun e he hL => by
            obtain ⟨h1, b, vs, h2, h3, h4, h5, h6⟩ := hL
            refine ⟨h1, b, vs, h2, h3, h4, h5, ?_⟩
            obtain ⟨v, hvv, hr⟩ := h6.get _ _ hc
            have hn : v = .slice none 0 0 := ar_raw (hr : Ar G (.c (.d (.raw (.slice none 0 0)))) v)
            have hnil : Cr G (C.d (.lst sz [])) v := by
              rw [hn]
              exact Dr.lst _ [] none 0 (fun _ _ => undef) (by simp) (by simp) (by simp) (by simp) (by simp)
            have hs := h6.set (i := c) (a := C.d (.lst sz [])) (b := v) hnil
            rwa [show vs.set c v = vs from by
              have := getElem?_lt hvv
              rw [List.getElem?_eq_getElem this] at hvv
              injection hvv with hvv
              rw [← hvv]; exact List.set_getElem_self this] at hs
          exact ⟨G, s2, fun x => s.env x, s.N, s.defers⟩
        · exact ⟨G, s⟩
    | row t sz els ver => exact ⟨G, s⟩
    | dead => exact ⟨G, s⟩
    | mp _ _ => exact ⟨G, s⟩
    | it _ _ => exact ⟨G, s⟩
theorem Fw.trans {a b c : St} (h1 : Fw pm a b) (h2 : Fw pm b c) : Fw pm a c := fun cx G x w hp s => by
  obtain ⟨G1, s1⟩ := h1 cx G x w hp s
  exact h2 cx G1 x w hp s1
/-- A loop: at its head, and ahead of its next round, the state is first read through. -/
theorem LoopV.ofF {b : Code} {st : St} {Q : Exit → St → Prop} {S : Type} (hm : P.follows .mixedOrders = true) (fz : St → St) (hfz : ∀ st, Fw pm st (fz st)) (keep : List Nat) (vars : S → List (Nat × AV)) (heap : S → List LB) (I : S → Prop) (μ : S → Nat) (s0 : S) (h0 : I s0) (f0 : fitsV pm (fz st) ⟨frame keep st.env (vars s0), heap s0⟩)
    (round : ∀ s, I s → ap (vc P pm E b ⟨frame keep st.env (vars s), heap s⟩) (EthenT (fun st' => ∃ s', (I s' ∧ μ s' < μ s) ∧ fitsV pm (fz st') ⟨frame keep st.env (vars s'), heap s'⟩) Q ⟨⟩ ⟨⟩) ⟨⟩) : LoopV P pm E b st Q ⟨⟩ :=
  fun hok => AXc.loopW (fun s => ⟨frame keep st.env (vars s), heap s⟩) I μ s0 h0 ((hfz st).trans (fitsV_ok f0)) fun s hs => (vc_ok hm b _ _ hok (round s hs)).mono fun e s hs => by
    cases e with
    | normal => obtain ⟨s', ⟨h1, h2⟩, h3⟩ := hs; exact ⟨s', h1, h2, (hfz _).trans (fitsV_ok h3)⟩
    | _ => exact hs
end Go.Ax
