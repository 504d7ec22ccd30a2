/- Part of a proof about this program; no condition of its own. -/
import Derived.Test.YtanbfhnmklhjiaaGreatDoorGxK
set_option linter.all false
/- A region by a table of the sets with variants, from its start. No condition. -/
namespace Go.Ax
open Go Go.RowKit
variable {P : Program} {pm : Pm}
@[push_cast] theorem gv_s (x : Vs) (r : List Vs) (n : Nat) : gv (x :: r) (n + 1) = gv r n := (rfl)
def allV (f : Nat → Prop) : List Nat → Prop
  | [] => True
  | v :: r => f v ∧ allV f r
theorem allV_at {f : Nat → Prop} : ∀ {l : List Nat}, allV f l → ∀ v ∈ l, f v
  | [], _, v, hv => (List.not_mem_nil hv).elim
  | x :: r, h, v, hv => by
    rcases List.mem_cons.1 hv with rfl | hv
    · exact h.1
    · exact allV_at h.2 v hv
theorem RegV.tabV {E : List Nat} {id : Nat} {l : List Oper} {e0 : Env} {h0 : List LB} {Q : Exit → St → Prop} {tk : Tok Q} (hm : P.follows .mixedOrders = true) (tab : List (Nat × List Bool × List (Nat × Nat))) (vs : List Vs) (f : List Nat) (hc : tabVok l tab = true)
    (hz : (has tab 0 (List.replicate l.length false) && fin tab f) = true) (hs : tstP e0 h0 (gv vs 0) (List.replicate l.length false) = ⟨e0, h0⟩) (ho : obvT P pm E l e0 h0 vs tab)
    (hK : allV (fun v => Q .normal (tstP e0 h0 (gv vs v) (List.replicate l.length true))) f) : RegV P pm id l ⟨e0, h0⟩ Q tk := by
  rw [Bool.and_eq_true] at hz
  intro hok cx G a w hp s
  refine wp2_region_any hm ?_
  have s' : Sat cx G ⟨e0, h0⟩ a { w with drawn := w.drawn + 1 } := ⟨s.h.later ((Below.refl _ w).drew), fun t => s.ev (.tmp t), s.N, s.defers⟩
  have hK' : ∀ x ∈ tab, x.2.2 = [] → Q .normal (tstP e0 h0 (gv vs x.1) (List.replicate l.length true)) := fun y hy he => by
    have := List.all_eq_true.1 hz.2 y hy
    rw [he] at this
    exact allV_at hK y.1 (by simpa using this)
  have := RegT.tab (E := E) (tk := tk) tab hc ho hK' 0 hz.1 hs hok cx G a _ hp s'
  simpa using this
end Go.Ax

/- A nil slice in a box, taken as an empty row of the call's own, ahead of a loop. No condition. -/
namespace Go.Ax
open Go Go.RowKit
variable {P : Program} {pm : Pm} {st : St}
theorem Sat.nilfield {cx : Cx} {G : Gh} {a : Act} {w : World} (s : Sat cx G st a w) (b f : Nat) (t te : TypeId) (sz : Nat) {cs : List C} (hb : st.heap[b]? = some (.box t cs)) (hf : cs[f]? = some (.d (.raw (.slice none 0 0)))) :
    Sat cx ⟨G.V, G.g ++ [(.slice none 0 0, 0)]⟩ ⟨st.env, st.heap.set b (.box t (cs.set f (.own st.heap.length 0))) ++ [.row te sz [] 0]⟩ a w := by
  have s' := s.h.push (.slice none 0 0) 0 (.row te sz [] 0) ⟨rfl, [], World.ownsRow_nil w _ te sz, fun b hb => (by cases hb), .nil, by simp⟩ (fun k hk => by cases hk)
  have hbl := getElem?_lt hb
  have hi : (st.heap ++ [LB.row te sz [] 0])[b]? = some (.box t cs) := by rw [List.getElem?_append_left hbl]; exact hb
  obtain ⟨e, he⟩ : ∃ e, (G.g ++ [((.slice none 0 0 : Value), 0)])[b]? = some e := ⟨_, List.getElem?_eq_getElem (by rw [List.length_append, s.h.len]; omega)⟩
  have hL := s'.ent b _ _ hi he
  obtain ⟨q1, blk, vs, q2, q3, q4, q5, q6⟩ := hL
  have hfl := getElem?_lt hf
  have hA : All2 (Cr ⟨G.V, G.g ++ [(.slice none 0 0, 0)]⟩) (cs.set f (.own st.heap.length 0)) vs := by
    refine All2.of_get (by rw [List.length_set]; exact q6.length) fun j c v h1 h2 => ?_
    by_cases hj : f = j
    · subst hj
      rw [List.getElem?_set_self hfl] at h1
      cases h1
      obtain ⟨d, hd, hv⟩ := q6.getR f v h2
      rw [hf] at hd
      cases hd
      have hv : v = .slice none 0 0 := ar_raw (hv : Ar _ (.c (.d (.raw (.slice none 0 0)))) v)
      rw [hv]
      exact ⟨rfl, _, 0, get_last _ _ s.h.len.symm, Nat.le_refl _, fun _ => rfl⟩
    · rw [List.getElem?_set_ne hj] at h1
      obtain ⟨d, hd, hv⟩ := q6.getR j v h2
      rw [h1] at hd
      cases hd
      exact hv
  have s2 := s'.upd (w' := w) (i := b) (b := blk) (lb := .box t cs) (lb' := .box t (cs.set f (.own st.heap.length 0))) (e := e) hi trivial he (by rw [q2]; rfl) rfl rfl rfl rfl (fun _ _ => rfl) ⟨q1, blk, vs, q2, q3, q4, q5, hA⟩
  have e1 : (st.heap ++ [LB.row te sz [] 0]).set b (.box t (cs.set f (.own st.heap.length 0))) = st.heap.set b (.box t (cs.set f (.own st.heap.length 0))) ++ [.row te sz [] 0] := List.set_append_left _ _ hbl
  rw [e1] at s2
  exact ⟨s2, fun t => (s.env t).grow (gle_push _), s.N, s.defers⟩
theorem LoopV.nilfield {E : List Nat} {c : Code} {Q : Exit → St → Prop} {tk : Tok Q} (b f : Nat) (t te : TypeId) (sz : Nat) {cs : List C} (h : LoopV P pm E c ⟨st.env, st.heap.set b (.box t (cs.set f (.own st.heap.length 0))) ++ [.row te sz [] 0]⟩ Q ⟨⟩) (hb : st.heap[b]? = some (.box t cs) := by rfl) (hf : cs[f]? = some (.d (.raw (.slice none 0 0))) := by rfl) : LoopV P pm E c st Q tk :=
  fun hok cx G a w hp s => h hok cx _ a w hp (s.nilfield b f t te sz hb hf)
end Go.Ax

/- Loops at whose head what a box holds is read as data. No condition. -/
namespace Go.Ax
open Go Go.RowKit
variable {P : Program} {pm : Pm} {E : List Nat}
def frzB4 (j c : Nat) (st : St) (tb : TypeId) (cs : List C) (i ver : Nat) : Option LB → St
  | some (.row _ sz els v') => if ver = v' then ⟨st.env, (st.heap.set i .dead).set j (.box tb (cs.set c (.d (.lst sz els))))⟩ else st
  | _ => st
def frzB3 (j c sz : Nat) (st : St) (tb : TypeId) (cs : List C) : Option C → St
  | some (.own i ver) => frzB4 j c st tb cs i ver st.heap[i]?
  | some (.d (.raw (.slice none 0 0))) => ⟨st.env, st.heap.set j (.box tb (cs.set c (.d (.lst sz []))))⟩
  | _ => st
def frzB2 (j c sz : Nat) (st : St) : Option LB → St
  | some (.box tb cs) => frzB3 j c sz st tb cs cs[c]?
  | _ => st
/-- A row that a box holds (or nil), read as data from here on. -/
def frzB (j c sz : Nat) (st : St) : St := frzB2 j c sz st st.heap[j]?
@[push_cast] theorem frzB_eq (j c sz : Nat) (e : Env) (h : List LB) : frzB j c sz ⟨e, h⟩ = frzB2 j c sz ⟨e, h⟩ h[j]? := (rfl)
@[push_cast] theorem frzB2_b (j c sz : Nat) (st : St) (tb : TypeId) (cs : List C) : frzB2 j c sz st (some (.box tb cs)) = frzB3 j c sz st tb cs cs[c]? := (rfl)
@[push_cast] theorem frzB3_o (j c sz : Nat) (e : Env) (h : List LB) (tb : TypeId) (cs : List C) (i ver : Nat) : frzB3 j c sz ⟨e, h⟩ tb cs (some (.own i ver)) = frzB4 j c ⟨e, h⟩ tb cs i ver h[i]? := (rfl)
@[push_cast] theorem frzB3_n (j c sz : Nat) (e : Env) (h : List LB) (tb : TypeId) (cs : List C) : frzB3 j c sz ⟨e, h⟩ tb cs (some (.d (.raw (.slice none 0 0)))) = ⟨e, h.set j (.box tb (cs.set c (.d (.lst sz []))))⟩ := (rfl)
@[push_cast] theorem frzB3_d (j c sz n : Nat) (st : St) (tb : TypeId) (cs : List C) (els : List (List D)) : frzB3 j c sz st tb cs (some (.d (.lst n els))) = st := (rfl)
@[push_cast] theorem frzB4_r (j c : Nat) (e : Env) (h : List LB) (tb t : TypeId) (cs : List C) (i ver sz : Nat) (els : List (List D)) : frzB4 j c ⟨e, h⟩ tb cs i ver (some (.row t sz els ver)) = ⟨e, (h.set i .dead).set j (.box tb (cs.set c (.d (.lst sz els))))⟩ := (if_pos rfl)
theorem frzB_ok (j c sz : Nat) (st : St) : Fw pm st (frzB j c sz st) := by
  intro cx G a w hp s
  unfold frzB
  cases hj : st.heap[j]? with
  | none => exact ⟨G, s⟩
  | some lb =>
    cases lb with
    | box tb cs =>
      show ∃ G', Sat cx G' (frzB3 j c sz st tb cs cs[c]?) a w
      cases hc : cs[c]? with
      | none => exact ⟨G, s⟩
      | some x =>
        unfold frzB3
        split
        · next i ver hx =>
          cases hx
          unfold frzB4
          split
          · next t sz' els v' hi =>
            split
            · next hv =>
              subst hv
              exact s.freezeBox j c hj hc hi
            · exact ⟨G, s⟩
          · exact ⟨G, s⟩
        · next hx =>
          cases hx
          have s2 := s.h.relabel (lb' := .box tb (cs.set c (C.d (.lst sz [])))) hj id fun e he hL => by
            obtain ⟨h1, b, vs, h2, h3, h4, h5, h6⟩ := hL
            refine ⟨h1, b, vs, h2, h3, h4, h5, ?_⟩
            obtain ⟨v, hvv, hr⟩ := h6.get _ _ hc
            have hn : v = .slice none 0 0 := ar_raw (hr : Ar G (.c (.d (.raw (.slice none 0 0)))) v)
            have hnil : Cr G (C.d (.lst sz [])) v := by
              rw [hn]
              exact Dr.lst _ [] none 0 (fun _ _ => undef) (by simp) (by simp) (by simp) (by simp) (by simp)
            have hs := h6.set (i := c) (a := C.d (.lst sz [])) (b := v) hnil
            rwa [show vs.set c v = vs from by
              have := getElem?_lt hvv
              rw [List.getElem?_eq_getElem this] at hvv
              injection hvv with hvv
              rw [← hvv]; exact List.set_getElem_self this] at hs
          exact ⟨G, s2, fun x => s.env x, s.N, s.defers⟩
        · exact ⟨G, s⟩
    | row t sz els ver => exact ⟨G, s⟩
    | dead => exact ⟨G, s⟩
    | mp _ _ => exact ⟨G, s⟩
    | it _ _ => exact ⟨G, s⟩
    | sit _ _ => exact ⟨G, s⟩
theorem Fw.trans {a b c : St} (h1 : Fw pm a b) (h2 : Fw pm b c) : Fw pm a c := fun cx G x w hp s => by
  obtain ⟨G1, s1⟩ := h1 cx G x w hp s
  exact h2 cx G1 x w hp s1
/-- A loop: at its head, and ahead of its next round, the state is first read through. -/
theorem LoopV.ofF {b : Code} {st : St} {Q : Exit → St → Prop} {S : Type} (hm : P.follows .mixedOrders = true) (fz : St → St) (hfz : ∀ st, Fw pm st (fz st)) (keep : List Nat) (vars : S → List (Nat × AV)) (heap : S → List LB) (I : S → Prop) (μ : S → Nat) (s0 : S) (h0 : I s0) (f0 : fitsV pm (fz st) ⟨frame keep st.env (vars s0), heap s0⟩)
    (round : ∀ s, I s → ap (vc P pm E b ⟨frame keep st.env (vars s), heap s⟩) (EthenT (fun st' => ∃ s', (I s' ∧ μ s' < μ s) ∧ fitsV pm (fz st') ⟨frame keep st.env (vars s'), heap s'⟩) Q ⟨⟩ ⟨⟩) ⟨⟩) : LoopV P pm E b st Q ⟨⟩ :=
  fun hok => AXc.loopW (fun s => ⟨frame keep st.env (vars s), heap s⟩) I μ s0 h0 ((hfz st).trans (fitsV_ok f0)) fun s hs => (vc_ok hm b _ _ hok (round s hs)).mono fun e s hs => by
    cases e with
    | normal => obtain ⟨s', ⟨h1, h2⟩, h3⟩ := hs; exact ⟨s', h1, h2, (hfz _).trans (fitsV_ok h3)⟩
    | _ => exact hs
end Go.Ax

/- A region of which the first operations only read, in whatever order; some of them must come up before all the others, some need not; the others by the sets of those that have come up. No condition. -/
namespace Go.Ax
open Go Go.RowKit
variable {P : Program} {pm : Pm} {st : St} {h : List LB}
/-- What the walk leans on; to be decided of the region's text. -/
def preOkF (l : List Oper) (m : Nat) (A : List Nat) (N : Nat) : Bool :=
  let pre := l.take m
  let cl := clos l []
  decide (m ≤ l.length) && decide (dsts pre).Nodup && (l.all fun o => match o.dst with | some d => decide (d < N) | none => true) && (l.all fun o => (gtmp l o).all fun d => decide (d < N)) &&
  ((List.range l.length).all fun i => match l[i]? with
    | some o => (edges o).all fun e => decide (e < i)
    | none => true) &&
  ((List.range m).all fun i => match l[i]? with
    | some o => (tmpsOf o ++ gtmp l o).all fun t => (List.range m).all fun j => match l[j]? with
      | some oj => if oj.dst = some t then decide (j < i) && (edges o).contains j else true
      | none => true
    | none => true) &&
  ((List.range l.length).all fun i => decide (i < m) || (A.all fun j => (cl.getD i []).contains j)) && (A.all fun i => decide (i < m))

structure PreOkF (l : List Oper) (m : Nat) (A : List Nat) (N : Nat) : Prop where
  le : m ≤ l.length
  nd : (dsts (l.take m)).Nodup
  dN : ∀ (i : Nat) (o : Oper) (d : Nat), l[i]? = some o → o.dst = some d → d < N
  gN : ∀ (i : Nat) (o : Oper) (d : Nat), l[i]? = some o → d ∈ gtmp l o → d < N
  ed : ∀ (i : Nat) (o : Oper) (e : Nat), l[i]? = some o → e ∈ edges o → e < i
  rd : ∀ (i : Nat) (o : Oper) (t j : Nat) (oj : Oper), i < m → l[i]? = some o → t ∈ tmpsOf o ++ gtmp l o → j < m → l[j]? = some oj → oj.dst = some t → j < i ∧ j ∈ edges o
  tl : ∀ (i j : Nat), i < l.length → m ≤ i → j ∈ A → j ∈ (clos l []).getD i []
  Alt : ∀ i ∈ A, i < m
theorem preOkF_spec {l : List Oper} {m : Nat} {A : List Nat} {N : Nat} (hh : preOkF l m A N = true) : PreOkF l m A N := by
  unfold preOkF at hh
  simp only [Bool.and_eq_true, decide_eq_true_eq, List.all_eq_true, List.mem_range, Bool.or_eq_true] at hh
  obtain ⟨⟨⟨⟨⟨⟨⟨h1, h2⟩, h3⟩, h4⟩, h5⟩, h6⟩, h7⟩, h8⟩ := hh
  refine ⟨h1, h2, fun i o d hi hd => ?_, fun i o d hi hd => ?_, fun i o e hi he => ?_, fun i o t j oj hi ho ht hj hoj hd => ?_, fun i j hi hm hj => ?_, h8⟩
  · have := h3 o (List.mem_of_getElem? hi)
    rw [hd] at this
    exact of_decide_eq_true this
  · exact h4 o (List.mem_of_getElem? hi) d hd
  · have := h5 i (getElem?_lt hi)
    rw [hi] at this
    simp only [List.all_eq_true, decide_eq_true_eq] at this
    exact this e he
  · have := h6 i hi
    rw [ho] at this
    simp only [List.all_eq_true, List.mem_range] at this
    have := this t ht j hj
    rw [hoj] at this
    simp only [hd, if_true, Bool.and_eq_true, decide_eq_true_eq, List.contains_eq_mem] at this
    exact this
  · have := h7 i hi
    rcases this with h | h
    · omega
    · have := h j hj
      simpa using this

section
variable {l : List Oper} {m : Nat} {A : List Nat} {Q : Exit → Act → World → Prop}
theorem pre_anyF (c : PreOkF l m A pm.N) {cx : Cx} (hp : cx.pm = pm) {ρ ρ' : Env} (hrun : Run P pm h l.toArray (l.take m) ρ ρ') (htail : ∀ (fuel : Nat) (listed : Array Bool) (a : Act) (w : World), ((List.range l.length).countP fun j => !listed.getD j false) = fuel → Pre cx h l m ρ ρ' listed a w → (∀ i ∈ A, listed.getD i false = true) → wpAny P .any l.toArray Q fuel listed a w) :
    ∀ (fuel : Nat) (listed : Array Bool) (a : Act) (w : World), ((List.range l.length).countP fun j => !listed.getD j false) = fuel → Pre cx h l m ρ ρ' listed a w → wpAny P .any l.toArray Q fuel listed a w := by
  intro fuel
  induction fuel with
  | zero =>
    intro listed a w hc hpre
    have hall := unl_pos (Nat.le_refl _) hc
    exact htail 0 listed a w hc hpre fun i hi => hall i (Nat.lt_of_lt_of_le (c.Alt i hi) c.le)
  | succ fuel ih =>
    intro listed a w hc hpre
    have hgd : ∀ j, j < l.length → ∀ d, listed.getD j d = listed.getD j false := fun j hj d => by simp [Array.getD, hpre.size, hj]
    by_cases hall : ∀ i ∈ A, listed.getD i false = true
    · exact htail _ listed a w hc hpre hall
    · refine ⟨fun hempty => ?_, fun i hi => ?_⟩
      · -- the first that has not come up may come up
        exfalso
        have hex : ∃ i, i < m ∧ listed.getD i false = false := by
          false_or_by_contra
          rename_i hno
          refine hall fun i hi => ?_
          cases e : listed.getD i false with
          | true => rfl
          | false => exact absurd ⟨i, c.Alt i hi, e⟩ hno
        have hmin : ∃ i, (i < m ∧ listed.getD i false = false) ∧ ∀ j, j < i → listed.getD j false = true := by
          obtain ⟨i, hi⟩ := hex
          induction i using Nat.strongRecOn with
          | _ i ih =>
            by_cases hj : ∃ j, j < i ∧ listed.getD j false = false
            · obtain ⟨j, h1, h2⟩ := hj
              exact ih j h1 ⟨by omega, h2⟩
            · refine ⟨i, hi, fun j hji => ?_⟩
              cases e : listed.getD j false with
              | true => rfl
              | false => exact absurd ⟨j, hji, e⟩ hj
        obtain ⟨i, ⟨him, hun⟩, hbefore⟩ := hmin
        have hml := c.le
        have hil : i < l.length := by omega
        have : i ∈ Region.ready .any l.toArray listed := by
          refine mem_ready.2 ⟨by rw [hgd i hil]; exact hun, l[i], by simp [hil], fun e he hb => hbefore _ (c.ed i _ _ (List.getElem?_eq_getElem hil) (edges_after he hb))⟩
        rw [hempty] at this
        cases this
      · obtain ⟨q1, o, q2, q3⟩ := mem_ready.1 hi
        have hoi : l[i]? = some o := by simpa using q2
        have hil := getElem?_lt hoi
        rw [hgd i hil] at q1
        have hed : ∀ e ∈ edges o, listed.getD e false = true := fun e he => by
          obtain ⟨ee, r1, r2, r3⟩ := edges_mem he
          rw [← r3]; exact q3 ee r1 r2
        have him : i < m := by
          rcases Nat.lt_or_ge i m with h1 | h1
          · exact h1
          · exfalso
            refine hall fun j hj => ?_
            have hcl := c.tl i j hil h1 hj
            cases e : (clos l [])[i]? with
            | none => simp [List.getD, e] at hcl
            | some cc =>
              simp [List.getD, e] at hcl
              exact clos_ok l _ hpre.down l [] 0 rfl rfl (by simp) i o cc hoi e hed j hcl
        obtain ⟨G, s, h1, h2⟩ := hpre.sat
        have hot : (l.take m)[i]? = some o := by rw [List.getElem?_take, if_pos him]; exact hoi
        obtain ⟨ρi, u1, u2, u3⟩ := hrun.at c.nd i o hot
        have hdd : ∀ t, t ∈ tmpsOf o ++ gtmp l o → Ar G (lk t ρi) (a.tmps.getD t undef) := by
          intro t ht
          by_cases hw : ∃ (j : Nat) (oj : Oper), j < m ∧ l[j]? = some oj ∧ oj.dst = some t
          · obtain ⟨j, oj, hj, hoj, hdj⟩ := hw
            obtain ⟨hji, hje⟩ := c.rd i o t j oj him hoi ht hj hoj hdj
            have hdone : Done l m listed t := ⟨j, oj, hj, hoj, hdj, hed j hje⟩
            have : lk t ρ' = lk t ρi := u2 t fun hmem => dsts_split c.nd (i := i) (t := t) (mem_dsts.2 ⟨j, oj, by rw [List.getElem?_take, if_pos hji, List.getElem?_take, if_pos hj]; exact hoj, hdj⟩) hmem
            rw [← this]
            exact h1 t hdone
          · have hnd : ¬ Done l m listed t := fun ⟨j, oj, a1, a2, a3, _⟩ => hw ⟨j, oj, a1, a2, a3⟩
            have : lk t ρi = lk t ρ := u1 t fun hmem => by
              obtain ⟨j, oj, b1, b2⟩ := mem_dsts.1 hmem
              have hj := getElem?_lt b1
              rw [List.getElem?_take] at b1
              split at b1
              · rw [List.getElem?_take] at b1
                split at b1
                · exact hw ⟨j, oj, by omega, b1, b2⟩
                · cases b1
              · cases b1
            rw [this]
            exact h2 t hnd
        have hops : ∀ x ∈ o.op.operands.toList, Ar G (ev pm.Γ ρi x) (a.eval x) := by
          intro x hx
          cases x with
          | tmp t => exact hdd t (List.mem_append.2 (.inl (tmp_mem hx)))
          | const v => exact cAV_ok G v
          | global g => exact lkG_ok (cx := cx) _ (by rw [← hp]; exact s.glob)
          | func f => exact ⟨[], rfl, .nil⟩
        have hwant : ∀ b, wantedA l.toArray o ρi = some b → Region.wanted o (yielded l.toArray a.tmps) = b := fun b hb =>
          wanted_of hb fun j want d e1 e2 => by
            have hg : d ∈ gtmp l o := by
              unfold gtmp
              rw [e1]
              have : (l[j]?).bind (·.dst) = some d := by simpa using e2
              simp [this]
            exact ⟨by rw [hpre.N, hp]; exact c.gN i o d hoi hg, hdd d (List.mem_append.2 (.inr hg))⟩
        -- what holds behind it
        have hstep : ∀ (v : Value) (w' : World) (G' : Gh) (r : AV), GLe G.g.length G G' → SatH cx G' h w' → Ar G' r v → (∀ d, o.dst = some d → lk d ρ' = r) →
            wpAny P .any l.toArray Q fuel (listed.setIfInBounds i true) (a.put o.dst v) w' := by
          intro v w' G' r hG s' hr hlk
          refine ih _ _ _ (by have := count_set hpre.size hil q1; omega) ⟨⟨G', s', fun t ht => ?_, fun t ht => ?_⟩, ?_, ?_, by simpa using hpre.size, fun k hk hkl => ?_, fun k ok hk hD e he => ?_⟩
          · by_cases hdt : o.dst = some t
            · rw [hlk t hdt, hdt]
              have hlt : t < a.tmps.size := by rw [hpre.N, hp]; exact c.dN i o t hoi hdt
              have : ((a.put (some t) v).tmps).getD t undef = v := by simp [Act.put, Array.getD, hlt]
              rw [this]; exact hr
            · have hd' : Done l m listed t := by
                obtain ⟨j, oj, b1, b2, b3, b4⟩ := ht
                have hji : i ≠ j := fun e => by
                  subst e
                  rw [hoi] at b2
                  cases b2
                  exact hdt b3
                exact ⟨j, oj, b1, b2, b3, by rwa [getD_set_ne false hji] at b4⟩
              rw [put_other hdt]
              exact (h1 t hd').grow hG
          · have hdt : o.dst ≠ some t := fun e => ht ⟨i, o, him, hoi, e, by simp [Array.getD, hpre.size, hil]⟩
            have hd' : ¬ Done l m listed t := fun ⟨j, oj, b1, b2, b3, b4⟩ => ht ⟨j, oj, b1, b2, b3, getD_set_true b4⟩
            rw [put_other hdt]
            exact (h2 t hd').grow hG
          · cases o.dst <;> simp [Act.put, hpre.N]
          · cases o.dst <;> simp [Act.put, hpre.defers]
          · rw [getD_set_ne false (by omega)]
            exact hpre.none k hk hkl
          · by_cases hki : i = k
            · subst hki
              rw [hoi] at hk
              cases hk
              exact getD_set_true (hed e he)
            · have hD' : (listed.setIfInBounds i true).getD k false = true := hD
              rw [getD_set_ne false hki] at hD'
              exact getD_set_true (hpre.down k ok hk hD' e he)
        unfold wpOp
        simp only [q2]
        rcases u3 with ⟨hw, r, hq, hlk⟩ | ⟨hw, hlk⟩
        · rw [if_pos (hwant true hw)]
          exact .inl (hq cx G w a hp s hops _ _ fun v w' G' hG s' hr => hstep v w' G' r hG s' hr hlk)
        · rw [if_neg (by rw [hwant false hw]; simp)]
          exact hstep undef w G U (.refl _ _) s U_ok hlk


end

end Go.Ax

/- A region of which the first operations only read (AxVx), the rest by a table. No condition. -/
namespace Go.Ax
open Go Go.RowKit
variable {P : Program} {pm : Pm}
/-- The rest of a region, of whose first operations some may be still to come. -/
def RegF (P : Program) (pm : Pm) (l : List Oper) (m : Nat) (A : List Nat) (ρ : Env) (st : St) (Q : Exit → St → Prop) (_ : Tok Q) : Prop :=
  opsOk l pm.N = true → ∀ cx (fuel : Nat) (listed : Array Bool) (a : Act) (w : World), cx.pm = pm → ((List.range l.length).countP fun j => !listed.getD j false) = fuel → Pre cx st.heap l m ρ st.env listed a w → (∀ i ∈ A, listed.getD i false = true) → wpAny P .any l.toArray (Post cx Q) fuel listed a w
theorem RegV.preF {E : List Nat} {id : Nat} {l : List Oper} {ρ : Env} {h : List LB} {Q : Exit → St → Prop} {tk : Tok Q} (hm : P.follows .mixedOrders = true) (m : Nat) (A : List Nat) (hc : preOkF l m A pm.N = true) (hpu : (l.take m).all (pureO E) = true)
    (hh : ap (vcd P pm E l h (l.take m) ρ) (fun st' => RegF P pm l m A ρ st' Q tk) ⟨⟩) : RegV P pm id l ⟨ρ, h⟩ Q tk := by
  intro hok cx G a w hp s
  have c := preOkF_spec hc
  obtain ⟨ρ', hrun, htail⟩ := vcd_okp (P := P) (pm := pm) (E := E) (l := l) (h := h) hok (l.take m) (fun o ho => List.mem_of_mem_take ho) hpu ρ _ hh
  refine wp2_region_any hm ?_
  have s' : SatH cx G h { w with drawn := w.drawn + 1 } := s.h.later ((Below.refl _ w).drew)
  refine pre_anyF (Q := Post cx Q) c hp hrun (fun fuel listed a w hf hpre hA => htail hok cx fuel listed a w hp hf hpre hA) _ _ a _ ?_ ⟨⟨G, s', fun t ht => ?_, fun t _ => s.ev (.tmp t)⟩, s.N, s.defers, by simp, fun i _ hil => by simp [Array.getD, hil], fun i o hi hD => ?_⟩
  · have : ∀ n k, n ≤ k → ((List.range n).countP fun j => !(Array.replicate k false).getD j false) = n := by
      intro n k hnk
      have : ((List.range n).countP fun j => !(Array.replicate k false).getD j false) = (List.range n).countP fun _ => true := by
        apply List.countP_congr
        intro j hj
        rw [List.mem_range] at hj
        simp [Array.getD, show j < k by omega]
      rw [this]; simp
    simpa using this l.length l.length (Nat.le_refl _)
  · obtain ⟨j, oj, b1, b2, b3, b4⟩ := ht
    exfalso
    have hj := getElem?_lt b2
    simp [Array.getD, hj] at b4
  · exfalso
    have hj := getElem?_lt hi
    simp [Array.getD, hj] at hD
section
theorem lk_fenv_none {t : Nat} : ∀ (vals : List (Option (Nat × AV))) (L : List Bool) (ρ : Env), (∀ (j : Nat) d v, vals[j]? = some (some (d, v)) → L[j]? = some true → d ≠ t) → lk t (fenv ρ vals L) = lk t ρ
  | [], L, ρ, _ => by cases L <;> rfl
  | none :: r, [], ρ, _ => rfl
  | some (d, v) :: r, [], ρ, _ => rfl
  | none :: r, b :: L, ρ, h => by
    show lk t (fenv ρ r L) = _
    exact lk_fenv_none r L ρ fun j d v h1 h2 => h (j + 1) d v (by simpa using h1) (by simpa using h2)
  | some (d, v) :: r, false :: L, ρ, h => by
    show lk t (fenv ρ r L) = _
    exact lk_fenv_none r L ρ fun j d v h1 h2 => h (j + 1) d v (by simpa using h1) (by simpa using h2)
  | some (d, v) :: r, true :: L, ρ, h => by
    show lk t (fenv (pute d v ρ) r L) = _
    rw [lk_fenv_none r L _ fun j d v h1 h2 => h (j + 1) d v (by simpa using h1) (by simpa using h2), lk_put, if_neg (h 0 d v rfl rfl)]
theorem lk_fenv_some {t : Nat} {X : AV} : ∀ (vals : List (Option (Nat × AV))) (L : List Bool) (ρ : Env), (∀ (j : Nat) v, vals[j]? = some (some (t, v)) → L[j]? = some true → v = X) → (lk t ρ = X ∨ ∃ (j : Nat) (v : AV), vals[j]? = some (some (t, v)) ∧ L[j]? = some true) → lk t (fenv ρ vals L) = X
  | [], L, ρ, _, h2 => by
    rcases h2 with h2 | ⟨j, v, h2, _⟩
    · cases L <;> exact h2
    · simp at h2
  | x :: r, [], ρ, _, h2 => by
    rcases h2 with h2 | ⟨j, v, _, h2⟩
    · cases x <;> exact h2
    · simp at h2
  | none :: r, b :: L, ρ, h1, h2 => by
    show lk t (fenv ρ r L) = _
    refine lk_fenv_some r L ρ (fun j v a1 a2 => h1 (j + 1) v (by simpa using a1) (by simpa using a2)) ?_
    rcases h2 with h2 | ⟨j, v, a1, a2⟩
    · exact .inl h2
    · cases j with
      | zero => simp at a1
      | succ j => exact .inr ⟨j, v, by simpa using a1, by simpa using a2⟩
  | some (d, v) :: r, false :: L, ρ, h1, h2 => by
    show lk t (fenv ρ r L) = _
    refine lk_fenv_some r L ρ (fun j v a1 a2 => h1 (j + 1) v (by simpa using a1) (by simpa using a2)) ?_
    rcases h2 with h2 | ⟨j, v, a1, a2⟩
    · exact .inl h2
    · cases j with
      | zero => simp at a2
      | succ j => exact .inr ⟨j, v, by simpa using a1, by simpa using a2⟩
  | some (d, v) :: r, true :: L, ρ, h1, h2 => by
    show lk t (fenv (pute d v ρ) r L) = _
    refine lk_fenv_some r L _ (fun j v a1 a2 => h1 (j + 1) v (by simpa using a1) (by simpa using a2)) ?_
    by_cases hd : d = t
    · subst hd
      exact .inl (by rw [lk_put, if_pos rfl]; exact h1 0 v rfl rfl)
    · rcases h2 with h2 | ⟨j, v', a1, a2⟩
      · exact .inl (by rw [lk_put, if_neg hd]; exact h2)
      · cases j with
        | zero => simp at a1; exact absurd a1.1 hd
        | succ j => exact .inr ⟨j, v', by simpa using a1, by simpa using a2⟩
theorem hfold_false : ∀ (h : List LB) (hs : List (Option (List LB))) (L : List Bool), (∀ (j : Nat) x, hs[j]? = some (some x) → L[j]? ≠ some true) → hfold h hs L = h
  | h, [], L, _ => by cases L <;> rfl
  | h, x :: r, [], _ => by cases x <;> rfl
  | h, none :: r, b :: L, hn => by
    show hfold h r L = h
    exact hfold_false h r L fun j x a => hn (j + 1) x (by simpa using a)
  | h, some x :: r, false :: L, hn => by
    show hfold h r L = h
    exact hfold_false h r L fun j x a => hn (j + 1) x (by simpa using a)
  | h, some x :: r, true :: L, hn => absurd rfl (hn 0 x rfl)
def pv : List Oper → Env → List (Option (Nat × AV))
  | [], _ => []
  | o :: r, ρ => (match o.dst with | some d => some (d, lk d ρ) | none => none) :: pv r ρ
theorem pv_at : ∀ (l : List Oper) (ρ : Env) (j : Nat), (pv l ρ)[j]? = (l[j]?).map fun o => match o.dst with | some d => some (d, lk d ρ) | none => none
  | [], ρ, j => by simp [pv]
  | o :: r, ρ, 0 => by simp [pv]
  | o :: r, ρ, j + 1 => by
    have := pv_at r ρ j
    simpa [pv] using this
theorem pv_len : ∀ (l : List Oper) (ρ : Env), (pv l ρ).length = l.length
  | [], _ => rfl
  | o :: r, ρ => by simp [pv, pv_len r ρ]
def subs : List Nat → List (List Nat)
  | [] => [[]]
  | x :: r => subs r ++ (subs r).map (x :: ·)
theorem filter_subs (p : Nat → Bool) : ∀ l : List Nat, l.filter p ∈ subs l
  | [] => by simp [subs]
  | x :: r => by
    have := filter_subs p r
    unfold subs
    rw [List.mem_append]
    by_cases h : p x = true
    · rw [List.filter_cons_of_pos h]; exact .inr (List.mem_map.2 ⟨_, this, rfl⟩)
    · rw [List.filter_cons_of_neg (by simpa using h)]; exact .inl this
def maskL (n m : Nat) (F S : List Nat) : List Bool := (List.range n).map fun i => decide (i < m) && (!F.contains i || S.contains i)
def closL (l : List Oper) (L : List Bool) : Bool := (List.range l.length).all fun i => match l[i]? with | some o => !(L.getD i false) || (edges o).all fun e => L.getD e false | none => true
def startsOk (l : List Oper) (m : Nat) (A : List Nat) (tab : List (List Bool × List Nat)) : Bool :=
  let F := (List.range m).filter fun i => !A.contains i
  (subs F).all fun S => !closL l (maskL l.length m F S) || tab.any fun y => y.1 == maskL l.length m F S
/-- The rest of a region by a table: the sets of operations that have come up, with those that may come up next. -/
theorem RegF.tab {E : List Nat} {l : List Oper} {ρ ρ' : Env} {h : List LB} {m : Nat} {A : List Nat} {Q : Exit → St → Prop} {tk : Tok Q} (tab : List (List Bool × List Nat)) (vr : List (Option (Nat × AV))) (hr : List (Option (List LB))) (hk : preOkF l m A pm.N = true) (hc : tabOk l tab = true) (hz : startsOk l m A tab = true)
    (ho : oblT P pm E l ρ h (pv (l.take m) ρ' ++ vr) (List.replicate m none ++ hr) tab) (hK : Q .normal (tst ρ h (pv (l.take m) ρ' ++ vr) (List.replicate m none ++ hr) (List.replicate l.length true))) : RegF P pm l m A ρ ⟨ρ', h⟩ Q tk := by
  intro hok cx fuel listed a w hp hf hpre hA
  have c := preOkF_spec hk
  have hc' := List.all_eq_true.1 hc
  have hml := c.le
  have hgd : ∀ j, listed.toList.getD j false = listed.getD j false := fun j => by
    by_cases hj : j < listed.size
    · simp [Array.getD, hj]
    · simp [Array.getD, hj]
  -- the set is one of the table's
  have hmask : listed.toList = maskL l.length m ((List.range m).filter fun i => !A.contains i) (((List.range m).filter fun i => !A.contains i).filter fun i => listed.getD i false) := by
    refine List.ext_getElem (by simp [maskL, hpre.size]) fun i h1 h2 => ?_
    have hi : i < l.length := by simpa [hpre.size] using h1
    have e1 : listed.toList[i] = listed.getD i false := by simp [Array.getD, show i < listed.size by rw [hpre.size]; exact hi]
    rw [e1]
    simp only [maskL, List.getElem_map, List.getElem_range]
    by_cases him : i < m
    · by_cases hiA : i ∈ A
      · rw [hA i hiA]
        simp [him, hiA]
      · have : listed.getD i false = decide (listed.getD i false = true) := by cases listed.getD i false <;> rfl
        rw [this]
        simp [him, hiA]
    · rw [hpre.none i (by omega) hi]
      simp [him]
  have hin : ∃ is, (listed.toList, is) ∈ tab := by
    have h1 := List.all_eq_true.1 hz _ (filter_subs (fun i => listed.getD i false) ((List.range m).filter fun i => !A.contains i))
    rw [← hmask] at h1
    have h2 : closL l listed.toList = true := by
      unfold closL
      rw [List.all_eq_true]
      intro i hi
      have hi' : i < l.length := List.mem_range.1 hi
      rw [List.getElem?_eq_getElem hi']
      simp only [Bool.or_eq_true, Bool.not_eq_true']
      cases hD : listed.getD i false with
      | false => left; rw [hgd, hD]
      | true =>
        right
        rw [List.all_eq_true]
        intro e he
        rw [hgd]
        exact hpre.down i _ (List.getElem?_eq_getElem hi') hD e he
    rw [h2] at h1
    simp only [Bool.not_true, Bool.false_or] at h1
    obtain ⟨x, hx, he⟩ := List.any_eq_true.1 h1
    have : x.1 = listed.toList := by simpa using he
    exact ⟨x.2, by rw [← this]; exact hx⟩
  obtain ⟨G, s, q1, q2⟩ := hpre.sat
  have hLlen : ∀ j, m ≤ j → listed.toList[j]? ≠ some true := fun j hj e => by
    have hjl := getElem?_lt e
    have hjl : j < l.length := by simpa [hpre.size] using hjl
    have := hpre.none j hj hjl
    rw [← hgd, List.getD_eq_getElem?_getD, e] at this
    cases this
  have hpvl : (pv (l.take m) ρ').length = m := by rw [pv_len, List.length_take]; omega
  have sat : Sat cx G (tst ρ h (pv (l.take m) ρ' ++ vr) (List.replicate m none ++ hr) listed.toList) a w := by
    have eh : hfold h (List.replicate m none ++ hr) listed.toList = h := hfold_false _ _ _ fun j x hx hj => by
      by_cases hjm : j < m
      · rw [List.getElem?_append_left (by simpa using hjm)] at hx
        simp [hjm] at hx
      · exact hLlen j (by omega) hj
    refine ⟨?_, fun t => ?_, hpre.N, hpre.defers⟩
    · show SatH cx G (hfold _ _ _) w
      rw [eh]; exact s
    · show Ar G (lk t (fenv ρ (pv (l.take m) ρ' ++ vr) listed.toList)) _
      have hval : ∀ (j : Nat) d v, (pv (l.take m) ρ' ++ vr)[j]? = some (some (d, v)) → listed.toList[j]? = some true → ∃ o, l[j]? = some o ∧ o.dst = some d ∧ v = lk d ρ' ∧ j < m ∧ listed.getD j false = true := fun j d v hx hj => by
        by_cases hjm : j < m
        · rw [List.getElem?_append_left (by rw [hpvl]; exact hjm), pv_at, List.getElem?_take, if_pos hjm] at hx
          cases ho : l[j]? with
          | none => rw [ho] at hx; cases hx
          | some o =>
            rw [ho] at hx
            simp only [Option.map_some, Option.some.injEq] at hx
            cases hd : o.dst with
            | none => rw [hd] at hx; cases hx
            | some d' =>
              rw [hd] at hx
              simp only [Option.some.injEq, Prod.mk.injEq] at hx
              obtain ⟨rfl, rfl⟩ := hx
              refine ⟨o, rfl, hd, rfl, hjm, ?_⟩
              rw [← hgd, List.getD_eq_getElem?_getD, hj]; rfl
        · exact absurd hj (hLlen j (by omega))
      by_cases hD : Done l m listed t
      · have : lk t (fenv ρ (pv (l.take m) ρ' ++ vr) listed.toList) = lk t ρ' := by
          refine lk_fenv_some _ _ _ (fun j v hx hj => ?_) (.inr ?_)
          · obtain ⟨o, _, _, hv, _⟩ := hval j t v hx hj
            exact hv
          · obtain ⟨j, o, b1, b2, b3, b4⟩ := hD
            refine ⟨j, lk t ρ', ?_, ?_⟩
            · rw [List.getElem?_append_left (by rw [hpvl]; exact b1), pv_at, List.getElem?_take, if_pos b1, b2]
              simp [b3]
            · have hjl : j < listed.toList.length := by have := getElem?_lt b2; simpa [hpre.size] using this
              rw [← hgd, List.getD_eq_getElem?_getD, List.getElem?_eq_getElem hjl] at b4
              rw [List.getElem?_eq_getElem hjl]
              simpa using b4
        rw [this]
        exact q1 t hD
      · have : lk t (fenv ρ (pv (l.take m) ρ' ++ vr) listed.toList) = lk t ρ := by
          refine lk_fenv_none _ _ _ fun j d v hx hj e => ?_
          subst e
          obtain ⟨o, b1, b2, _, b3, b4⟩ := hval j d v hx hj
          exact hD ⟨j, o, b3, b1, b2, b4⟩
        rw [this]
        exact q2 t hD
  have hcount : listed.toList.count false = fuel := by
    rw [← hf, ← count_getD, Array.length_toList, hpre.size]
  have := set_ok (P := P) (E := E) (Q := Post cx Q) (J := fun L st => (∃ is, (L, is) ∈ tab) ∧ st = tst ρ h (pv (l.take m) ρ' ++ vr) (List.replicate m none ++ hr) L) hok hp (fun L st hj => by
    obtain ⟨⟨is, hx⟩, _⟩ := hj
    have := hc' _ hx
    simp only [Bool.and_eq_true, decide_eq_true_eq] at this
    exact this.1.1.1) (fun L st hj i hi => ?_) (fun L st hj hrd G a w s => ⟨G, st, s, ?_⟩) fuel listed.toList _ ⟨hin, rfl⟩ hcount G a w sat
  · simpa using this
  · obtain ⟨⟨is, hx⟩, rfl⟩ := hj
    have := hc' _ hx
    simp only [Bool.and_eq_true, decide_eq_true_eq, beq_iff_eq] at this
    obtain ⟨⟨⟨q1, q2⟩, q3⟩, _⟩ := this
    rw [q2] at hi
    have hob := oblL_at L is (oblT_at tab ho _ hx) i hi
    obtain ⟨y, hy, he⟩ := List.any_eq_true.1 (List.all_eq_true.1 q3 i hi)
    have hy2 : y.1 = L.set i true := by simpa using he
    have hmem : ∃ is', (L.set i true, is') ∈ tab := ⟨y.2, by rw [← hy2]; exact hy⟩
    generalize pv (l.take m) ρ' ++ vr = vals at *
    generalize List.replicate m none ++ hr = heaps at *
    cases hl : l[i]? with
    | none => rw [hl] at hob; exact hob.elim
    | some o =>
      rw [hl] at hob
      refine ⟨o, rfl, ?_⟩
      have e1 : (fun st' : St => (∃ is', (L.set i true, is') ∈ tab) ∧ st' = tst ρ h vals heaps (L.set i true)) = fun st' => EqSt st' (tst ρ h vals heaps (L.set i true)) := by
        funext st'
        exact propext ⟨fun h => h.2, fun h => ⟨hmem, h⟩⟩
      show ap2 (vgd l o.guard (tst ρ h vals heaps L)) (fun st => vrun P pm E o st fun st' => (∃ is', (L.set i true, is') ∈ tab) ∧ st' = tst ρ h vals heaps (L.set i true)) (fun st => (∃ is', (L.set i true, is') ∈ tab) ∧ st.put o.dst U = tst ρ h vals heaps (L.set i true)) ⟨⟩ ⟨⟩
      have e2 : (fun st : St => (∃ is', (L.set i true, is') ∈ tab) ∧ st.put o.dst U = tst ρ h vals heaps (L.set i true)) = fun st => EqSt (st.put o.dst U) (tst ρ h vals heaps (L.set i true)) := by
        funext st
        exact propext ⟨fun h => h.2, fun h => ⟨hmem, h⟩⟩
      rw [e1, e2]
      exact hob
  · obtain ⟨⟨is, hx⟩, rfl⟩ := hj
    have := hc' _ hx
    simp only [Bool.and_eq_true, decide_eq_true_eq, beq_iff_eq, Bool.or_eq_true, bne_iff_ne] at this
    obtain ⟨⟨⟨q1, q2⟩, _⟩, q4⟩ := this
    have hall : L = List.replicate l.length true := by
      rcases q4 with q4 | q4
      · exact absurd (q2.symm.trans hrd) q4
      · rw [← q1]
        refine List.eq_replicate_iff.2 ⟨rfl, fun b hb => ?_⟩
        exact (List.all_eq_true.1 q4 b hb)
    rw [← hall] at hK
    exact hK
@[push_cast] theorem pv_nil (ρ : Env) : pv [] ρ = [] := (rfl)
@[push_cast] theorem pv_some (d : Nat) (op : Op) (t : TypeId) (p : String) (af : Array Edge) (g : Option (Nat × Bool)) (r : List Oper) (ρ : Env) : pv (⟨some d, op, t, p, af, g⟩ :: r) ρ = some (d, lk d ρ) :: pv r ρ := (rfl)
@[push_cast] theorem pv_none (op : Op) (t : TypeId) (p : String) (af : Array Edge) (g : Option (Nat × Bool)) (r : List Oper) (ρ : Env) : pv (⟨none, op, t, p, af, g⟩ :: r) ρ = none :: pv r ρ := (rfl)
end
end Go.Ax
