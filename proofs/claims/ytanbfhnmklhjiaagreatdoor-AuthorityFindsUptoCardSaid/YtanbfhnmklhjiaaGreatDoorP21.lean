/- Part of a proof about this program; no condition of its own. -/
import Derived.Test.YtanbfhnmklhjiaaGreatDoorP20
set_option linter.all false
/- A region of which the first operations only read, in whatever order, while some others make boxes, at any time; the rest comes behind all that read. No condition. -/
namespace Go.Ax
open Go Go.RowKit
variable {P : Program} {pm : Pm} {st : St} {h : List LB}
structure AlO where
  i : Nat
  d : Nat
  t : TypeId
  zc : List C
def AlO.lb (x : AlO) : LB := .box x.t x.zc
def isAl (o : Oper) (d : Nat) (t : TypeId) : Bool := match o with
  | ⟨some d', .alloc t', _, _, _, none⟩ => decide (d' = d) && decide (t' = t)
  | _ => false
theorem isAl_spec {o : Oper} {d : Nat} {t : TypeId} (h : isAl o d t = true) : ∃ ty p af, o = ⟨some d, .alloc t, ty, p, af, none⟩ := by
  unfold isAl at h
  split at h
  · rw [Bool.and_eq_true, decide_eq_true_eq, decide_eq_true_eq] at h
    obtain ⟨rfl, rfl⟩ := h
    exact ⟨_, _, _, rfl⟩
  · cases h
def alOkB (l : List Oper) (m N : Nat) (x : Nat × Nat × TypeId) : Bool :=
  decide (m ≤ x.1) && decide (x.2.1 < N) && (match l[x.1]? with | some o => isAl o x.2.1 x.2.2 | none => false) && !(dsts (l.take m)).contains x.2.1 && (l.take m).all fun o => !(tmpsOf o ++ gtmp l o).contains x.2.1
def preOkA (l : List Oper) (m N : Nat) (As : List (Nat × Nat × TypeId)) : Bool :=
  let pre := l.take m
  let cl := clos l []
  decide (m ≤ l.length) && decide (dsts pre).Nodup && (l.all fun o => match o.dst with | some d => decide (d < N) | none => true) && (l.all fun o => (gtmp l o).all fun d => decide (d < N)) &&
  ((List.range l.length).all fun i => match l[i]? with
    | some o => (edges o).all fun e => decide (e < i)
    | none => true) &&
  ((List.range m).all fun i => match l[i]? with
    | some o => (tmpsOf o ++ gtmp l o).all fun t => (List.range m).all fun j => match l[j]? with
      | some oj => if oj.dst = some t then decide (j < i) && (edges o).contains j else true
      | none => true
    | none => true) &&
  ((List.range l.length).all fun i => decide (i < m) || (As.any fun x => x.1 == i) || ((List.range m).all fun j => (cl.getD i []).contains j)) &&
  (As.all (alOkB l m N)) && decide (As.map (·.2.1)).Nodup && decide (As.map (·.1)).Nodup
structure PreOkA (l : List Oper) (m N : Nat) (As : List AlO) : Prop where
  le : m ≤ l.length
  nd : (dsts (l.take m)).Nodup
  dN : ∀ (i : Nat) (o : Oper) (d : Nat), l[i]? = some o → o.dst = some d → d < N
  gN : ∀ (i : Nat) (o : Oper) (d : Nat), l[i]? = some o → d ∈ gtmp l o → d < N
  ed : ∀ (i : Nat) (o : Oper) (e : Nat), l[i]? = some o → e ∈ edges o → e < i
  rd : ∀ (i : Nat) (o : Oper) (t j : Nat) (oj : Oper), i < m → l[i]? = some o → t ∈ tmpsOf o ++ gtmp l o → j < m → l[j]? = some oj → oj.dst = some t → j < i ∧ j ∈ edges o
  tl : ∀ (i j : Nat), i < l.length → m ≤ i → j < m → (∃ x ∈ As, x.i = i) ∨ j ∈ (clos l []).getD i []
  am : ∀ x ∈ As, m ≤ x.i ∧ x.d < N ∧ (∃ ty p af, l[x.i]? = some ⟨some x.d, .alloc x.t, ty, p, af, none⟩) ∧ x.d ∉ dsts (l.take m) ∧ ∀ o ∈ l.take m, x.d ∉ tmpsOf o ++ gtmp l o
  ad : ∀ x ∈ As, ∀ y ∈ As, x.d = y.d → x = y
  ai : ∀ x ∈ As, ∀ y ∈ As, x.i = y.i → x = y
theorem nodup_map_inj {α β : Type} {f : α → β} : ∀ {l : List α}, (l.map f).Nodup → ∀ x ∈ l, ∀ y ∈ l, f x = f y → x = y
  | [], _, x, hx, _, _, _ => (List.not_mem_nil hx).elim
  | a :: l, h, x, hx, y, hy, e => by
    rw [List.map_cons, List.nodup_cons] at h
    rcases List.mem_cons.1 hx with h1 | h1 <;> rcases List.mem_cons.1 hy with h2 | h2
    · rw [h1, h2]
    · rw [h1] at e; exact absurd (List.mem_map.2 ⟨y, h2, e.symm⟩) h.1
    · rw [h2] at e; exact absurd (List.mem_map.2 ⟨x, h1, e⟩) h.1
    · exact nodup_map_inj h.2 x h1 y h2 e
theorem preOkA_spec {l : List Oper} {m N : Nat} {As : List AlO} (hh : preOkA l m N (As.map fun x => (x.i, x.d, x.t)) = true) : PreOkA l m N As := by
  unfold preOkA at hh
  simp only [Bool.and_eq_true, decide_eq_true_eq, List.all_eq_true, List.mem_range, Bool.or_eq_true] at hh
  obtain ⟨⟨⟨⟨⟨⟨⟨⟨⟨h1, h2⟩, h3⟩, h4⟩, h5⟩, h6⟩, h7⟩, h8⟩, h9⟩, h10⟩ := hh
  rw [List.map_map] at h9 h10
  refine ⟨h1, h2, fun i o d hi hd => ?_, fun i o d hi hd => ?_, fun i o e hi he => ?_, fun i o t j oj hi ho ht hj hoj hd => ?_, fun i j hi hm hj => ?_, fun x hx => ?_, nodup_map_inj h9, nodup_map_inj h10⟩
  · have := h3 o (List.mem_of_getElem? hi)
    rw [hd] at this
    exact of_decide_eq_true this
  · exact h4 o (List.mem_of_getElem? hi) d hd
  · have := h5 i (getElem?_lt hi)
    rw [hi] at this
    simp only [List.all_eq_true, decide_eq_true_eq] at this
    exact this e he
  · have := h6 i hi
    rw [ho] at this
    simp only [List.all_eq_true, List.mem_range] at this
    have := this t ht j hj
    rw [hoj] at this
    simp only [hd, if_true, Bool.and_eq_true, decide_eq_true_eq, List.contains_eq_mem] at this
    exact this
  · have := h7 i hi
    rcases this with (h | h) | h
    · omega
    · obtain ⟨y, hy, he⟩ := List.any_eq_true.1 h
      obtain ⟨x, hx, rfl⟩ := List.mem_map.1 hy
      exact .inl ⟨x, hx, by simpa using he⟩
    · have := h j hj
      exact .inr (by simpa using this)
  · have := h8 _ (List.mem_map.2 ⟨x, hx, rfl⟩)
    unfold alOkB at this
    simp only [Bool.and_eq_true, decide_eq_true_eq, List.all_eq_true, Bool.not_eq_true'] at this
    obtain ⟨⟨⟨⟨q1, q2⟩, q3⟩, q4⟩, q5⟩ := this
    refine ⟨q1, q2, ?_, by simpa using q4, fun o ho => by have := q5 o ho; simpa using this⟩
    split at q3
    · next o ho =>
      obtain ⟨ty, p, af, rfl⟩ := isAl_spec q3
      exact ⟨ty, p, af, ho⟩
    · cases q3
def putA : Nat → List AlO → Env → Env
  | _, [], ρ => ρ
  | k, x :: r, ρ => putA (k + 1) r (pute x.d (.c (.loc k 0)) ρ)
theorem putA_out {t : Nat} : ∀ (σ : List AlO) (k : Nat) (ρ : Env), (∀ x ∈ σ, x.d ≠ t) → lk t (putA k σ ρ) = lk t ρ
  | [], _, _, _ => rfl
  | x :: r, k, ρ, h => by
    rw [putA, putA_out r _ _ fun y hy => h y (List.mem_cons_of_mem _ hy), lk_put, if_neg (h x (List.mem_cons_self ..))]
theorem putA_at : ∀ (σ : List AlO) (k : Nat) (ρ : Env) (j : Nat) (x : AlO), σ.Nodup → (∀ y ∈ σ, ∀ z ∈ σ, y.d = z.d → y = z) → σ[j]? = some x → lk x.d (putA k σ ρ) = .c (.loc (k + j) 0)
  | [], _, _, _, _, _, _, h => by simp at h
  | y :: r, k, ρ, 0, x, hn, hd, h => by
    simp at h
    subst h
    rw [putA, putA_out r _ _ (fun z hz e => ?_), lk_put, if_pos rfl]; rfl
    have := hd z (List.mem_cons_of_mem _ hz) y (List.mem_cons_self ..) e
    subst this
    exact (List.nodup_cons.1 hn).1 hz
  | y :: r, k, ρ, j + 1, x, hn, hd, h => by
    rw [putA, putA_at r (k + 1) _ j x (List.nodup_cons.1 hn).2 (fun a ha b hb => hd a (List.mem_cons_of_mem _ ha) b (List.mem_cons_of_mem _ hb)) (by simpa using h)]
    congr 2; omega
section
variable {l : List Oper} {m : Nat} {Q : Exit → Act → World → Prop} {As : List AlO}
structure PreA (cx : Cx) (h : List LB) (l : List Oper) (m : Nat) (As σ : List AlO) (ρ ρ' : Env) (listed : Array Bool) (a : Act) (w : World) : Prop where
  sat : ∃ G, SatH cx G (h ++ σ.map AlO.lb) w ∧ (∀ t, Done l m listed t → Ar G (lk t ρ') (a.tmps.getD t undef)) ∧ (∀ t, ¬ Done l m listed t → (∀ x ∈ σ, x.d ≠ t) → Ar G (lk t ρ) (a.tmps.getD t undef)) ∧
    ∀ j x, σ[j]? = some x → Ar G (.c (.loc (h.length + j) 0)) (a.tmps.getD x.d undef)
  N : a.tmps.size = cx.pm.N
  defers : a.defers = cx.df
  size : listed.size = l.length
  nd : σ.Nodup
  sub : ∀ x ∈ σ, x ∈ As
  none : ∀ i, m ≤ i → i < l.length → (listed.getD i false = true ↔ ∃ x ∈ σ, x.i = i)
  down : Down l (fun i => listed.getD i false = true)
theorem preA_sat (c : PreOkA l m pm.N As) {cx : Cx} {ρ ρ' : Env} {σ : List AlO} {listed : Array Bool} {a : Act} {w : World} (hrun : Run P pm (h ++ σ.map AlO.lb) l.toArray (l.take m) ρ ρ') (hpre : PreA cx h l m As σ ρ ρ' listed a w) {G : Gh} (s : SatH cx G (h ++ σ.map AlO.lb) w)
    (h1 : ∀ t, Done l m listed t → Ar G (lk t ρ') (a.tmps.getD t undef)) (h2 : ∀ t, ¬ Done l m listed t → (∀ x ∈ σ, x.d ≠ t) → Ar G (lk t ρ) (a.tmps.getD t undef)) (h3 : ∀ j x, σ[j]? = some x → Ar G (.c (.loc (h.length + j) 0)) (a.tmps.getD x.d undef)) (hall : ∀ i, i < m → listed.getD i false = true) : Sat cx G ⟨putA h.length σ ρ', h ++ σ.map AlO.lb⟩ a w := by
  refine ⟨s, fun t => ?_, hpre.N, hpre.defers⟩
  show Ar G (lk t (putA h.length σ ρ')) _
  by_cases hx : ∃ x ∈ σ, x.d = t
  · obtain ⟨x, hx, rfl⟩ := hx
    obtain ⟨j, hj⟩ := List.mem_iff_getElem?.1 hx
    rw [putA_at σ _ _ j x hpre.nd (fun y hy z hz => c.ad y (hpre.sub y hy) z (hpre.sub z hz)) hj]
    exact h3 j x hj
  · have hx' : ∀ x ∈ σ, x.d ≠ t := fun x h e => hx ⟨x, h, e⟩
    rw [putA_out σ _ _ hx']
    by_cases hd : t ∈ dsts (l.take m)
    · obtain ⟨i, o, b1, b2⟩ := mem_dsts.1 hd
      rw [List.getElem?_take] at b1
      split at b1
      · next him => exact h1 t ⟨i, o, him, b1, b2, hall i him⟩
      · cases b1
    · rw [hrun.out t hd]
      refine h2 t (fun ⟨i, o, a1, a2, a3, _⟩ => hd (mem_dsts.2 ⟨i, o, by rw [List.getElem?_take, if_pos a1]; exact a2, a3⟩)) hx'
theorem hlist0 (c : PreOkA l m pm.N As) {cx : Cx} {σ : List AlO} {ρ ρ' : Env} {listed : Array Bool} {a : Act} {w : World} (hpre : PreA cx h l m As σ ρ ρ' listed a w) (hall : ∀ i, i < m → listed.getD i false = true) :
    ∀ j, j < l.length → listed.getD j false = (decide (j < m) || σ.any fun x => x.i == j) := fun j hj => by
  by_cases hjm : j < m
  · rw [hall j hjm]; simp [hjm]
  · rw [decide_eq_false hjm, Bool.false_or]
    have := hpre.none j (by omega) hj
    cases e : listed.getD j false with
    | true =>
      obtain ⟨x, hx, e'⟩ := this.1 e
      exact (List.any_eq_true.2 ⟨x, hx, by simpa using e'⟩).symm
    | false =>
      cases e2 : σ.any fun x => x.i == j with
      | false => rfl
      | true =>
        obtain ⟨x, hx, e'⟩ := List.any_eq_true.1 e2
        rw [this.2 ⟨x, hx, by simpa using e'⟩] at e; cases e
theorem pre_anyA (c : PreOkA l m pm.N As) {cx : Cx} (hp : cx.pm = pm) {ρ ρ' : Env} (hz : ∀ x ∈ As, zeroC P x.t = some x.zc) (hrunA : ∀ hA, Run P pm (h ++ hA) l.toArray (l.take m) ρ ρ') (htail : ∀ σ, σ.Nodup → (∀ x ∈ σ, x ∈ As) → ∀ G a w, Sat cx G ⟨putA h.length σ ρ', h ++ σ.map AlO.lb⟩ a w → ∀ listed : Array Bool, listed.size = l.length → (∀ j, j < l.length → listed.getD j false = (decide (j < m) || σ.any fun x => x.i == j)) →
      wpAny P .any l.toArray Q ((List.range l.length).countP fun j => !listed.getD j false) listed a w) :
    ∀ (fuel : Nat) (listed : Array Bool) (a : Act) (w : World) (σ : List AlO), ((List.range l.length).countP fun j => !listed.getD j false) = fuel → PreA cx h l m As σ ρ ρ' listed a w → wpAny P .any l.toArray Q fuel listed a w := by
  intro fuel
  induction fuel with
  | zero =>
    intro listed a w σ hc hpre
    have hall := unl_pos (Nat.le_refl _) hc
    have hml := c.le
    obtain ⟨G, s, h1, h2, h3⟩ := hpre.sat
    have := htail σ hpre.nd hpre.sub G a w (preA_sat c (hrunA _) hpre s h1 h2 h3 fun i hi => hall i (by omega)) listed hpre.size (hlist0 c hpre fun i hi => hall i (by omega))
    rw [hc] at this
    exact this
  | succ fuel ih =>
    intro listed a w σ hc hpre
    have hgd : ∀ j, j < l.length → ∀ d, listed.getD j d = listed.getD j false := fun j hj d => by simp [Array.getD, hpre.size, hj]
    by_cases hall : ∀ i, i < m → listed.getD i false = true
    · -- all that may come up in any order has come up
      obtain ⟨G, s, h1, h2, h3⟩ := hpre.sat
      have := htail σ hpre.nd hpre.sub G a w (preA_sat c (hrunA _) hpre s h1 h2 h3 hall) listed hpre.size (hlist0 c hpre hall)
      rw [hc] at this
      exact this
    · refine ⟨fun hempty => ?_, fun i hi => ?_⟩
      · -- the first that has not come up may come up
        exfalso
        have hex : ∃ i, i < m ∧ listed.getD i false = false := by
          false_or_by_contra
          rename_i hno
          refine hall fun i hi => ?_
          cases e : listed.getD i false with
          | true => rfl
          | false => exact absurd ⟨i, hi, e⟩ hno
        have hmin : ∃ i, (i < m ∧ listed.getD i false = false) ∧ ∀ j, j < i → listed.getD j false = true := by
          obtain ⟨i, hi⟩ := hex
          induction i using Nat.strongRecOn with
          | _ i ih =>
            by_cases hj : ∃ j, j < i ∧ listed.getD j false = false
            · obtain ⟨j, h1, h2⟩ := hj
              exact ih j h1 ⟨by omega, h2⟩
            · refine ⟨i, hi, fun j hji => ?_⟩
              cases e : listed.getD j false with
              | true => rfl
              | false => exact absurd ⟨j, hji, e⟩ hj
        obtain ⟨i, ⟨him, hun⟩, hbefore⟩ := hmin
        have hml := c.le
        have hil : i < l.length := by omega
        have : i ∈ Region.ready .any l.toArray listed := by
          refine mem_ready.2 ⟨by rw [hgd i hil]; exact hun, l[i], by simp [hil], fun e he hb => hbefore _ (c.ed i _ _ (List.getElem?_eq_getElem hil) (edges_after he hb))⟩
        rw [hempty] at this
        cases this
      · obtain ⟨q1, o, q2, q3⟩ := mem_ready.1 hi
        have hoi : l[i]? = some o := by simpa using q2
        have hil := getElem?_lt hoi
        rw [hgd i hil] at q1
        have hed : ∀ e ∈ edges o, listed.getD e false = true := fun e he => by
          obtain ⟨ee, r1, r2, r3⟩ := edges_mem he
          rw [← r3]; exact q3 ee r1 r2
        obtain ⟨G, s, h1, h2, h3⟩ := hpre.sat
        by_cases him' : m ≤ i
        · -- a box is made
          have hx : ∃ x ∈ As, x.i = i := by
            by_cases hx : ∃ x ∈ As, x.i = i
            · exact hx
            · exfalso
              refine hall fun j hj => ?_
              have hcl := (c.tl i j hil him' (by omega)).resolve_left hx
              cases e : (clos l [])[i]? with
              | none => simp [List.getD, e] at hcl
              | some cc =>
                simp [List.getD, e] at hcl
                exact clos_ok l _ hpre.down l [] 0 rfl rfl (by simp) i o cc hoi e hed j hcl
          obtain ⟨x, hx, rfl⟩ := hx
          obtain ⟨_, xN, ⟨ty, p, af, hxo⟩, xd, xr⟩ := c.am x hx
          rw [hxo] at hoi
          obtain rfl := Option.some.inj hoi
          have hxσ : x ∉ σ := fun hs => by
            have := (hpre.none x.i him' hil).2 ⟨x, hs, rfl⟩
            rw [q1] at this; cases this
          have hdne : ∀ y ∈ σ, y.d ≠ x.d := fun y hy e => by
            have := c.ad y (hpre.sub y hy) x hx e
            subst this
            exact hxσ hy
          refine wpOp_of_list hxo ?_
          refine wpList_plain rfl fun K' hK' => ?_
          obtain ⟨z, hr, hzc, _⟩ := zeroC_ok (hz x hx) G w
          have hrn : (execOp a.eval ⟨some x.d, .alloc x.t, ty, p, af, none⟩).run P w = .ok (.value (.pointer (some ⟨w.heap.size, 0, none⟩))) (w.alloc (.cells z.cells x.t)) := by
            simp [execOp, Instr.alloc, hr, newVar, newRow]
          have s' : SatH cx ⟨G.V, G.g ++ [(.pointer (some ⟨w.heap.size, 0, none⟩), 0)]⟩ (h ++ (σ ++ [x]).map AlO.lb) (w.alloc (.cells z.cells x.t)) := by
            rw [List.map_append, ← List.append_assoc]
            exact push_box s x.t hzc
          have hG := gle_push (G := G) (.pointer (some ⟨w.heap.size, 0, none⟩), 0)
          have hsz : x.d < a.tmps.size := by rw [hpre.N, hp]; exact xN
          have hk := hK' (a.put (some x.d) (.pointer (some ⟨w.heap.size, 0, none⟩))) (w.alloc (.cells z.cells x.t)) (ih (listed.setIfInBounds x.i true) (a.put (some x.d) (.pointer (some ⟨w.heap.size, 0, none⟩))) (w.alloc (.cells z.cells x.t)) (σ ++ [x]) (by have := count_set hpre.size hil q1; omega) ⟨⟨_, s', fun t ht => ?_, fun t ht hne => ?_, fun j y hy => ?_⟩, ?_, ?_, by simpa using hpre.size, ?_, ?_, fun k hk hkl => ?_, fun k ok hk hD e he => ?_⟩)
          · unfold Oper.wp
            rw [hrn]
            exact hk
          · obtain ⟨j, oj, b1, b2, b3, b4⟩ := ht
            have hdt : (some x.d : Option Nat) ≠ some t := fun e => by
              cases e
              exact xd (mem_dsts.2 ⟨j, oj, by rw [List.getElem?_take, if_pos b1]; exact b2, b3⟩)
            have hd' : Done l m listed t := ⟨j, oj, b1, b2, b3, by rwa [getD_set_ne false (by omega)] at b4⟩
            rw [put_other hdt]
            exact (h1 t hd').grow hG
          · have hdt : (some x.d : Option Nat) ≠ some t := fun e => by
              cases e
              exact hne x (List.mem_append_right _ (List.mem_singleton.2 rfl)) rfl
            rw [put_other hdt]
            exact (h2 t (fun ⟨j, oj, b1, b2, b3, b4⟩ => ht ⟨j, oj, b1, b2, b3, getD_set_true b4⟩) fun y hy => hne y (List.mem_append_left _ hy)).grow hG
          · rcases Nat.lt_or_ge j σ.length with hj | hj
            · rw [List.getElem?_append_left hj] at hy
              have hym : y ∈ σ := List.mem_of_getElem? hy
              have hdt : (some x.d : Option Nat) ≠ some y.d := fun e => hdne y hym (Option.some.inj e).symm
              rw [put_other hdt]
              exact (h3 j y hy).grow hG
            · rw [List.getElem?_append_right hj] at hy
              have hj0 : j - σ.length = 0 := by
                cases e : j - σ.length with
                | zero => rfl
                | succ n => rw [e] at hy; simp at hy
              rw [hj0] at hy
              simp at hy
              subst hy
              have : ((a.put (some x.d) (.pointer (some ⟨w.heap.size, 0, none⟩))).tmps).getD x.d undef = .pointer (some ⟨w.heap.size, 0, none⟩) := by simp [Act.put, Array.getD, hsz]
              rw [this]
              have hlen : h.length + j = G.g.length := by rw [s.len, List.length_append, List.length_map]; omega
              rw [hlen]
              exact ⟨w.heap.size, 0, get_last _ _ rfl, rfl⟩
          · simp [Act.put, hpre.N]
          · simp [Act.put, hpre.defers]
          · refine List.nodup_append.2 ⟨hpre.nd, by simp, fun y hy z hz' e => ?_⟩
            rw [List.mem_singleton] at hz'
            subst hz'; subst e
            exact hxσ hy
          · intro y hy
            rcases List.mem_append.1 hy with hy | hy
            · exact hpre.sub y hy
            · rw [List.mem_singleton.1 hy]; exact hx
          · by_cases hki : x.i = k
            · subst hki
              constructor
              · exact fun _ => ⟨x, List.mem_append_right _ (List.mem_singleton.2 rfl), rfl⟩
              · intro _; simp [Array.getD, hpre.size, hil]
            · rw [getD_set_ne false hki, hpre.none k hk hkl]
              constructor
              · exact fun ⟨y, hy, e⟩ => ⟨y, List.mem_append_left _ hy, e⟩
              · rintro ⟨y, hy, e⟩
                rcases List.mem_append.1 hy with hy | hy
                · exact ⟨y, hy, e⟩
                · rw [List.mem_singleton.1 hy] at e; exact absurd e hki
          · by_cases hki : x.i = k
            · subst hki
              rw [hxo] at hk
              cases hk
              exact getD_set_true (hed e he)
            · have hD' : (listed.setIfInBounds x.i true).getD k false = true := hD
              rw [getD_set_ne false hki] at hD'
              exact getD_set_true (hpre.down k ok hk hD' e he)
        have him : i < m := by omega
        have hrun := hrunA (σ.map AlO.lb)
        have hmt : o ∈ l.take m := List.mem_of_getElem? (by rw [List.getElem?_take, if_pos him]; exact hoi)
        have hnr : ∀ t ∈ tmpsOf o ++ gtmp l o, ∀ x ∈ σ, x.d ≠ t := fun t ht x hx e => (c.am x (hpre.sub x hx)).2.2.2.2 o hmt (e ▸ ht)
        have hnd0 : ∀ x ∈ σ, o.dst ≠ some x.d := fun x hx e => (c.am x (hpre.sub x hx)).2.2.2.1 (mem_dsts.2 ⟨i, o, by rw [List.getElem?_take, if_pos him]; exact hoi, e⟩)
        have hot : (l.take m)[i]? = some o := by rw [List.getElem?_take, if_pos him]; exact hoi
        obtain ⟨ρi, u1, u2, u3⟩ := hrun.at c.nd i o hot
        have hdd : ∀ t, t ∈ tmpsOf o ++ gtmp l o → Ar G (lk t ρi) (a.tmps.getD t undef) := by
          intro t ht
          by_cases hw : ∃ (j : Nat) (oj : Oper), j < m ∧ l[j]? = some oj ∧ oj.dst = some t
          · obtain ⟨j, oj, hj, hoj, hdj⟩ := hw
            obtain ⟨hji, hje⟩ := c.rd i o t j oj him hoi ht hj hoj hdj
            have hdone : Done l m listed t := ⟨j, oj, hj, hoj, hdj, hed j hje⟩
            have : lk t ρ' = lk t ρi := u2 t fun hmem => dsts_split c.nd (i := i) (t := t) (mem_dsts.2 ⟨j, oj, by rw [List.getElem?_take, if_pos hji, List.getElem?_take, if_pos hj]; exact hoj, hdj⟩) hmem
            rw [← this]
            exact h1 t hdone
          · have hnd : ¬ Done l m listed t := fun ⟨j, oj, a1, a2, a3, _⟩ => hw ⟨j, oj, a1, a2, a3⟩
            have : lk t ρi = lk t ρ := u1 t fun hmem => by
              obtain ⟨j, oj, b1, b2⟩ := mem_dsts.1 hmem
              have hj := getElem?_lt b1
              rw [List.getElem?_take] at b1
              split at b1
              · rw [List.getElem?_take] at b1
                split at b1
                · exact hw ⟨j, oj, by omega, b1, b2⟩
                · cases b1
              · cases b1
            rw [this]
            exact h2 t hnd (hnr t ht)
        have hops : ∀ x ∈ o.op.operands.toList, Ar G (ev pm.Γ ρi x) (a.eval x) := by
          intro x hx
          cases x with
          | tmp t => exact hdd t (List.mem_append.2 (.inl (tmp_mem hx)))
          | const v => exact cAV_ok G v
          | global g => exact lkG_ok (cx := cx) _ (by rw [← hp]; exact s.glob)
          | func f => exact ⟨[], rfl, .nil⟩
        have hwant : ∀ b, wantedA l.toArray o ρi = some b → Region.wanted o (yielded l.toArray a.tmps) = b := fun b hb =>
          wanted_of hb fun j want d e1 e2 => by
            have hg : d ∈ gtmp l o := by
              unfold gtmp
              rw [e1]
              have : (l[j]?).bind (·.dst) = some d := by simpa using e2
              simp [this]
            exact ⟨by rw [hpre.N, hp]; exact c.gN i o d hoi hg, hdd d (List.mem_append.2 (.inr hg))⟩
        -- what holds behind it
        have hstep : ∀ (v : Value) (w' : World) (G' : Gh) (r : AV), GLe G.g.length G G' → SatH cx G' (h ++ σ.map AlO.lb) w' → Ar G' r v → (∀ d, o.dst = some d → lk d ρ' = r) →
            wpAny P .any l.toArray Q fuel (listed.setIfInBounds i true) (a.put o.dst v) w' := by
          intro v w' G' r hG s' hr hlk
          refine ih _ _ _ σ (by have := count_set hpre.size hil q1; omega) ⟨⟨G', s', fun t ht => ?_, fun t ht hne => ?_, fun j x hx => ?_⟩, ?_, ?_, by simpa using hpre.size, hpre.nd, hpre.sub, fun k hk hkl => ?_, fun k ok hk hD e he => ?_⟩
          · by_cases hdt : o.dst = some t
            · rw [hlk t hdt, hdt]
              have hlt : t < a.tmps.size := by rw [hpre.N, hp]; exact c.dN i o t hoi hdt
              have : ((a.put (some t) v).tmps).getD t undef = v := by simp [Act.put, Array.getD, hlt]
              rw [this]; exact hr
            · have hd' : Done l m listed t := by
                obtain ⟨j, oj, b1, b2, b3, b4⟩ := ht
                have hji : i ≠ j := fun e => by
                  subst e
                  rw [hoi] at b2
                  cases b2
                  exact hdt b3
                exact ⟨j, oj, b1, b2, b3, by rwa [getD_set_ne false hji] at b4⟩
              rw [put_other hdt]
              exact (h1 t hd').grow hG
          · have hdt : o.dst ≠ some t := fun e => ht ⟨i, o, him, hoi, e, by simp [Array.getD, hpre.size, hil]⟩
            have hd' : ¬ Done l m listed t := fun ⟨j, oj, b1, b2, b3, b4⟩ => ht ⟨j, oj, b1, b2, b3, getD_set_true b4⟩
            rw [put_other hdt]
            exact (h2 t hd' hne).grow hG
          · rw [put_other (hnd0 x (List.mem_of_getElem? hx))]
            exact (h3 j x hx).grow hG
          · cases o.dst <;> simp [Act.put, hpre.N]
          · cases o.dst <;> simp [Act.put, hpre.defers]
          · rw [getD_set_ne false (by omega)]
            exact hpre.none k hk hkl
          · by_cases hki : i = k
            · subst hki
              rw [hoi] at hk
              cases hk
              exact getD_set_true (hed e he)
            · have hD' : (listed.setIfInBounds i true).getD k false = true := hD
              rw [getD_set_ne false hki] at hD'
              exact getD_set_true (hpre.down k ok hk hD' e he)
        unfold wpOp
        simp only [q2]
        rcases u3 with ⟨hw, r, hq, hlk⟩ | ⟨hw, hlk⟩
        · rw [if_pos (hwant true hw)]
          exact .inl (hq cx G w a hp s hops _ _ fun v w' G' hG s' hr => hstep v w' G' r hG s' hr hlk)
        · rw [if_neg (by rw [hwant false hw]; simp)]
          exact hstep undef w G U (.refl _ _) s U_ok hlk
end
end Go.Ax
