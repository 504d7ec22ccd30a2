/- Part of a proof about this program; no condition of its own. -/
import Derived.Test.YtanbfhnmklhjiaaGreatDoorP08
set_option linter.all false
/-
  A region that draws its order, walked once in the order of the text: whatever order is drawn, the readings at the end are those. No condition.
-/
namespace Go.Ax
open Go Go.RowKit
variable {P : Program} {pm : Pm} {st : St} {h : List LB}
def tmpsOf (o : Oper) : List Nat := o.op.operands.toList.filterMap fun | .tmp t => some t | _ => none
def gtmp (l : List Oper) (o : Oper) : List Nat :=
  match o.guard with
  | some (j, _) => match (l[j]?).bind (·.dst) with
    | some d => [d]
    | none => []
  | none => []
def edges (o : Oper) : List Nat := (o.after.toList.filter (Region.binds .any)).map (·.on)
def uni (a b : List Nat) : List Nat := a.foldr (fun x l => if l.contains x then l else x :: l) b
theorem mem_uni {x : Nat} : ∀ (a b : List Nat), x ∈ uni a b ↔ x ∈ a ∨ x ∈ b
  | [], b => by simp [uni]
  | y :: a, b => by
    have ih := mem_uni (x := x) a b
    simp only [uni, List.foldr_cons] at ih ⊢
    split
    · next hc =>
      rw [ih]
      have : y ∈ a ∨ y ∈ b := (mem_uni (x := y) a b).1 (by simpa [uni] using hc)
      constructor
      · rintro (h | h) <;> simp [h]
      · rintro (h | h)
        · rcases List.mem_cons.1 h with rfl | h
          · exact this
          · exact .inl h
        · exact .inr h
    · rw [List.mem_cons, ih]
      simp [or_assoc]
def clos : List Oper → List (List Nat) → List (List Nat)
  | [], acc => acc
  | o :: r, acc => clos r (acc ++ [(edges o).foldr (fun e c => uni (e :: acc.getD e []) c) []])
def Down (l : List Oper) (D : Nat → Prop) : Prop := ∀ i o, l[i]? = some o → D i → ∀ e ∈ edges o, D e
theorem fold_mem {acc : List (List Nat)} {x : Nat} : ∀ (es : List Nat), x ∈ es.foldr (fun e c => uni (e :: acc.getD e []) c) [] → ∃ e ∈ es, x = e ∨ x ∈ acc.getD e []
  | [], h => by simp at h
  | e :: es, h => by
    simp only [List.foldr_cons] at h
    rcases (mem_uni _ _).1 h with h | h
    · rcases List.mem_cons.1 h with rfl | h
      · exact ⟨x, by simp, .inl rfl⟩
      · exact ⟨e, by simp, .inr h⟩
    · obtain ⟨e', h1, h2⟩ := fold_mem es h
      exact ⟨e', by simp [h1], h2⟩
theorem clos_ok (l : List Oper) (D : Nat → Prop) (hD : Down l D) : ∀ (r : List Oper) (acc : List (List Nat)) (k : Nat), l.drop k = r → acc.length = k →
    (∀ (i : Nat) (o : Oper) (c : List Nat), l[i]? = some o → acc[i]? = some c → (∀ e ∈ edges o, D e) → ∀ j ∈ c, D j) → ∀ (i : Nat) (o : Oper) (c : List Nat), l[i]? = some o → (clos r acc)[i]? = some c → (∀ e ∈ edges o, D e) → ∀ j ∈ c, D j
  | [], acc, k, _, _, hacc => hacc
  | o :: r, acc, k, hr, hk, hacc => by
    have hok : l[k]? = some o := by
      have := List.getElem?_drop (xs := l) (i := k) (j := 0)
      rw [hr] at this
      simpa using this.symm
    refine clos_ok l D hD r _ (k + 1) (by rw [← List.drop_drop, hr]; rfl) (by simp [hk]) fun i o' c hi hc he j hj => ?_
    rcases getElem?_push hc with hc | ⟨rfl, rfl⟩
    · exact hacc i o' c hi hc he j hj
    · rw [hk, hok] at hi
      cases hi
      obtain ⟨e, h1, h2⟩ := fold_mem _ hj
      rcases h2 with rfl | h2
      · exact he _ h1
      · cases hq : acc[e]? with
        | none => simp [List.getD, hq] at h2
        | some c =>
          simp [List.getD, hq] at h2
          have hlt := getElem?_lt hq
          have hll : k < l.length := getElem?_lt hok
          obtain ⟨oe, hoe⟩ : ∃ oe, l[e]? = some oe := ⟨_, List.getElem?_eq_getElem (by omega)⟩
          exact hacc e oe c hoe hq (hD e oe hoe (he e h1)) j h2
def drawOk (l : List Oper) (m N : Nat) : Bool :=
  let pre := l.take m
  let cl := clos l []
  decide (m ≤ l.length) && decide (dsts pre).Nodup && (l.all fun o => match o.dst with | some d => decide (d < N) | none => true) && (l.all fun o => (gtmp l o).all fun d => decide (d < N)) &&
  ((List.range l.length).all fun i => match l[i]? with
    | some o => (edges o).all fun e => decide (e < i)
    | none => true) &&
  ((List.range m).all fun i => match l[i]? with
    | some o => (tmpsOf o ++ gtmp l o).all fun t => (List.range m).all fun j => match l[j]? with
      | some oj => if oj.dst = some t then decide (j < i) && (edges o).contains j else true
      | none => true
    | none => true) &&
  ((List.range l.length).all fun i => decide (i < m) || ((List.range i).all fun j => (cl.getD i []).contains j))
structure DrawOk (l : List Oper) (m N : Nat) : Prop where
  le : m ≤ l.length
  nd : (dsts (l.take m)).Nodup
  dN : ∀ (i : Nat) (o : Oper) (d : Nat), l[i]? = some o → o.dst = some d → d < N
  gN : ∀ (i : Nat) (o : Oper) (d : Nat), l[i]? = some o → d ∈ gtmp l o → d < N
  ed : ∀ (i : Nat) (o : Oper) (e : Nat), l[i]? = some o → e ∈ edges o → e < i
  rd : ∀ (i : Nat) (o : Oper) (t j : Nat) (oj : Oper), i < m → l[i]? = some o → t ∈ tmpsOf o ++ gtmp l o → j < m → l[j]? = some oj → oj.dst = some t → j < i ∧ j ∈ edges o
  tl : ∀ (i j : Nat), i < l.length → m ≤ i → j < i → j ∈ (clos l []).getD i []
theorem drawOk_spec {l : List Oper} {m N : Nat} (hh : drawOk l m N = true) : DrawOk l m N := by
  unfold drawOk at hh
  simp only [Bool.and_eq_true, decide_eq_true_eq, List.all_eq_true, List.mem_range, Bool.or_eq_true] at hh
  obtain ⟨⟨⟨⟨⟨⟨h1, h2⟩, h3⟩, h4⟩, h5⟩, h6⟩, h7⟩ := hh
  refine ⟨h1, h2, fun i o d hi hd => ?_, fun i o d hi hd => ?_, fun i o e hi he => ?_, fun i o t j oj hi ho ht hj hoj hd => ?_, fun i j hi hm hj => ?_⟩
  · have := h3 o (List.mem_of_getElem? hi)
    rw [hd] at this
    exact of_decide_eq_true this
  · exact h4 o (List.mem_of_getElem? hi) d hd
  · have := h5 i (getElem?_lt hi)
    rw [hi] at this
    simp only [List.all_eq_true, decide_eq_true_eq] at this
    exact this e he
  · have := h6 i hi
    rw [ho] at this
    simp only [List.all_eq_true, List.mem_range] at this
    have := this t ht j hj
    rw [hoj] at this
    simp only [hd, if_true, Bool.and_eq_true, decide_eq_true_eq, List.contains_eq_mem] at this
    exact this
  · have := h7 i hi
    rcases this with h | h
    · omega
    · have := h j hj
      simpa using this
theorem edges_after {o : Oper} {e : Edge} (he : e ∈ o.after) (hb : Region.binds .any e = true) : e.on ∈ edges o := by
  unfold edges
  rw [List.mem_map]
  exact ⟨e, List.mem_filter.2 ⟨by simpa using he, hb⟩, rfl⟩
theorem edges_mem {o : Oper} {x : Nat} (h : x ∈ edges o) : ∃ e ∈ o.after, Region.binds .any e = true ∧ e.on = x := by
  unfold edges at h
  rw [List.mem_map] at h
  obtain ⟨e, h1, h2⟩ := h
  obtain ⟨h3, h4⟩ := List.mem_filter.1 h1
  exact ⟨e, by simpa using h3, h4, h2⟩
theorem tmp_mem {o : Oper} {t : Nat} (h : Operand.tmp t ∈ o.op.operands.toList) : t ∈ tmpsOf o := by
  unfold tmpsOf
  rw [List.mem_filterMap]
  exact ⟨_, h, rfl⟩
theorem mem_dsts {l : List Oper} {t : Nat} : t ∈ dsts l ↔ ∃ (i : Nat) (o : Oper), l[i]? = some o ∧ o.dst = some t := by
  unfold dsts
  rw [List.mem_filterMap]
  constructor
  · rintro ⟨o, h1, h2⟩
    obtain ⟨i, hi, e⟩ := List.mem_iff_getElem.1 h1
    exact ⟨i, o, by rw [List.getElem?_eq_getElem hi, e], h2⟩
  · rintro ⟨i, o, h1, h2⟩
    exact ⟨o, List.mem_of_getElem? h1, h2⟩
theorem dsts_split {l : List Oper} (hnd : (dsts l).Nodup) {i : Nat} {t : Nat} (h1 : t ∈ dsts (l.take i)) (h2 : t ∈ dsts (l.drop i)) : False := by
  have : dsts l = dsts (l.take i) ++ dsts (l.drop i) := by
    unfold dsts
    rw [← List.filterMap_append, List.take_append_drop]
  rw [this] at hnd
  exact (List.nodup_append.1 hnd).2.2 t h1 t h2 rfl
section
variable {l : List Oper} {m : Nat} {Q : Exit → Act → World → Prop}
theorem tail_any (c : DrawOk l m pm.N) : ∀ (fuel i : Nat) (listed : Array Bool) (a : Act) (w : World), m ≤ i → i + fuel = l.length → listed.size = l.length → (∀ j, j < l.length → listed.getD j false = decide (j < i)) →
    wpList P l.toArray Q (l.drop i) a w → wpAny P .any l.toArray Q fuel listed a w
  | 0, i, listed, a, w, hm, hf, hs, hl, hw => by
    refine ⟨?_, ?_⟩
    · apply List.eq_nil_iff_forall_not_mem.2
      intro j hj
      obtain ⟨h1, o, h2, _⟩ := mem_ready.1 hj
      have hjl : j < l.length := by have := (Array.getElem?_eq_some_iff.1 h2).1; simpa using this
      have h3 := hl j hjl
      have : listed.getD j true = listed.getD j false := by simp [Array.getD, hs, hjl]
      rw [this, h3] at h1
      simp at h1
      omega
    · rw [List.drop_of_length_le (by omega)] at hw
      exact hw
  | fuel + 1, i, listed, a, w, hm, hf, hs, hl, hw => by
    have hil : i < l.length := by omega
    have hgd : ∀ j, j < l.length → ∀ d, listed.getD j d = decide (j < i) := fun j hj d => by
      have := hl j hj
      rw [← this]
      simp [Array.getD, hs, hj]
    have hdown : Down l (fun j => j < i) := fun j o hj hji e he => by have := c.ed j o e hj he; omega
    have hready : ∀ j ∈ Region.ready .any l.toArray listed, j = i := by
      intro j hj
      obtain ⟨h1, o, h2, h3⟩ := mem_ready.1 hj
      have hjl : j < l.length := by have := (Array.getElem?_eq_some_iff.1 h2).1; simpa using this
      rw [hgd j hjl] at h1
      simp only [decide_eq_false_iff_not, Nat.not_lt] at h1
      rcases Nat.lt_or_ge i j with h | h
      · exfalso
        have hcl := c.tl j i hjl (by omega) h
        have hlen : ∃ cc, (clos l [])[j]? = some cc := by
          cases e : (clos l [])[j]? with
          | none => simp [List.getD, e] at hcl
          | some cc => exact ⟨cc, rfl⟩
        obtain ⟨cc, hcc⟩ := hlen
        simp [List.getD, hcc] at hcl
        have := clos_ok l (fun j => j < i) hdown l [] 0 rfl rfl (by simp) j o cc (by simpa using h2) hcc (fun e he => by
          obtain ⟨ee, q1, q2, q3⟩ := edges_mem he
          have h4 := h3 ee q1 q2
          have hel : ee.on < l.length := by have := c.ed j o ee.on (by simpa using h2) (edges_after q1 q2); omega
          rw [hgd _ hel] at h4
          rw [← q3]
          exact of_decide_eq_true h4) i hcl
        omega
      · omega
    have hi : i ∈ Region.ready .any l.toArray listed := by
      obtain ⟨o, ho⟩ : ∃ o, l[i]? = some o := ⟨_, List.getElem?_eq_getElem hil⟩
      refine mem_ready.2 ⟨by rw [hgd i hil]; simp, o, by simpa using ho, fun e he hb => ?_⟩
      have := c.ed i o e.on ho (edges_after he hb)
      rw [hgd _ (by omega)]
      simpa using this
    refine ⟨fun e => (by rw [e] at hi; cases hi), fun j hj => ?_⟩
    have hji := hready j hj
    subst hji
    rw [List.drop_eq_getElem_cons hil] at hw
    have hoj : l.toArray[j]? = some l[j] := by simp [hil]
    unfold wpOp
    rw [hoj]
    simp only [wpList] at hw
    have hnext : ∀ a w, wpList P l.toArray Q (l.drop (j + 1)) a w → wpAny P .any l.toArray Q fuel (listed.setIfInBounds j true) a w := fun a' w' hw' =>
      tail_any c fuel (j + 1) _ a' w' (by omega) (by omega) (by simpa using hs) (fun k hk => by
        by_cases hkj : j = k
        · subst hkj
          simp [Array.getD, hs, hil]
        · rw [getD_set_ne false hkj, hl k hk]
          simp only [decide_eq_decide]
          omega) hw'
    by_cases hwd : Region.wanted l[j] (yielded l.toArray a.tmps) = true
    · rw [if_pos hwd] at hw
      simp only [hwd, if_true]
      exact hw.imp (Oper.wp_mono hnext) id
    · rw [if_neg hwd] at hw
      simp only [hwd]
      exact hnext _ _ hw
def Done (l : List Oper) (m : Nat) (listed : Array Bool) (t : Nat) : Prop := ∃ (i : Nat) (o : Oper), i < m ∧ l[i]? = some o ∧ o.dst = some t ∧ listed.getD i false = true
structure Pre (cx : Cx) (h : List LB) (l : List Oper) (m : Nat) (ρ ρ' : Env) (listed : Array Bool) (a : Act) (w : World) : Prop where
  sat : ∃ G, SatH cx G h w ∧ (∀ t, Done l m listed t → Ar G (lk t ρ') (a.tmps.getD t undef)) ∧ (∀ t, ¬ Done l m listed t → Ar G (lk t ρ) (a.tmps.getD t undef))
  N : a.tmps.size = cx.pm.N
  defers : a.defers = cx.df
  size : listed.size = l.length
  none : ∀ i, m ≤ i → i < l.length → listed.getD i false = false
  down : Down l (fun i => listed.getD i false = true)
theorem unl_pos {listed : Array Bool} {n : Nat} : ∀ {k : Nat}, k ≤ n → ((List.range k).countP fun i => !listed.getD i false) = 0 → ∀ i, i < k → listed.getD i false = true := by
  intro k _ hc i hi
  have := List.countP_eq_zero.1 hc i (List.mem_range.2 hi)
  simpa using this
theorem count_set {listed : Array Bool} {n i : Nat} (hs : listed.size = n) (hi : i < n) (hu : listed.getD i false = false) :
    ((List.range n).countP fun j => !(listed.setIfInBounds i true).getD j false) + 1 = (List.range n).countP fun j => !listed.getD j false := by
  have key : ∀ k, k ≤ n → ((List.range k).countP fun j => !(listed.setIfInBounds i true).getD j false) + (if i < k then 1 else 0) = (List.range k).countP fun j => !listed.getD j false := by
    intro k
    induction k with
    | zero => intro _; simp
    | succ k ih =>
      intro hk
      rw [List.range_succ, List.countP_append, List.countP_append]
      have ih := ih (by omega)
      by_cases hik : i = k
      · subst hik
        have e1 : (listed.setIfInBounds i true).getD i false = true := by simp [Array.getD, hs, hi]
        simp only [List.countP_singleton, e1, hu, Bool.not_true, Bool.not_false, if_true, Bool.false_eq_true, if_false] at ih ⊢
        rw [if_pos (show i < i + 1 by omega)]
        rw [if_neg (show ¬ i < i by omega)] at ih
        omega
      · have e1 : (listed.setIfInBounds i true).getD k false = listed.getD k false := getD_set_ne false hik
        simp only [List.countP_singleton, e1] at ih ⊢
        generalize (if (!listed.getD k false) = true then 1 else 0) = q
        by_cases h1 : i < k
        · rw [if_pos (show i < k + 1 by omega)]; rw [if_pos h1] at ih; omega
        · rw [if_neg (show ¬ i < k + 1 by omega)]; rw [if_neg h1] at ih; omega
  have := key n (Nat.le_refl n)
  rw [if_pos hi] at this
  exact this
theorem put_other {a : Act} {dst : Option Tmp} {v : Value} {t : Nat} (h : dst ≠ some t) : (a.put dst v).tmps.getD t undef = a.tmps.getD t undef := by
  cases dst with
  | none => rfl
  | some d =>
    have : d ≠ t := fun e => h (by rw [e])
    simp only [Act.put, Array.getD_eq_getD_getElem?, Array.getElem?_setIfInBounds]
    rw [if_neg this]
theorem pre_sat {cx : Cx} {ρ ρ' : Env} {listed : Array Bool} {a : Act} {w : World} (hrun : Run P pm h l.toArray (l.take m) ρ ρ') (hpre : Pre cx h l m ρ ρ' listed a w) {G : Gh} (s : SatH cx G h w)
    (h1 : ∀ t, Done l m listed t → Ar G (lk t ρ') (a.tmps.getD t undef)) (h2 : ∀ t, ¬ Done l m listed t → Ar G (lk t ρ) (a.tmps.getD t undef)) (hall : ∀ i, i < m → listed.getD i false = true) : Sat cx G ⟨ρ', h⟩ a w := by
  refine ⟨s, fun t => ?_, hpre.N, hpre.defers⟩
  by_cases hd : t ∈ dsts (l.take m)
  · obtain ⟨i, o, b1, b2⟩ := mem_dsts.1 hd
    rw [List.getElem?_take] at b1
    split at b1
    · next him => exact h1 t ⟨i, o, him, b1, b2, hall i him⟩
    · cases b1
  · rw [hrun.out t hd]
    refine h2 t fun ⟨i, o, a1, a2, a3, _⟩ => hd (mem_dsts.2 ⟨i, o, by rw [List.getElem?_take, if_pos a1]; exact a2, a3⟩)
theorem pre_any (c : DrawOk l m pm.N) {cx : Cx} (hp : cx.pm = pm) {ρ ρ' : Env} (hrun : Run P pm h l.toArray (l.take m) ρ ρ') (htail : ∀ G a w, Sat cx G ⟨ρ', h⟩ a w → wpList P l.toArray Q (l.drop m) a w) :
    ∀ (fuel : Nat) (listed : Array Bool) (a : Act) (w : World), ((List.range l.length).countP fun j => !listed.getD j false) = fuel → Pre cx h l m ρ ρ' listed a w → wpAny P .any l.toArray Q fuel listed a w := by
  intro fuel
  induction fuel with
  | zero =>
    intro listed a w hc hpre
    have hall := unl_pos (Nat.le_refl _) hc
    have hml : m = l.length := by
      rcases Nat.lt_or_ge m l.length with h1 | h1
      · have := hpre.none m (Nat.le_refl _) h1
        rw [hall m h1] at this; cases this
      · have := c.le; omega
    refine tail_any c 0 m listed a w (Nat.le_refl _) (by omega) hpre.size (fun j hj => by rw [hall j hj]; simp; omega) ?_
    obtain ⟨G, s, h1, h2⟩ := hpre.sat
    exact htail G a w (pre_sat hrun hpre s h1 h2 fun i hi => hall i (by omega))
  | succ fuel ih =>
    intro listed a w hc hpre
    have hgd : ∀ j, j < l.length → ∀ d, listed.getD j d = listed.getD j false := fun j hj d => by simp [Array.getD, hpre.size, hj]
    by_cases hall : ∀ i, i < m → listed.getD i false = true
    · -- all that may come up in any order has come up
      have hlist : ∀ j, j < l.length → listed.getD j false = decide (j < m) := fun j hj => by
        by_cases hjm : j < m
        · rw [hall j hjm]; simp [hjm]
        · rw [hpre.none j (by omega) hj]; simp [hjm]
      have hcount : ((List.range l.length).countP fun j => !listed.getD j false) = l.length - m := by
        have h1 : ((List.range l.length).countP fun j => !listed.getD j false) = (List.range l.length).countP fun j => decide (m ≤ j) := by
          apply List.countP_congr
          intro j hj
          rw [List.mem_range] at hj
          rw [hlist j hj]
          simp
        rw [h1]
        have h2 : ∀ n, ((List.range n).countP fun j => decide (m ≤ j)) = n - m := by
          intro n
          induction n with
          | zero => simp
          | succ n ih =>
            rw [List.range_succ, List.countP_append, ih, List.countP_singleton]
            by_cases h : m ≤ n
            · simp [h]; omega
            · simp [h]; omega
        exact h2 _
      have hml := c.le
      obtain ⟨G, s, h1, h2⟩ := hpre.sat
      exact tail_any c (fuel + 1) m listed a w (Nat.le_refl _) (by omega) hpre.size hlist (htail G a w (pre_sat hrun hpre s h1 h2 hall))
    · refine ⟨fun hempty => ?_, fun i hi => ?_⟩
      · -- the first that has not come up may come up
        exfalso
        have hex : ∃ i, i < m ∧ listed.getD i false = false := by
          false_or_by_contra
          rename_i hno
          refine hall fun i hi => ?_
          cases e : listed.getD i false with
          | true => rfl
          | false => exact absurd ⟨i, hi, e⟩ hno
        have hmin : ∃ i, (i < m ∧ listed.getD i false = false) ∧ ∀ j, j < i → listed.getD j false = true := by
          obtain ⟨i, hi⟩ := hex
          induction i using Nat.strongRecOn with
          | _ i ih =>
            by_cases hj : ∃ j, j < i ∧ listed.getD j false = false
            · obtain ⟨j, h1, h2⟩ := hj
              exact ih j h1 ⟨by omega, h2⟩
            · refine ⟨i, hi, fun j hji => ?_⟩
              cases e : listed.getD j false with
              | true => rfl
              | false => exact absurd ⟨j, hji, e⟩ hj
        obtain ⟨i, ⟨him, hun⟩, hbefore⟩ := hmin
        have hml := c.le
        have hil : i < l.length := by omega
        have : i ∈ Region.ready .any l.toArray listed := by
          refine mem_ready.2 ⟨by rw [hgd i hil]; exact hun, l[i], by simp [hil], fun e he hb => hbefore _ (c.ed i _ _ (List.getElem?_eq_getElem hil) (edges_after he hb))⟩
        rw [hempty] at this
        cases this
      · obtain ⟨q1, o, q2, q3⟩ := mem_ready.1 hi
        have hoi : l[i]? = some o := by simpa using q2
        have hil := getElem?_lt hoi
        rw [hgd i hil] at q1
        have hed : ∀ e ∈ edges o, listed.getD e false = true := fun e he => by
          obtain ⟨ee, r1, r2, r3⟩ := edges_mem he
          rw [← r3]; exact q3 ee r1 r2
        have him : i < m := by
          rcases Nat.lt_or_ge i m with h1 | h1
          · exact h1
          · exfalso
            refine hall fun j hj => ?_
            have hcl := c.tl i j hil h1 (by omega)
            cases e : (clos l [])[i]? with
            | none => simp [List.getD, e] at hcl
            | some cc =>
              simp [List.getD, e] at hcl
              exact clos_ok l _ hpre.down l [] 0 rfl rfl (by simp) i o cc hoi e hed j hcl
        obtain ⟨G, s, h1, h2⟩ := hpre.sat
        have hot : (l.take m)[i]? = some o := by rw [List.getElem?_take, if_pos him]; exact hoi
        obtain ⟨ρi, u1, u2, u3⟩ := hrun.at c.nd i o hot
        have hdd : ∀ t, t ∈ tmpsOf o ++ gtmp l o → Ar G (lk t ρi) (a.tmps.getD t undef) := by
          intro t ht
          by_cases hw : ∃ (j : Nat) (oj : Oper), j < m ∧ l[j]? = some oj ∧ oj.dst = some t
          · obtain ⟨j, oj, hj, hoj, hdj⟩ := hw
            obtain ⟨hji, hje⟩ := c.rd i o t j oj him hoi ht hj hoj hdj
            have hdone : Done l m listed t := ⟨j, oj, hj, hoj, hdj, hed j hje⟩
            have : lk t ρ' = lk t ρi := u2 t fun hmem => dsts_split c.nd (i := i) (t := t) (mem_dsts.2 ⟨j, oj, by rw [List.getElem?_take, if_pos hji, List.getElem?_take, if_pos hj]; exact hoj, hdj⟩) hmem
            rw [← this]
            exact h1 t hdone
          · have hnd : ¬ Done l m listed t := fun ⟨j, oj, a1, a2, a3, _⟩ => hw ⟨j, oj, a1, a2, a3⟩
            have : lk t ρi = lk t ρ := u1 t fun hmem => by
              obtain ⟨j, oj, b1, b2⟩ := mem_dsts.1 hmem
              have hj := getElem?_lt b1
              rw [List.getElem?_take] at b1
              split at b1
              · rw [List.getElem?_take] at b1
                split at b1
                · exact hw ⟨j, oj, by omega, b1, b2⟩
                · cases b1
              · cases b1
            rw [this]
            exact h2 t hnd
        have hops : ∀ x ∈ o.op.operands.toList, Ar G (ev pm.Γ ρi x) (a.eval x) := by
          intro x hx
          cases x with
          | tmp t => exact hdd t (List.mem_append.2 (.inl (tmp_mem hx)))
          | const v => exact cAV_ok G v
          | global g => exact lkG_ok (cx := cx) _ (by rw [← hp]; exact s.glob)
          | func f => exact ⟨[], rfl, .nil⟩
        have hwant : ∀ b, wantedA l.toArray o ρi = some b → Region.wanted o (yielded l.toArray a.tmps) = b := fun b hb =>
          wanted_of hb fun j want d e1 e2 => by
            have hg : d ∈ gtmp l o := by
              unfold gtmp
              rw [e1]
              have : (l[j]?).bind (·.dst) = some d := by simpa using e2
              simp [this]
            exact ⟨by rw [hpre.N, hp]; exact c.gN i o d hoi hg, hdd d (List.mem_append.2 (.inr hg))⟩
        -- what holds behind it
        have hstep : ∀ (v : Value) (w' : World) (G' : Gh) (r : AV), GLe G.g.length G G' → SatH cx G' h w' → Ar G' r v → (∀ d, o.dst = some d → lk d ρ' = r) →
            wpAny P .any l.toArray Q fuel (listed.setIfInBounds i true) (a.put o.dst v) w' := by
          intro v w' G' r hG s' hr hlk
          refine ih _ _ _ (by have := count_set hpre.size hil q1; omega) ⟨⟨G', s', fun t ht => ?_, fun t ht => ?_⟩, ?_, ?_, by simpa using hpre.size, fun k hk hkl => ?_, fun k ok hk hD e he => ?_⟩
          · by_cases hdt : o.dst = some t
            · rw [hlk t hdt, hdt]
              have hlt : t < a.tmps.size := by rw [hpre.N, hp]; exact c.dN i o t hoi hdt
              have : ((a.put (some t) v).tmps).getD t undef = v := by simp [Act.put, Array.getD, hlt]
              rw [this]; exact hr
            · have hd' : Done l m listed t := by
                obtain ⟨j, oj, b1, b2, b3, b4⟩ := ht
                have hji : i ≠ j := fun e => by
                  subst e
                  rw [hoi] at b2
                  cases b2
                  exact hdt b3
                exact ⟨j, oj, b1, b2, b3, by rwa [getD_set_ne false hji] at b4⟩
              rw [put_other hdt]
              exact (h1 t hd').grow hG
          · have hdt : o.dst ≠ some t := fun e => ht ⟨i, o, him, hoi, e, by simp [Array.getD, hpre.size, hil]⟩
            have hd' : ¬ Done l m listed t := fun ⟨j, oj, b1, b2, b3, b4⟩ => ht ⟨j, oj, b1, b2, b3, getD_set_true b4⟩
            rw [put_other hdt]
            exact (h2 t hd').grow hG
          · cases o.dst <;> simp [Act.put, hpre.N]
          · cases o.dst <;> simp [Act.put, hpre.defers]
          · rw [getD_set_ne false (by omega)]
            exact hpre.none k hk hkl
          · by_cases hki : i = k
            · subst hki
              rw [hoi] at hk
              cases hk
              exact getD_set_true (hed e he)
            · have hD' : (listed.setIfInBounds i true).getD k false = true := hD
              rw [getD_set_ne false hki] at hD'
              exact getD_set_true (hpre.down k ok hk hD' e he)
        unfold wpOp
        simp only [q2]
        rcases u3 with ⟨hw, r, hq, hlk⟩ | ⟨hw, hlk⟩
        · rw [if_pos (hwant true hw)]
          exact .inl (hq cx G w a hp s hops _ _ fun v w' G' hG s' hr => hstep v w' G' r hG s' hr hlk)
        · rw [if_neg (by rw [hwant false hw]; simp)]
          exact hstep undef w G U (.refl _ _) s U_ok hlk
theorem AXc.draw {id : Nat} {st : St} {Q : Exit → St → Prop} (hm : P.follows .mixedOrders = true) (m : Nat) (hok : drawOk l m pm.N = true)
    (hh : AXd P pm st.heap l.toArray (l.take m) st.env fun ρ' => AXl P pm l.toArray (l.drop m) ⟨ρ', st.heap⟩ (Q .normal)) : AXc P pm (.region id l.toArray true) st Q := by
  intro cx G a w hp s
  have c := drawOk_spec hok
  obtain ⟨ρ', hrun, htail⟩ := hh
  refine wp2_region_any hm ?_
  have s' : SatH cx G st.heap { w with drawn := w.drawn + 1 } := s.h.later ((Below.refl _ w).drew)
  refine pre_any (Q := Post cx Q) c hp hrun (fun G a w sat => htail cx G a w _ hp sat fun G' st' _ _ s' k => ⟨G', st', s', k⟩) _ _ a _ ?_ ⟨⟨G, s', fun t ht => ?_, fun t _ => s.ev (.tmp t)⟩, s.N, s.defers, by simp, fun i _ hil => by simp [Array.getD, hil], fun i o hi hD => ?_⟩
  · have : ∀ n k, n ≤ k → ((List.range n).countP fun j => !(Array.replicate k false).getD j false) = n := by
      intro n k hnk
      have : ((List.range n).countP fun j => !(Array.replicate k false).getD j false) = (List.range n).countP fun _ => true := by
        apply List.countP_congr
        intro j hj
        rw [List.mem_range] at hj
        simp [Array.getD, show j < k by omega]
      rw [this]; simp
    simpa using this l.length l.length (Nat.le_refl _)
  · obtain ⟨j, oj, b1, b2, b3, b4⟩ := ht
    exfalso
    have hj := getElem?_lt b2
    simp [Array.getD, hj] at b4
  · exfalso
    have hj := getElem?_lt hi
    simp [Array.getD, hj] at hD
end
end Go.Ax

/-
  Small steps for walks that a program prints: exits, regions with what follows out of sight, ends. No condition.
-/
namespace Go.Ax
open Go Go.RowKit
variable {P : Program} {pm : Pm} {st : St} {K : St → Prop} {Q : Exit → St → Prop}
theorem Ethen.n (h : K st) : Ethen K Q .normal st := h
theorem Ethen.e {id : Nat} (h : Q (.exit id) st) : Ethen K Q (.exit id) st := h
theorem Ethen.r (h : Q .ret st) : Ethen K Q .ret st := h
theorem EinBlock.n {id : Nat} (h : Q .normal st) : EinBlock id Q .normal st := h
theorem EinBlock.r {id : Nat} (h : Q .ret st) : EinBlock id Q .ret st := h
theorem EinBlock.hit {id : Nat} (h : Q .normal st) : EinBlock id Q (.exit id) st := by simp only [EinBlock, if_true]; exact h
theorem Fin.ret {res : List ResultVar} {fr : Option Nat} {rs rs' : List RV} {αs : List AV} (h1 : resAVs P st res = some αs) (h2 : rvsOf fr st.heap αs = some rs') (he : rs' = rs) : Fin P res fr rs .ret st :=
  ⟨.inl rfl, αs, h1, by rw [h2, he]⟩
theorem Fin.norm {res : List ResultVar} {fr : Option Nat} {rs rs' : List RV} {αs : List AV} (h1 : resAVs P st res = some αs) (h2 : rvsOf fr st.heap αs = some rs') (he : rs' = rs) : Fin P res fr rs .normal st :=
  ⟨.inr rfl, αs, h1, by rw [h2, he]⟩
variable {ops : Array Oper} {rest : List Oper} {dst : Option Tmp} {ty : TypeId} {p : String} {af : Array Edge} {gd : Option (Nat × Bool)} {h : List LB} {ρ : Operand → AV}
theorem s_struct' (op : BinOp) (t t' : TypeId) (x y : Operand) {tags : List Nat} {cs ds : List C} {xs ys : List D} {b b' : Bool} (hT : EqT P t tags) (hx : ρ x = .agg cs) (hy : ρ y = .agg ds) (hcs : toDs cs = some xs) (hds : toDs ds = some ys) (ht : xs.map tagD = tags) (hb : eqDs xs ys = some b) (hb' : beqs op b = some b') :
    Still P h ⟨dst, .binOp op t x y t', ty, p, af, gd⟩ ρ (.c (.d (.bool b'))) :=
  s_struct op t t' x y hT (by rw [hx, toDs_ok _ _ hcs]) (by rw [hy, toDs_ok _ _ hds]) ht hb hb'
theorem AXl.append_nil {t : TypeId} {k : Nat} {y : Operand} {te : TypeId} {sz by_ : Nat} {news : List (List D)} (ht : apT P t = some (te, sz, by_)) (hx : lk k st.env = .c (.d (.raw (.slice none 0 0)))) (hky : y ≠ .tmp k)
    (hy : elsOfN sz st.heap (ev pm.Γ st.env y) = some (sz, news)) (hb : news.length * by_ ≤ 140737488355328) (hm : news.length ≤ 4294967296) (hd : dstOk pm.N dst)
    (hk : AXl P pm ops rest (St.put ⟨pute k (.c (.own st.heap.length 0)) st.env, st.heap ++ [.row te sz news 1]⟩ dst (.c (.own st.heap.length 1))) K) :
    AXl P pm ops (⟨dst, .call { callee := .builtin .append, args := #[.tmp k, y], argTypes := #[t, t] }, ty, p, af, none⟩ :: rest) st K := by
  refine AXl.nilrow k te sz hx ?_
  have hev : ev pm.Γ (pute k (AV.c (.own st.heap.length 0)) st.env) y = ev pm.Γ st.env y := by
    cases y with
    | tmp t =>
      simp only [ev]
      rw [lk_put, if_neg (fun e => hky (by rw [e]))]
    | _ => rfl
  have hels0 : ∀ α, elsOf st.heap α = some (sz, news) → elsOf (st.heap ++ [.row te sz [] 0]) α = some (sz, news) := by
    intro α hα
    unfold elsOf at hα ⊢
    have hpre : ∀ (i : Nat) (b : LB), st.heap[i]? = some b → (st.heap ++ [LB.row te sz [] 0])[i]? = some b := fun i b hi => by
      rw [List.getElem?_append_left (getElem?_lt hi)]; exact hi
    split at hα
    · exact hα
    · exact hα
    · split at hα
      · next hi => simp only [hpre _ _ hi]; exact hα
      · cases hα
    · split at hα
      · next hi => simp only [hpre _ _ hi]; exact hα
      · cases hα
    · cases hα
  have hels : ∀ α, elsOfN sz st.heap α = some (sz, news) → elsOfN sz (st.heap ++ [.row te sz [] 0]) α = some (sz, news) := by
    intro α hα
    unfold elsOfN at hα ⊢
    split at hα
    · exact hα
    · exact hels0 _ hα
  refine AXl.append (i := st.heap.length) (ver := 0) (els := []) ht (by simp [ev, lk_put]) (by simp) (by rw [hev]; exact hels _ hy) (by simpa using hb) (by simpa using hm) hd ?_
  have e : (st.heap ++ [LB.row te sz [] 0]).set st.heap.length (.row te sz ([] ++ news) (0 + 1)) = st.heap ++ [.row te sz news 1] := by simp
  simp only [e]
  exact hk
end Go.Ax
