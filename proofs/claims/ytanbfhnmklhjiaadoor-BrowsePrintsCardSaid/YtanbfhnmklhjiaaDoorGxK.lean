/- Part of a proof about this program; no condition of its own. -/
import Derived.Test.YtanbfhnmklhjiaaDoorGxD
set_option linter.all false
/- A region of which the first operations only read, in whatever order, before all the others; the others by the sets of those that have come up. No condition. -/
namespace Go.Ax
open Go Go.RowKit
variable {P : Program} {pm : Pm} {st : St} {h : List LB}
/-- What the walk leans on; to be decided of the region's text. -/
def preOk (l : List Oper) (m N : Nat) : Bool :=
  let pre := l.take m
  let cl := clos l []
  decide (m ≤ l.length) && decide (dsts pre).Nodup && (l.all fun o => match o.dst with | some d => decide (d < N) | none => true) && (l.all fun o => (gtmp l o).all fun d => decide (d < N)) &&
  ((List.range l.length).all fun i => match l[i]? with
    | some o => (edges o).all fun e => decide (e < i)
    | none => true) &&
  ((List.range m).all fun i => match l[i]? with
    | some o => (tmpsOf o ++ gtmp l o).all fun t => (List.range m).all fun j => match l[j]? with
      | some oj => if oj.dst = some t then decide (j < i) && (edges o).contains j else true
      | none => true
    | none => true) &&
  ((List.range l.length).all fun i => decide (i < m) || ((List.range m).all fun j => (cl.getD i []).contains j))

structure PreOk (l : List Oper) (m N : Nat) : Prop where
  le : m ≤ l.length
  nd : (dsts (l.take m)).Nodup
  dN : ∀ (i : Nat) (o : Oper) (d : Nat), l[i]? = some o → o.dst = some d → d < N
  gN : ∀ (i : Nat) (o : Oper) (d : Nat), l[i]? = some o → d ∈ gtmp l o → d < N
  ed : ∀ (i : Nat) (o : Oper) (e : Nat), l[i]? = some o → e ∈ edges o → e < i
  rd : ∀ (i : Nat) (o : Oper) (t j : Nat) (oj : Oper), i < m → l[i]? = some o → t ∈ tmpsOf o ++ gtmp l o → j < m → l[j]? = some oj → oj.dst = some t → j < i ∧ j ∈ edges o
  tl : ∀ (i j : Nat), i < l.length → m ≤ i → j < m → j ∈ (clos l []).getD i []
theorem preOk_spec {l : List Oper} {m N : Nat} (hh : preOk l m N = true) : PreOk l m N := by
  unfold preOk at hh
  simp only [Bool.and_eq_true, decide_eq_true_eq, List.all_eq_true, List.mem_range, Bool.or_eq_true] at hh
  obtain ⟨⟨⟨⟨⟨⟨h1, h2⟩, h3⟩, h4⟩, h5⟩, h6⟩, h7⟩ := hh
  refine ⟨h1, h2, fun i o d hi hd => ?_, fun i o d hi hd => ?_, fun i o e hi he => ?_, fun i o t j oj hi ho ht hj hoj hd => ?_, fun i j hi hm hj => ?_⟩
  · have := h3 o (List.mem_of_getElem? hi)
    rw [hd] at this
    exact of_decide_eq_true this
  · exact h4 o (List.mem_of_getElem? hi) d hd
  · have := h5 i (getElem?_lt hi)
    rw [hi] at this
    simp only [List.all_eq_true, decide_eq_true_eq] at this
    exact this e he
  · have := h6 i hi
    rw [ho] at this
    simp only [List.all_eq_true, List.mem_range] at this
    have := this t ht j hj
    rw [hoj] at this
    simp only [hd, if_true, Bool.and_eq_true, decide_eq_true_eq, List.contains_eq_mem] at this
    exact this
  · have := h7 i hi
    rcases this with h | h
    · omega
    · have := h j hj
      simpa using this

section
variable {l : List Oper} {m : Nat} {Q : Exit → Act → World → Prop}
theorem pre_any2 (c : PreOk l m pm.N) {cx : Cx} (hp : cx.pm = pm) {ρ ρ' : Env} (hrun : Run P pm h l.toArray (l.take m) ρ ρ') (htail : ∀ G a w, Sat cx G ⟨ρ', h⟩ a w → ∀ listed : Array Bool, listed.size = l.length → (∀ j, j < l.length → listed.getD j false = decide (j < m)) → wpAny P .any l.toArray Q (l.length - m) listed a w) :
    ∀ (fuel : Nat) (listed : Array Bool) (a : Act) (w : World), ((List.range l.length).countP fun j => !listed.getD j false) = fuel → Pre cx h l m ρ ρ' listed a w → wpAny P .any l.toArray Q fuel listed a w := by
  intro fuel
  induction fuel with
  | zero =>
    intro listed a w hc hpre
    have hall := unl_pos (Nat.le_refl _) hc
    have hml : m = l.length := by
      rcases Nat.lt_or_ge m l.length with h1 | h1
      · have := hpre.none m (Nat.le_refl _) h1
        rw [hall m h1] at this; cases this
      · have := c.le; omega
    obtain ⟨G, s, h1, h2⟩ := hpre.sat
    have := htail G a w (pre_sat hrun hpre s h1 h2 fun i hi => hall i (by omega)) listed hpre.size (fun j hj => by rw [hall j hj]; simp; omega)
    rw [hml, Nat.sub_self] at this
    exact this
  | succ fuel ih =>
    intro listed a w hc hpre
    have hgd : ∀ j, j < l.length → ∀ d, listed.getD j d = listed.getD j false := fun j hj d => by simp [Array.getD, hpre.size, hj]
    by_cases hall : ∀ i, i < m → listed.getD i false = true
    · -- all that may come up in any order has come up
      have hlist : ∀ j, j < l.length → listed.getD j false = decide (j < m) := fun j hj => by
        by_cases hjm : j < m
        · rw [hall j hjm]; simp [hjm]
        · rw [hpre.none j (by omega) hj]; simp [hjm]
      have hcount : ((List.range l.length).countP fun j => !listed.getD j false) = l.length - m := by
        have h1 : ((List.range l.length).countP fun j => !listed.getD j false) = (List.range l.length).countP fun j => decide (m ≤ j) := by
          apply List.countP_congr
          intro j hj
          rw [List.mem_range] at hj
          rw [hlist j hj]
          simp
        rw [h1]
        have h2 : ∀ n, ((List.range n).countP fun j => decide (m ≤ j)) = n - m := by
          intro n
          induction n with
          | zero => simp
          | succ n ih =>
            rw [List.range_succ, List.countP_append, ih, List.countP_singleton]
            by_cases h : m ≤ n
            · simp [h]; omega
            · simp [h]; omega
        exact h2 _
      have hml := c.le
      obtain ⟨G, s, h1, h2⟩ := hpre.sat
      have := htail G a w (pre_sat hrun hpre s h1 h2 hall) listed hpre.size hlist
      rw [← hcount, hc] at this
      exact this
    · refine ⟨fun hempty => ?_, fun i hi => ?_⟩
      · -- the first that has not come up may come up
        exfalso
        have hex : ∃ i, i < m ∧ listed.getD i false = false := by
          false_or_by_contra
          rename_i hno
          refine hall fun i hi => ?_
          cases e : listed.getD i false with
          | true => rfl
          | false => exact absurd ⟨i, hi, e⟩ hno
        have hmin : ∃ i, (i < m ∧ listed.getD i false = false) ∧ ∀ j, j < i → listed.getD j false = true := by
          obtain ⟨i, hi⟩ := hex
          induction i using Nat.strongRecOn with
          | _ i ih =>
            by_cases hj : ∃ j, j < i ∧ listed.getD j false = false
            · obtain ⟨j, h1, h2⟩ := hj
              exact ih j h1 ⟨by omega, h2⟩
            · refine ⟨i, hi, fun j hji => ?_⟩
              cases e : listed.getD j false with
              | true => rfl
              | false => exact absurd ⟨j, hji, e⟩ hj
        obtain ⟨i, ⟨him, hun⟩, hbefore⟩ := hmin
        have hml := c.le
        have hil : i < l.length := by omega
        have : i ∈ Region.ready .any l.toArray listed := by
          refine mem_ready.2 ⟨by rw [hgd i hil]; exact hun, l[i], by simp [hil], fun e he hb => hbefore _ (c.ed i _ _ (List.getElem?_eq_getElem hil) (edges_after he hb))⟩
        rw [hempty] at this
        cases this
      · obtain ⟨q1, o, q2, q3⟩ := mem_ready.1 hi
        have hoi : l[i]? = some o := by simpa using q2
        have hil := getElem?_lt hoi
        rw [hgd i hil] at q1
        have hed : ∀ e ∈ edges o, listed.getD e false = true := fun e he => by
          obtain ⟨ee, r1, r2, r3⟩ := edges_mem he
          rw [← r3]; exact q3 ee r1 r2
        have him : i < m := by
          rcases Nat.lt_or_ge i m with h1 | h1
          · exact h1
          · exfalso
            refine hall fun j hj => ?_
            have hcl := c.tl i j hil h1 (by omega)
            cases e : (clos l [])[i]? with
            | none => simp [List.getD, e] at hcl
            | some cc =>
              simp [List.getD, e] at hcl
              exact clos_ok l _ hpre.down l [] 0 rfl rfl (by simp) i o cc hoi e hed j hcl
        obtain ⟨G, s, h1, h2⟩ := hpre.sat
        have hot : (l.take m)[i]? = some o := by rw [List.getElem?_take, if_pos him]; exact hoi
        obtain ⟨ρi, u1, u2, u3⟩ := hrun.at c.nd i o hot
        have hdd : ∀ t, t ∈ tmpsOf o ++ gtmp l o → Ar G (lk t ρi) (a.tmps.getD t undef) := by
          intro t ht
          by_cases hw : ∃ (j : Nat) (oj : Oper), j < m ∧ l[j]? = some oj ∧ oj.dst = some t
          · obtain ⟨j, oj, hj, hoj, hdj⟩ := hw
            obtain ⟨hji, hje⟩ := c.rd i o t j oj him hoi ht hj hoj hdj
            have hdone : Done l m listed t := ⟨j, oj, hj, hoj, hdj, hed j hje⟩
            have : lk t ρ' = lk t ρi := u2 t fun hmem => dsts_split c.nd (i := i) (t := t) (mem_dsts.2 ⟨j, oj, by rw [List.getElem?_take, if_pos hji, List.getElem?_take, if_pos hj]; exact hoj, hdj⟩) hmem
            rw [← this]
            exact h1 t hdone
          · have hnd : ¬ Done l m listed t := fun ⟨j, oj, a1, a2, a3, _⟩ => hw ⟨j, oj, a1, a2, a3⟩
            have : lk t ρi = lk t ρ := u1 t fun hmem => by
              obtain ⟨j, oj, b1, b2⟩ := mem_dsts.1 hmem
              have hj := getElem?_lt b1
              rw [List.getElem?_take] at b1
              split at b1
              · rw [List.getElem?_take] at b1
                split at b1
                · exact hw ⟨j, oj, by omega, b1, b2⟩
                · cases b1
              · cases b1
            rw [this]
            exact h2 t hnd
        have hops : ∀ x ∈ o.op.operands.toList, Ar G (ev pm.Γ ρi x) (a.eval x) := by
          intro x hx
          cases x with
          | tmp t => exact hdd t (List.mem_append.2 (.inl (tmp_mem hx)))
          | const v => exact cAV_ok G v
          | global g => exact lkG_ok (cx := cx) _ (by rw [← hp]; exact s.glob)
          | func f => exact ⟨[], rfl, .nil⟩
        have hwant : ∀ b, wantedA l.toArray o ρi = some b → Region.wanted o (yielded l.toArray a.tmps) = b := fun b hb =>
          wanted_of hb fun j want d e1 e2 => by
            have hg : d ∈ gtmp l o := by
              unfold gtmp
              rw [e1]
              have : (l[j]?).bind (·.dst) = some d := by simpa using e2
              simp [this]
            exact ⟨by rw [hpre.N, hp]; exact c.gN i o d hoi hg, hdd d (List.mem_append.2 (.inr hg))⟩
        -- what holds behind it
        have hstep : ∀ (v : Value) (w' : World) (G' : Gh) (r : AV), GLe G.g.length G G' → SatH cx G' h w' → Ar G' r v → (∀ d, o.dst = some d → lk d ρ' = r) →
            wpAny P .any l.toArray Q fuel (listed.setIfInBounds i true) (a.put o.dst v) w' := by
          intro v w' G' r hG s' hr hlk
          refine ih _ _ _ (by have := count_set hpre.size hil q1; omega) ⟨⟨G', s', fun t ht => ?_, fun t ht => ?_⟩, ?_, ?_, by simpa using hpre.size, fun k hk hkl => ?_, fun k ok hk hD e he => ?_⟩
          · by_cases hdt : o.dst = some t
            · rw [hlk t hdt, hdt]
              have hlt : t < a.tmps.size := by rw [hpre.N, hp]; exact c.dN i o t hoi hdt
              have : ((a.put (some t) v).tmps).getD t undef = v := by simp [Act.put, Array.getD, hlt]
              rw [this]; exact hr
            · have hd' : Done l m listed t := by
                obtain ⟨j, oj, b1, b2, b3, b4⟩ := ht
                have hji : i ≠ j := fun e => by
                  subst e
                  rw [hoi] at b2
                  cases b2
                  exact hdt b3
                exact ⟨j, oj, b1, b2, b3, by rwa [getD_set_ne false hji] at b4⟩
              rw [put_other hdt]
              exact (h1 t hd').grow hG
          · have hdt : o.dst ≠ some t := fun e => ht ⟨i, o, him, hoi, e, by simp [Array.getD, hpre.size, hil]⟩
            have hd' : ¬ Done l m listed t := fun ⟨j, oj, b1, b2, b3, b4⟩ => ht ⟨j, oj, b1, b2, b3, getD_set_true b4⟩
            rw [put_other hdt]
            exact (h2 t hd').grow hG
          · cases o.dst <;> simp [Act.put, hpre.N]
          · cases o.dst <;> simp [Act.put, hpre.defers]
          · rw [getD_set_ne false (by omega)]
            exact hpre.none k hk hkl
          · by_cases hki : i = k
            · subst hki
              rw [hoi] at hk
              cases hk
              exact getD_set_true (hed e he)
            · have hD' : (listed.setIfInBounds i true).getD k false = true := hD
              rw [getD_set_ne false hki] at hD'
              exact getD_set_true (hpre.down k ok hk hD' e he)
        unfold wpOp
        simp only [q2]
        rcases u3 with ⟨hw, r, hq, hlk⟩ | ⟨hw, hlk⟩
        · rw [if_pos (hwant true hw)]
          exact .inl (hq cx G w a hp s hops _ _ fun v w' G' hG s' hr => hstep v w' G' r hG s' hr hlk)
        · rw [if_neg (by rw [hwant false hw]; simp)]
          exact hstep undef w G U (.refl _ _) s U_ok hlk


end
def startL (m n : Nat) : List Bool := List.replicate m true ++ List.replicate (n - m) false
theorem while_all {α : Type} (p : α → Bool) : ∀ (l : List α), l.all p = true → l.takeWhile p = l ∧ l.dropWhile p = []
  | [], _ => ⟨rfl, rfl⟩
  | a :: r, h => by
    simp only [List.all_cons, Bool.and_eq_true] at h
    obtain ⟨h1, h2⟩ := while_all p r h.2
    exact ⟨by rw [List.takeWhile_cons_of_pos h.1, h1], by rw [List.dropWhile_cons_of_pos h.1, h2]⟩
/-- The rest of a region, left to the reader. -/
def RegS (P : Program) (pm : Pm) (l : List Oper) (m : Nat) (st : St) (Q : Exit → St → Prop) (_ : Tok Q) : Prop :=
  opsOk l pm.N = true → ∀ cx G a w, cx.pm = pm → Sat cx G st a w → wpAny P .any l.toArray (Post cx Q) (l.length - m) (startL m l.length).toArray a w
theorem RegV.pre {E : List Nat} {id : Nat} {l : List Oper} {ρ : Env} {h : List LB} {Q : Exit → St → Prop} {tk : Tok Q} (hm : P.follows .mixedOrders = true) (m : Nat) (hc : preOk l m pm.N = true) (hpu : (l.take m).all (pureO E) = true)
    (hh : ap (vcd P pm E l h (l.take m) ρ) (fun st' => RegS P pm l m st' Q tk) ⟨⟩) : RegV P pm id l ⟨ρ, h⟩ Q tk := by
  intro hok cx G a w hp s
  have c := preOk_spec hc
  have h1 := vcd_ok (P := P) (pm := pm) (E := E) (l := l) (h := h) hok (l.take m) (fun o ho => List.mem_of_mem_take ho) ρ _ hh
  obtain ⟨e1, e2⟩ := while_all _ _ hpu
  rw [e1, e2] at h1
  obtain ⟨ρ', hrun, htail⟩ := h1
  refine wp2_region_any hm ?_
  have s' : SatH cx G h { w with drawn := w.drawn + 1 } := s.h.later ((Below.refl _ w).drew)
  refine pre_any2 (Q := Post cx Q) c hp hrun (fun G a w sat listed hs hl => ?_) _ _ a _ ?_ ⟨⟨G, s', fun t ht => ?_, fun t _ => s.ev (.tmp t)⟩, s.N, s.defers, by simp, fun i _ hil => by simp [Array.getD, hil], fun i o hi hD => ?_⟩
  · have e : listed = (startL m l.length).toArray := by
      have hml := c.le
      refine Array.ext (by simp [startL, hs]; omega) fun j h1 h2 => ?_
      have h3 := hl j (by omega)
      simp only [Array.getD, h1, dif_pos] at h3
      rw [show listed[j] = decide (j < m) from h3]
      simp only [startL, List.getElem_toArray, List.getElem_append, List.length_replicate, List.getElem_replicate]
      by_cases hj : j < m <;> simp [hj]
    rw [e]
    exact htail cx G a w (fun _ a w => wpAny P .any l.toArray (Post cx Q) (l.length - m) (startL m l.length).toArray a w) hp sat fun G' st' a' w' s' hk => hk hok cx G' a' w' hp s'
  · have : ∀ n k, n ≤ k → ((List.range n).countP fun j => !(Array.replicate k false).getD j false) = n := by
      intro n k hnk
      have : ((List.range n).countP fun j => !(Array.replicate k false).getD j false) = (List.range n).countP fun _ => true := by
        apply List.countP_congr
        intro j hj
        rw [List.mem_range] at hj
        simp [Array.getD, show j < k by omega]
      rw [this]; simp
    simpa using this l.length l.length (Nat.le_refl _)
  · obtain ⟨j, oj, b1, b2, b3, b4⟩ := ht
    exfalso
    have hj := getElem?_lt b2
    simp [Array.getD, hj] at b4
  · exfalso
    have hj := getElem?_lt hi
    simp [Array.getD, hj] at hD
section
variable {E : List Nat} {l : List Oper} {e0 : Env} {h0 : List LB} {vals : List (Option (Nat × AV))} {heaps : List (Option (List LB))}
/-- The rest of a region by a table: the sets of operations that have come up, with those that may come up next. -/
theorem RegS.tab {m : Nat} {Q : Exit → St → Prop} {tk : Tok Q} (tab : List (List Bool × List Nat)) (vals : List (Option (Nat × AV))) (heaps : List (Option (List LB))) (hc : tabOk l tab = true) (hz : tab.any (fun x => x.1 == startL m l.length) = true)
    (hs : tst e0 h0 vals heaps (startL m l.length) = ⟨e0, h0⟩) (ho : oblT P pm E l e0 h0 vals heaps tab) (hK : Q .normal (tst e0 h0 vals heaps (List.replicate l.length true))) : RegS P pm l m ⟨e0, h0⟩ Q tk := by
  intro hok cx G a w hp s
  have hc' := List.all_eq_true.1 hc
  have hcount : (startL m l.length).count false = l.length - m := by
    simp [startL, List.count_append, List.count_replicate]
  refine set_ok (P := P) (E := E) (Q := Post cx Q) (J := fun L st => (∃ is, (L, is) ∈ tab) ∧ st = tst e0 h0 vals heaps L) hok hp (fun L st hj => ?_) (fun L st hj i hi => ?_) (fun L st hj hr G a w s => ⟨G, st, s, ?_⟩) (l.length - m) (startL m l.length) ⟨e0, h0⟩ ⟨?_, hs.symm⟩ hcount G a w s
  · obtain ⟨⟨is, hx⟩, _⟩ := hj
    have := hc' _ hx
    simp only [Bool.and_eq_true, decide_eq_true_eq] at this
    exact this.1.1.1
  · obtain ⟨⟨is, hx⟩, rfl⟩ := hj
    have := hc' _ hx
    simp only [Bool.and_eq_true, decide_eq_true_eq, beq_iff_eq] at this
    obtain ⟨⟨⟨q1, q2⟩, q3⟩, _⟩ := this
    rw [q2] at hi
    have hob := oblL_at L is (oblT_at tab ho _ hx) i hi
    obtain ⟨y, hy, he⟩ := List.any_eq_true.1 (List.all_eq_true.1 q3 i hi)
    have hy2 : y.1 = L.set i true := by simpa using he
    have hmem : ∃ is', (L.set i true, is') ∈ tab := ⟨y.2, by rw [← hy2]; exact hy⟩
    cases hl : l[i]? with
    | none => rw [hl] at hob; exact hob.elim
    | some o =>
      rw [hl] at hob
      refine ⟨o, rfl, ?_⟩
      have e1 : (fun st' : St => (∃ is', (L.set i true, is') ∈ tab) ∧ st' = tst e0 h0 vals heaps (L.set i true)) = fun st' => EqSt st' (tst e0 h0 vals heaps (L.set i true)) := by
        funext st'
        exact propext ⟨fun h => h.2, fun h => ⟨hmem, h⟩⟩
      show ap2 (vgd l o.guard (tst e0 h0 vals heaps L)) (fun st => vrun P pm E o st fun st' => (∃ is', (L.set i true, is') ∈ tab) ∧ st' = tst e0 h0 vals heaps (L.set i true)) (fun st => (∃ is', (L.set i true, is') ∈ tab) ∧ st.put o.dst U = tst e0 h0 vals heaps (L.set i true)) ⟨⟩ ⟨⟩
      have e2 : (fun st : St => (∃ is', (L.set i true, is') ∈ tab) ∧ st.put o.dst U = tst e0 h0 vals heaps (L.set i true)) = fun st => EqSt (st.put o.dst U) (tst e0 h0 vals heaps (L.set i true)) := by
        funext st
        exact propext ⟨fun h => h.2, fun h => ⟨hmem, h⟩⟩
      rw [e1, e2]
      exact hob
  · obtain ⟨⟨is, hx⟩, rfl⟩ := hj
    have := hc' _ hx
    simp only [Bool.and_eq_true, decide_eq_true_eq, beq_iff_eq, Bool.or_eq_true, bne_iff_ne] at this
    obtain ⟨⟨⟨q1, q2⟩, _⟩, q4⟩ := this
    have hall : L = List.replicate l.length true := by
      rcases q4 with q4 | q4
      · exact absurd (q2.symm.trans hr) q4
      · rw [← q1]
        refine List.eq_replicate_iff.2 ⟨rfl, fun b hb => ?_⟩
        exact (List.all_eq_true.1 q4 b hb)
    rw [← hall] at hK
    exact hK
  · obtain ⟨x, hx, he⟩ := List.any_eq_true.1 hz
    have : x.1 = startL m l.length := by simpa using he
    exact ⟨x.2, by rw [← this]; exact hx⟩
end
end Go.Ax

/- A region of which the first operations only read, in whatever order, while some others make boxes, at any time; the rest comes behind all that read. No condition. -/
namespace Go.Ax
open Go Go.RowKit
variable {P : Program} {pm : Pm} {st : St} {h : List LB}
/-- An operation that makes a box: its number, its slot, its type and what the box holds. -/
structure AlO where
  i : Nat
  d : Nat
  t : TypeId
  zc : List C
def AlO.lb (x : AlO) : LB := .box x.t x.zc
def isAl (o : Oper) (d : Nat) (t : TypeId) : Bool := match o with
  | ⟨some d', .alloc t', _, _, _, none⟩ => decide (d' = d) && decide (t' = t)
  | _ => false
theorem isAl_spec {o : Oper} {d : Nat} {t : TypeId} (h : isAl o d t = true) : ∃ ty p af, o = ⟨some d, .alloc t, ty, p, af, none⟩ := by
  unfold isAl at h
  split at h
  · rw [Bool.and_eq_true, decide_eq_true_eq, decide_eq_true_eq] at h
    obtain ⟨rfl, rfl⟩ := h
    exact ⟨_, _, _, rfl⟩
  · cases h
def alOkB (l : List Oper) (m N : Nat) (x : Nat × Nat × TypeId) : Bool :=
  decide (m ≤ x.1) && decide (x.2.1 < N) && (match l[x.1]? with | some o => isAl o x.2.1 x.2.2 | none => false) && !(dsts (l.take m)).contains x.2.1 && (l.take m).all fun o => !(tmpsOf o ++ gtmp l o).contains x.2.1
/-- What the walk leans on; to be decided of the region's text. -/
def preOkA (l : List Oper) (m N : Nat) (As : List (Nat × Nat × TypeId)) : Bool :=
  let pre := l.take m
  let cl := clos l []
  decide (m ≤ l.length) && decide (dsts pre).Nodup && (l.all fun o => match o.dst with | some d => decide (d < N) | none => true) && (l.all fun o => (gtmp l o).all fun d => decide (d < N)) &&
  ((List.range l.length).all fun i => match l[i]? with
    | some o => (edges o).all fun e => decide (e < i)
    | none => true) &&
  ((List.range m).all fun i => match l[i]? with
    | some o => (tmpsOf o ++ gtmp l o).all fun t => (List.range m).all fun j => match l[j]? with
      | some oj => if oj.dst = some t then decide (j < i) && (edges o).contains j else true
      | none => true
    | none => true) &&
  ((List.range l.length).all fun i => decide (i < m) || (As.any fun x => x.1 == i) || ((List.range m).all fun j => (cl.getD i []).contains j)) &&
  (As.all (alOkB l m N)) && decide (As.map (·.2.1)).Nodup && decide (As.map (·.1)).Nodup
structure PreOkA (l : List Oper) (m N : Nat) (As : List AlO) : Prop where
  le : m ≤ l.length
  nd : (dsts (l.take m)).Nodup
  dN : ∀ (i : Nat) (o : Oper) (d : Nat), l[i]? = some o → o.dst = some d → d < N
  gN : ∀ (i : Nat) (o : Oper) (d : Nat), l[i]? = some o → d ∈ gtmp l o → d < N
  ed : ∀ (i : Nat) (o : Oper) (e : Nat), l[i]? = some o → e ∈ edges o → e < i
  rd : ∀ (i : Nat) (o : Oper) (t j : Nat) (oj : Oper), i < m → l[i]? = some o → t ∈ tmpsOf o ++ gtmp l o → j < m → l[j]? = some oj → oj.dst = some t → j < i ∧ j ∈ edges o
  tl : ∀ (i j : Nat), i < l.length → m ≤ i → j < m → (∃ x ∈ As, x.i = i) ∨ j ∈ (clos l []).getD i []
  am : ∀ x ∈ As, m ≤ x.i ∧ x.d < N ∧ (∃ ty p af, l[x.i]? = some ⟨some x.d, .alloc x.t, ty, p, af, none⟩) ∧ x.d ∉ dsts (l.take m) ∧ ∀ o ∈ l.take m, x.d ∉ tmpsOf o ++ gtmp l o
  ad : ∀ x ∈ As, ∀ y ∈ As, x.d = y.d → x = y
  ai : ∀ x ∈ As, ∀ y ∈ As, x.i = y.i → x = y
theorem nodup_map_inj {α β : Type} {f : α → β} : ∀ {l : List α}, (l.map f).Nodup → ∀ x ∈ l, ∀ y ∈ l, f x = f y → x = y
  | [], _, x, hx, _, _, _ => (List.not_mem_nil hx).elim
  | a :: l, h, x, hx, y, hy, e => by
    rw [List.map_cons, List.nodup_cons] at h
    rcases List.mem_cons.1 hx with h1 | h1 <;> rcases List.mem_cons.1 hy with h2 | h2
    · rw [h1, h2]
    · rw [h1] at e; exact absurd (List.mem_map.2 ⟨y, h2, e.symm⟩) h.1
    · rw [h2] at e; exact absurd (List.mem_map.2 ⟨x, h1, e⟩) h.1
    · exact nodup_map_inj h.2 x h1 y h2 e
theorem preOkA_spec {l : List Oper} {m N : Nat} {As : List AlO} (hh : preOkA l m N (As.map fun x => (x.i, x.d, x.t)) = true) : PreOkA l m N As := by
  unfold preOkA at hh
  simp only [Bool.and_eq_true, decide_eq_true_eq, List.all_eq_true, List.mem_range, Bool.or_eq_true] at hh
  obtain ⟨⟨⟨⟨⟨⟨⟨⟨⟨h1, h2⟩, h3⟩, h4⟩, h5⟩, h6⟩, h7⟩, h8⟩, h9⟩, h10⟩ := hh
  rw [List.map_map] at h9 h10
  refine ⟨h1, h2, fun i o d hi hd => ?_, fun i o d hi hd => ?_, fun i o e hi he => ?_, fun i o t j oj hi ho ht hj hoj hd => ?_, fun i j hi hm hj => ?_, fun x hx => ?_, nodup_map_inj h9, nodup_map_inj h10⟩
  · have := h3 o (List.mem_of_getElem? hi)
    rw [hd] at this
    exact of_decide_eq_true this
  · exact h4 o (List.mem_of_getElem? hi) d hd
  · have := h5 i (getElem?_lt hi)
    rw [hi] at this
    simp only [List.all_eq_true, decide_eq_true_eq] at this
    exact this e he
  · have := h6 i hi
    rw [ho] at this
    simp only [List.all_eq_true, List.mem_range] at this
    have := this t ht j hj
    rw [hoj] at this
    simp only [hd, if_true, Bool.and_eq_true, decide_eq_true_eq, List.contains_eq_mem] at this
    exact this
  · have := h7 i hi
    rcases this with (h | h) | h
    · omega
    · obtain ⟨y, hy, he⟩ := List.any_eq_true.1 h
      obtain ⟨x, hx, rfl⟩ := List.mem_map.1 hy
      exact .inl ⟨x, hx, by simpa using he⟩
    · have := h j hj
      exact .inr (by simpa using this)
  · have := h8 _ (List.mem_map.2 ⟨x, hx, rfl⟩)
    unfold alOkB at this
    simp only [Bool.and_eq_true, decide_eq_true_eq, List.all_eq_true, Bool.not_eq_true'] at this
    obtain ⟨⟨⟨⟨q1, q2⟩, q3⟩, q4⟩, q5⟩ := this
    refine ⟨q1, q2, ?_, by simpa using q4, fun o ho => by have := q5 o ho; simpa using this⟩
    split at q3
    · next o ho =>
      obtain ⟨ty, p, af, rfl⟩ := isAl_spec q3
      exact ⟨ty, p, af, ho⟩
    · cases q3
/-- The slots of the boxes made so far. -/
def putA : Nat → List AlO → Env → Env
  | _, [], ρ => ρ
  | k, x :: r, ρ => putA (k + 1) r (pute x.d (.c (.loc k 0)) ρ)
theorem putA_out {t : Nat} : ∀ (σ : List AlO) (k : Nat) (ρ : Env), (∀ x ∈ σ, x.d ≠ t) → lk t (putA k σ ρ) = lk t ρ
  | [], _, _, _ => rfl
  | x :: r, k, ρ, h => by
    rw [putA, putA_out r _ _ fun y hy => h y (List.mem_cons_of_mem _ hy), lk_put, if_neg (h x (List.mem_cons_self ..))]
theorem putA_at : ∀ (σ : List AlO) (k : Nat) (ρ : Env) (j : Nat) (x : AlO), σ.Nodup → (∀ y ∈ σ, ∀ z ∈ σ, y.d = z.d → y = z) → σ[j]? = some x → lk x.d (putA k σ ρ) = .c (.loc (k + j) 0)
  | [], _, _, _, _, _, _, h => by simp at h
  | y :: r, k, ρ, 0, x, hn, hd, h => by
    simp at h
    subst h
    rw [putA, putA_out r _ _ (fun z hz e => ?_), lk_put, if_pos rfl]; rfl
    have := hd z (List.mem_cons_of_mem _ hz) y (List.mem_cons_self ..) e
    subst this
    exact (List.nodup_cons.1 hn).1 hz
  | y :: r, k, ρ, j + 1, x, hn, hd, h => by
    rw [putA, putA_at r (k + 1) _ j x (List.nodup_cons.1 hn).2 (fun a ha b hb => hd a (List.mem_cons_of_mem _ ha) b (List.mem_cons_of_mem _ hb)) (by simpa using h)]
    congr 2; omega
section
variable {l : List Oper} {m : Nat} {Q : Exit → Act → World → Prop} {As : List AlO}
structure PreA (cx : Cx) (h : List LB) (l : List Oper) (m : Nat) (As σ : List AlO) (ρ ρ' : Env) (listed : Array Bool) (a : Act) (w : World) : Prop where
  sat : ∃ G, SatH cx G (h ++ σ.map AlO.lb) w ∧ (∀ t, Done l m listed t → Ar G (lk t ρ') (a.tmps.getD t undef)) ∧ (∀ t, ¬ Done l m listed t → (∀ x ∈ σ, x.d ≠ t) → Ar G (lk t ρ) (a.tmps.getD t undef)) ∧
    ∀ j x, σ[j]? = some x → Ar G (.c (.loc (h.length + j) 0)) (a.tmps.getD x.d undef)
  N : a.tmps.size = cx.pm.N
  defers : a.defers = cx.df
  size : listed.size = l.length
  nd : σ.Nodup
  sub : ∀ x ∈ σ, x ∈ As
  none : ∀ i, m ≤ i → i < l.length → (listed.getD i false = true ↔ ∃ x ∈ σ, x.i = i)
  down : Down l (fun i => listed.getD i false = true)
theorem preA_sat (c : PreOkA l m pm.N As) {cx : Cx} {ρ ρ' : Env} {σ : List AlO} {listed : Array Bool} {a : Act} {w : World} (hrun : Run P pm (h ++ σ.map AlO.lb) l.toArray (l.take m) ρ ρ') (hpre : PreA cx h l m As σ ρ ρ' listed a w) {G : Gh} (s : SatH cx G (h ++ σ.map AlO.lb) w)
    (h1 : ∀ t, Done l m listed t → Ar G (lk t ρ') (a.tmps.getD t undef)) (h2 : ∀ t, ¬ Done l m listed t → (∀ x ∈ σ, x.d ≠ t) → Ar G (lk t ρ) (a.tmps.getD t undef)) (h3 : ∀ j x, σ[j]? = some x → Ar G (.c (.loc (h.length + j) 0)) (a.tmps.getD x.d undef)) (hall : ∀ i, i < m → listed.getD i false = true) : Sat cx G ⟨putA h.length σ ρ', h ++ σ.map AlO.lb⟩ a w := by
  refine ⟨s, fun t => ?_, hpre.N, hpre.defers⟩
  show Ar G (lk t (putA h.length σ ρ')) _
  by_cases hx : ∃ x ∈ σ, x.d = t
  · obtain ⟨x, hx, rfl⟩ := hx
    obtain ⟨j, hj⟩ := List.mem_iff_getElem?.1 hx
    rw [putA_at σ _ _ j x hpre.nd (fun y hy z hz => c.ad y (hpre.sub y hy) z (hpre.sub z hz)) hj]
    exact h3 j x hj
  · have hx' : ∀ x ∈ σ, x.d ≠ t := fun x h e => hx ⟨x, h, e⟩
    rw [putA_out σ _ _ hx']
    by_cases hd : t ∈ dsts (l.take m)
    · obtain ⟨i, o, b1, b2⟩ := mem_dsts.1 hd
      rw [List.getElem?_take] at b1
      split at b1
      · next him => exact h1 t ⟨i, o, him, b1, b2, hall i him⟩
      · cases b1
    · rw [hrun.out t hd]
      refine h2 t (fun ⟨i, o, a1, a2, a3, _⟩ => hd (mem_dsts.2 ⟨i, o, by rw [List.getElem?_take, if_pos a1]; exact a2, a3⟩)) hx'
theorem hlist0 (c : PreOkA l m pm.N As) {cx : Cx} {σ : List AlO} {ρ ρ' : Env} {listed : Array Bool} {a : Act} {w : World} (hpre : PreA cx h l m As σ ρ ρ' listed a w) (hall : ∀ i, i < m → listed.getD i false = true) :
    ∀ j, j < l.length → listed.getD j false = (decide (j < m) || σ.any fun x => x.i == j) := fun j hj => by
  by_cases hjm : j < m
  · rw [hall j hjm]; simp [hjm]
  · rw [decide_eq_false hjm, Bool.false_or]
    have := hpre.none j (by omega) hj
    cases e : listed.getD j false with
    | true =>
      obtain ⟨x, hx, e'⟩ := this.1 e
      exact (List.any_eq_true.2 ⟨x, hx, by simpa using e'⟩).symm
    | false =>
      cases e2 : σ.any fun x => x.i == j with
      | false => rfl
      | true =>
        obtain ⟨x, hx, e'⟩ := List.any_eq_true.1 e2
        rw [this.2 ⟨x, hx, by simpa using e'⟩] at e; cases e
theorem pre_anyA (c : PreOkA l m pm.N As) {cx : Cx} (hp : cx.pm = pm) {ρ ρ' : Env} (hz : ∀ x ∈ As, zeroC P x.t = some x.zc) (hrunA : ∀ hA, Run P pm (h ++ hA) l.toArray (l.take m) ρ ρ') (htail : ∀ σ, σ.Nodup → (∀ x ∈ σ, x ∈ As) → ∀ G a w, Sat cx G ⟨putA h.length σ ρ', h ++ σ.map AlO.lb⟩ a w → ∀ listed : Array Bool, listed.size = l.length → (∀ j, j < l.length → listed.getD j false = (decide (j < m) || σ.any fun x => x.i == j)) →
      wpAny P .any l.toArray Q ((List.range l.length).countP fun j => !listed.getD j false) listed a w) :
    ∀ (fuel : Nat) (listed : Array Bool) (a : Act) (w : World) (σ : List AlO), ((List.range l.length).countP fun j => !listed.getD j false) = fuel → PreA cx h l m As σ ρ ρ' listed a w → wpAny P .any l.toArray Q fuel listed a w := by
  intro fuel
  induction fuel with
  | zero =>
    intro listed a w σ hc hpre
    have hall := unl_pos (Nat.le_refl _) hc
    have hml := c.le
    obtain ⟨G, s, h1, h2, h3⟩ := hpre.sat
    have := htail σ hpre.nd hpre.sub G a w (preA_sat c (hrunA _) hpre s h1 h2 h3 fun i hi => hall i (by omega)) listed hpre.size (hlist0 c hpre fun i hi => hall i (by omega))
    rw [hc] at this
    exact this
  | succ fuel ih =>
    intro listed a w σ hc hpre
    have hgd : ∀ j, j < l.length → ∀ d, listed.getD j d = listed.getD j false := fun j hj d => by simp [Array.getD, hpre.size, hj]
    by_cases hall : ∀ i, i < m → listed.getD i false = true
    · -- all that may come up in any order has come up
      obtain ⟨G, s, h1, h2, h3⟩ := hpre.sat
      have := htail σ hpre.nd hpre.sub G a w (preA_sat c (hrunA _) hpre s h1 h2 h3 hall) listed hpre.size (hlist0 c hpre hall)
      rw [hc] at this
      exact this
    · refine ⟨fun hempty => ?_, fun i hi => ?_⟩
      · -- the first that has not come up may come up
        exfalso
        have hex : ∃ i, i < m ∧ listed.getD i false = false := by
          false_or_by_contra
          rename_i hno
          refine hall fun i hi => ?_
          cases e : listed.getD i false with
          | true => rfl
          | false => exact absurd ⟨i, hi, e⟩ hno
        have hmin : ∃ i, (i < m ∧ listed.getD i false = false) ∧ ∀ j, j < i → listed.getD j false = true := by
          obtain ⟨i, hi⟩ := hex
          induction i using Nat.strongRecOn with
          | _ i ih =>
            by_cases hj : ∃ j, j < i ∧ listed.getD j false = false
            · obtain ⟨j, h1, h2⟩ := hj
              exact ih j h1 ⟨by omega, h2⟩
            · refine ⟨i, hi, fun j hji => ?_⟩
              cases e : listed.getD j false with
              | true => rfl
              | false => exact absurd ⟨j, hji, e⟩ hj
        obtain ⟨i, ⟨him, hun⟩, hbefore⟩ := hmin
        have hml := c.le
        have hil : i < l.length := by omega
        have : i ∈ Region.ready .any l.toArray listed := by
          refine mem_ready.2 ⟨by rw [hgd i hil]; exact hun, l[i], by simp [hil], fun e he hb => hbefore _ (c.ed i _ _ (List.getElem?_eq_getElem hil) (edges_after he hb))⟩
        rw [hempty] at this
        cases this
      · obtain ⟨q1, o, q2, q3⟩ := mem_ready.1 hi
        have hoi : l[i]? = some o := by simpa using q2
        have hil := getElem?_lt hoi
        rw [hgd i hil] at q1
        have hed : ∀ e ∈ edges o, listed.getD e false = true := fun e he => by
          obtain ⟨ee, r1, r2, r3⟩ := edges_mem he
          rw [← r3]; exact q3 ee r1 r2
        obtain ⟨G, s, h1, h2, h3⟩ := hpre.sat
        by_cases him' : m ≤ i
        · -- a box is made
          have hx : ∃ x ∈ As, x.i = i := by
            by_cases hx : ∃ x ∈ As, x.i = i
            · exact hx
            · exfalso
              refine hall fun j hj => ?_
              have hcl := (c.tl i j hil him' (by omega)).resolve_left hx
              cases e : (clos l [])[i]? with
              | none => simp [List.getD, e] at hcl
              | some cc =>
                simp [List.getD, e] at hcl
                exact clos_ok l _ hpre.down l [] 0 rfl rfl (by simp) i o cc hoi e hed j hcl
          obtain ⟨x, hx, rfl⟩ := hx
          obtain ⟨_, xN, ⟨ty, p, af, hxo⟩, xd, xr⟩ := c.am x hx
          rw [hxo] at hoi
          obtain rfl := Option.some.inj hoi
          have hxσ : x ∉ σ := fun hs => by
            have := (hpre.none x.i him' hil).2 ⟨x, hs, rfl⟩
            rw [q1] at this; cases this
          have hdne : ∀ y ∈ σ, y.d ≠ x.d := fun y hy e => by
            have := c.ad y (hpre.sub y hy) x hx e
            subst this
            exact hxσ hy
          refine wpOp_of_list hxo ?_
          refine wpList_plain rfl fun K' hK' => ?_
          obtain ⟨z, hr, hzc, _⟩ := zeroC_ok (hz x hx) G w
          have hrn : (execOp a.eval ⟨some x.d, .alloc x.t, ty, p, af, none⟩).run P w = .ok (.value (.pointer (some ⟨w.heap.size, 0, none⟩))) (w.alloc (.cells z.cells x.t)) := by
            simp [execOp, Instr.alloc, hr, newVar, newRow]
          have s' : SatH cx ⟨G.V, G.g ++ [(.pointer (some ⟨w.heap.size, 0, none⟩), 0)]⟩ (h ++ (σ ++ [x]).map AlO.lb) (w.alloc (.cells z.cells x.t)) := by
            rw [List.map_append, ← List.append_assoc]
            exact push_box s x.t hzc
          have hG := gle_push (G := G) (.pointer (some ⟨w.heap.size, 0, none⟩), 0)
          have hsz : x.d < a.tmps.size := by rw [hpre.N, hp]; exact xN
          have hk := hK' (a.put (some x.d) (.pointer (some ⟨w.heap.size, 0, none⟩))) (w.alloc (.cells z.cells x.t)) (ih (listed.setIfInBounds x.i true) (a.put (some x.d) (.pointer (some ⟨w.heap.size, 0, none⟩))) (w.alloc (.cells z.cells x.t)) (σ ++ [x]) (by have := count_set hpre.size hil q1; omega) ⟨⟨_, s', fun t ht => ?_, fun t ht hne => ?_, fun j y hy => ?_⟩, ?_, ?_, by simpa using hpre.size, ?_, ?_, fun k hk hkl => ?_, fun k ok hk hD e he => ?_⟩)
          · unfold Oper.wp
            rw [hrn]
            exact hk
          · obtain ⟨j, oj, b1, b2, b3, b4⟩ := ht
            have hdt : (some x.d : Option Nat) ≠ some t := fun e => by
              cases e
              exact xd (mem_dsts.2 ⟨j, oj, by rw [List.getElem?_take, if_pos b1]; exact b2, b3⟩)
            have hd' : Done l m listed t := ⟨j, oj, b1, b2, b3, by rwa [getD_set_ne false (by omega)] at b4⟩
            rw [put_other hdt]
            exact (h1 t hd').grow hG
          · have hdt : (some x.d : Option Nat) ≠ some t := fun e => by
              cases e
              exact hne x (List.mem_append_right _ (List.mem_singleton.2 rfl)) rfl
            rw [put_other hdt]
            exact (h2 t (fun ⟨j, oj, b1, b2, b3, b4⟩ => ht ⟨j, oj, b1, b2, b3, getD_set_true b4⟩) fun y hy => hne y (List.mem_append_left _ hy)).grow hG
          · rcases Nat.lt_or_ge j σ.length with hj | hj
            · rw [List.getElem?_append_left hj] at hy
              have hym : y ∈ σ := List.mem_of_getElem? hy
              have hdt : (some x.d : Option Nat) ≠ some y.d := fun e => hdne y hym (Option.some.inj e).symm
              rw [put_other hdt]
              exact (h3 j y hy).grow hG
            · rw [List.getElem?_append_right hj] at hy
              have hj0 : j - σ.length = 0 := by
                cases e : j - σ.length with
                | zero => rfl
                | succ n => rw [e] at hy; simp at hy
              rw [hj0] at hy
              simp at hy
              subst hy
              have : ((a.put (some x.d) (.pointer (some ⟨w.heap.size, 0, none⟩))).tmps).getD x.d undef = .pointer (some ⟨w.heap.size, 0, none⟩) := by simp [Act.put, Array.getD, hsz]
              rw [this]
              have hlen : h.length + j = G.g.length := by rw [s.len, List.length_append, List.length_map]; omega
              rw [hlen]
              exact ⟨w.heap.size, 0, get_last _ _ rfl, rfl⟩
          · simp [Act.put, hpre.N]
          · simp [Act.put, hpre.defers]
          · refine List.nodup_append.2 ⟨hpre.nd, by simp, fun y hy z hz' e => ?_⟩
            rw [List.mem_singleton] at hz'
            subst hz'; subst e
            exact hxσ hy
          · intro y hy
            rcases List.mem_append.1 hy with hy | hy
            · exact hpre.sub y hy
            · rw [List.mem_singleton.1 hy]; exact hx
          · by_cases hki : x.i = k
            · subst hki
              constructor
              · exact fun _ => ⟨x, List.mem_append_right _ (List.mem_singleton.2 rfl), rfl⟩
              · intro _; simp [Array.getD, hpre.size, hil]
            · rw [getD_set_ne false hki, hpre.none k hk hkl]
              constructor
              · exact fun ⟨y, hy, e⟩ => ⟨y, List.mem_append_left _ hy, e⟩
              · rintro ⟨y, hy, e⟩
                rcases List.mem_append.1 hy with hy | hy
                · exact ⟨y, hy, e⟩
                · rw [List.mem_singleton.1 hy] at e; exact absurd e hki
          · by_cases hki : x.i = k
            · subst hki
              rw [hxo] at hk
              cases hk
              exact getD_set_true (hed e he)
            · have hD' : (listed.setIfInBounds x.i true).getD k false = true := hD
              rw [getD_set_ne false hki] at hD'
              exact getD_set_true (hpre.down k ok hk hD' e he)
        have him : i < m := by omega
        have hrun := hrunA (σ.map AlO.lb)
        have hmt : o ∈ l.take m := List.mem_of_getElem? (by rw [List.getElem?_take, if_pos him]; exact hoi)
        have hnr : ∀ t ∈ tmpsOf o ++ gtmp l o, ∀ x ∈ σ, x.d ≠ t := fun t ht x hx e => (c.am x (hpre.sub x hx)).2.2.2.2 o hmt (e ▸ ht)
        have hnd0 : ∀ x ∈ σ, o.dst ≠ some x.d := fun x hx e => (c.am x (hpre.sub x hx)).2.2.2.1 (mem_dsts.2 ⟨i, o, by rw [List.getElem?_take, if_pos him]; exact hoi, e⟩)
        have hot : (l.take m)[i]? = some o := by rw [List.getElem?_take, if_pos him]; exact hoi
        obtain ⟨ρi, u1, u2, u3⟩ := hrun.at c.nd i o hot
        have hdd : ∀ t, t ∈ tmpsOf o ++ gtmp l o → Ar G (lk t ρi) (a.tmps.getD t undef) := by
          intro t ht
          by_cases hw : ∃ (j : Nat) (oj : Oper), j < m ∧ l[j]? = some oj ∧ oj.dst = some t
          · obtain ⟨j, oj, hj, hoj, hdj⟩ := hw
            obtain ⟨hji, hje⟩ := c.rd i o t j oj him hoi ht hj hoj hdj
            have hdone : Done l m listed t := ⟨j, oj, hj, hoj, hdj, hed j hje⟩
            have : lk t ρ' = lk t ρi := u2 t fun hmem => dsts_split c.nd (i := i) (t := t) (mem_dsts.2 ⟨j, oj, by rw [List.getElem?_take, if_pos hji, List.getElem?_take, if_pos hj]; exact hoj, hdj⟩) hmem
            rw [← this]
            exact h1 t hdone
          · have hnd : ¬ Done l m listed t := fun ⟨j, oj, a1, a2, a3, _⟩ => hw ⟨j, oj, a1, a2, a3⟩
            have : lk t ρi = lk t ρ := u1 t fun hmem => by
              obtain ⟨j, oj, b1, b2⟩ := mem_dsts.1 hmem
              have hj := getElem?_lt b1
              rw [List.getElem?_take] at b1
              split at b1
              · rw [List.getElem?_take] at b1
                split at b1
                · exact hw ⟨j, oj, by omega, b1, b2⟩
                · cases b1
              · cases b1
            rw [this]
            exact h2 t hnd (hnr t ht)
        have hops : ∀ x ∈ o.op.operands.toList, Ar G (ev pm.Γ ρi x) (a.eval x) := by
          intro x hx
          cases x with
          | tmp t => exact hdd t (List.mem_append.2 (.inl (tmp_mem hx)))
          | const v => exact cAV_ok G v
          | global g => exact lkG_ok (cx := cx) _ (by rw [← hp]; exact s.glob)
          | func f => exact ⟨[], rfl, .nil⟩
        have hwant : ∀ b, wantedA l.toArray o ρi = some b → Region.wanted o (yielded l.toArray a.tmps) = b := fun b hb =>
          wanted_of hb fun j want d e1 e2 => by
            have hg : d ∈ gtmp l o := by
              unfold gtmp
              rw [e1]
              have : (l[j]?).bind (·.dst) = some d := by simpa using e2
              simp [this]
            exact ⟨by rw [hpre.N, hp]; exact c.gN i o d hoi hg, hdd d (List.mem_append.2 (.inr hg))⟩
        -- what holds behind it
        have hstep : ∀ (v : Value) (w' : World) (G' : Gh) (r : AV), GLe G.g.length G G' → SatH cx G' (h ++ σ.map AlO.lb) w' → Ar G' r v → (∀ d, o.dst = some d → lk d ρ' = r) →
            wpAny P .any l.toArray Q fuel (listed.setIfInBounds i true) (a.put o.dst v) w' := by
          intro v w' G' r hG s' hr hlk
          refine ih _ _ _ σ (by have := count_set hpre.size hil q1; omega) ⟨⟨G', s', fun t ht => ?_, fun t ht hne => ?_, fun j x hx => ?_⟩, ?_, ?_, by simpa using hpre.size, hpre.nd, hpre.sub, fun k hk hkl => ?_, fun k ok hk hD e he => ?_⟩
          · by_cases hdt : o.dst = some t
            · rw [hlk t hdt, hdt]
              have hlt : t < a.tmps.size := by rw [hpre.N, hp]; exact c.dN i o t hoi hdt
              have : ((a.put (some t) v).tmps).getD t undef = v := by simp [Act.put, Array.getD, hlt]
              rw [this]; exact hr
            · have hd' : Done l m listed t := by
                obtain ⟨j, oj, b1, b2, b3, b4⟩ := ht
                have hji : i ≠ j := fun e => by
                  subst e
                  rw [hoi] at b2
                  cases b2
                  exact hdt b3
                exact ⟨j, oj, b1, b2, b3, by rwa [getD_set_ne false hji] at b4⟩
              rw [put_other hdt]
              exact (h1 t hd').grow hG
          · have hdt : o.dst ≠ some t := fun e => ht ⟨i, o, him, hoi, e, by simp [Array.getD, hpre.size, hil]⟩
            have hd' : ¬ Done l m listed t := fun ⟨j, oj, b1, b2, b3, b4⟩ => ht ⟨j, oj, b1, b2, b3, getD_set_true b4⟩
            rw [put_other hdt]
            exact (h2 t hd' hne).grow hG
          · rw [put_other (hnd0 x (List.mem_of_getElem? hx))]
            exact (h3 j x hx).grow hG
          · cases o.dst <;> simp [Act.put, hpre.N]
          · cases o.dst <;> simp [Act.put, hpre.defers]
          · rw [getD_set_ne false (by omega)]
            exact hpre.none k hk hkl
          · by_cases hki : i = k
            · subst hki
              rw [hoi] at hk
              cases hk
              exact getD_set_true (hed e he)
            · have hD' : (listed.setIfInBounds i true).getD k false = true := hD
              rw [getD_set_ne false hki] at hD'
              exact getD_set_true (hpre.down k ok hk hD' e he)
        unfold wpOp
        simp only [q2]
        rcases u3 with ⟨hw, r, hq, hlk⟩ | ⟨hw, hlk⟩
        · rw [if_pos (hwant true hw)]
          exact .inl (hq cx G w a hp s hops _ _ fun v w' G' hG s' hr => hstep v w' G' r hG s' hr hlk)
        · rw [if_neg (by rw [hwant false hw]; simp)]
          exact hstep undef w G U (.refl _ _) s U_ok hlk


end
end Go.Ax

/- A region whose first operations read while others make boxes: the rule, and tables with variants. No condition. -/
namespace Go.Ax
open Go Go.RowKit
variable {P : Program} {pm : Pm} {st : St} {h : List LB}
theorem vcd_okp {E : List Nat} {l : List Oper} {h : List LB} (hok : opsOk l pm.N = true) : ∀ (r : List Oper), (∀ o ∈ r, o ∈ l) → r.all (pureO E) = true → ∀ (ρ : Env) (K : St → Prop), vcd P pm E l h r ρ K →
    AXd P pm h l.toArray r ρ fun ρ' => K ⟨ρ', h⟩
  | [], _, _, ρ, K, hh => AXd.nil hh
  | o :: rest, hm, hpu, ρ, K, hh => by
    simp only [List.all_cons, Bool.and_eq_true] at hpu
    have ih := vcd_okp (h := h) hok rest (fun o ho => hm o (by simp [ho])) hpu.2
    unfold vcd at hh
    rw [hpu.1] at hh
    simp only [cond_true] at hh
    refine vgd_okd (fun ρ hy => ?_) (fun ρ hn => ih _ _ hn) hh
    obtain ⟨r, hq, hk⟩ := vq_ok hy
    exact ⟨r, hq, ih _ _ hk⟩
def startA (m n : Nat) (σ : List AlO) : List Bool := (List.range n).map fun j => decide (j < m) || σ.any fun x => x.i == j
/-- The rest of a region from some set of operations on, left to the reader. -/
def RegT (P : Program) (pm : Pm) (l : List Oper) (L : List Bool) (st : St) (Q : Exit → St → Prop) (_ : Tok Q) : Prop :=
  opsOk l pm.N = true → ∀ cx G a w, cx.pm = pm → Sat cx G st a w → wpAny P .any l.toArray (Post cx Q) (L.count false) L.toArray a w
def RestA (P : Program) (pm : Pm) (l : List Oper) (m : Nat) (As : List AlO) (h : List LB) (st : St) (Q : Exit → St → Prop) (tk : Tok Q) : Prop :=
  ∀ σ, σ.Nodup → (∀ x ∈ σ, x ∈ As) → RegT P pm l (startA m l.length σ) ⟨putA h.length σ st.env, h ++ σ.map AlO.lb⟩ Q tk
theorem count_getD (L : List Bool) : ((List.range L.length).countP fun j => !L.toArray.getD j false) = L.count false := by
  have e : L = (List.range L.length).map fun j => L.toArray.getD j false := by
    refine List.ext_getElem (by simp) fun i h1 h2 => ?_
    simp [Array.getD, h1]
  conv => rhs; rw [e]
  rw [List.count, List.countP_map]
  apply List.countP_congr
  intro j hj
  simp only [Function.comp]
  cases h : L.toArray.getD j false <;> rfl
theorem RegV.preA {E : List Nat} {id : Nat} {l : List Oper} {ρ : Env} {h : List LB} {Q : Exit → St → Prop} {tk : Tok Q} (hm : P.follows .mixedOrders = true) (m : Nat) (As : List AlO) (hc : preOkA l m pm.N (As.map fun x => (x.i, x.d, x.t)) = true) (hpu : (l.take m).all (pureO E) = true) (hz : ∀ x ∈ As, zeroC P x.t = some x.zc)
    (hh : ap (vcd P pm E l h (l.take m) ρ) (fun st' => (∀ hA, ap (vcd P pm E l (h ++ hA) (l.take m) ρ) (fun st'' => st''.env = st'.env) ⟨⟩) ∧ RestA P pm l m As h st' Q tk) ⟨⟩) : RegV P pm id l ⟨ρ, h⟩ Q tk := by
  intro hok cx G a w hp s
  have c := preOkA_spec hc
  obtain ⟨ρ', hrun, hA, hR⟩ := vcd_okp (P := P) (pm := pm) (E := E) (l := l) (h := h) hok (l.take m) (fun o ho => List.mem_of_mem_take ho) hpu ρ _ hh
  have hrunA : ∀ hA, Run P pm (h ++ hA) l.toArray (l.take m) ρ ρ' := fun hB => by
    obtain ⟨ρ₁, h1, h2⟩ := vcd_okp (P := P) (pm := pm) (E := E) (l := l) (h := h ++ hB) hok (l.take m) (fun o ho => List.mem_of_mem_take ho) hpu ρ _ (hA hB)
    have h2 : ρ₁ = ρ' := h2
    rw [← h2]; exact h1
  refine wp2_region_any hm ?_
  have s' : SatH cx G h { w with drawn := w.drawn + 1 } := s.h.later ((Below.refl _ w).drew)
  refine pre_anyA (Q := Post cx Q) c hp hz hrunA (fun σ hn hs G a w sat listed hsz hl => ?_) _ _ a _ [] ?_ ⟨⟨G, by simpa using s', fun t ht => ?_, fun t _ _ => s.ev (.tmp t), fun j x hx => by simp at hx⟩, s.N, s.defers, by simp, List.nodup_nil, fun x hx => (List.not_mem_nil hx).elim, fun i _ hil => by simp [Array.getD, hil], fun i o hi hD => ?_⟩
  · have e : listed = (startA m l.length σ).toArray := by
      refine Array.ext (by simp [startA, hsz]) fun j h1 h2 => ?_
      have h3 := hl j (by omega)
      simp only [Array.getD, h1, dif_pos] at h3
      rw [show listed[j] = (decide (j < m) || σ.any fun x => x.i == j) from h3]
      simp [startA]
    have hlen : (startA m l.length σ).length = l.length := by simp [startA]
    have hcount := count_getD (startA m l.length σ)
    rw [hlen] at hcount
    rw [e, hcount]
    exact hR σ hn hs hok cx G a w hp sat
  · have : ∀ n k, n ≤ k → ((List.range n).countP fun j => !(Array.replicate k false).getD j false) = n := by
      intro n k hnk
      have : ((List.range n).countP fun j => !(Array.replicate k false).getD j false) = (List.range n).countP fun _ => true := by
        apply List.countP_congr
        intro j hj
        rw [List.mem_range] at hj
        simp [Array.getD, show j < k by omega]
      rw [this]; simp
    simpa using this l.length l.length (Nat.le_refl _)
  · obtain ⟨j, oj, b1, b2, b3, b4⟩ := ht
    exfalso
    have hj := getElem?_lt b2
    simp [Array.getD, hj] at b4
  · exfalso
    have hj := getElem?_lt hi
    simp [Array.getD, hj] at hD
/-! ### by a table of the sets, with variants of what has come up -/
abbrev Vs := List (Option (Nat × AV)) × List (Option (List LB))
def gv : List Vs → Nat → Vs
  | [], _ => ([], [])
  | x :: _, 0 => x
  | _ :: r, n + 1 => gv r n
def tstP (e0 : Env) (h0 : List LB) (x : Vs) (L : List Bool) : St := tst e0 h0 x.1 x.2 L
@[push_cast] theorem gv_0 (x : Vs) (r : List Vs) : gv (x :: r) 0 = x := (rfl)
@[push_cast] theorem gv_1 (x y : Vs) (r : List Vs) : gv (x :: y :: r) 1 = y := (rfl)
@[push_cast] theorem gv_2 (x y z : Vs) (r : List Vs) : gv (x :: y :: z :: r) 2 = z := (rfl)
@[push_cast] theorem tstP_eq (e0 : Env) (h0 : List LB) (a : List (Option (Nat × AV))) (b : List (Option (List LB))) (L : List Bool) : tstP e0 h0 (a, b) L = tst e0 h0 a b L := (rfl)
section
variable (P : Program) (pm : Pm) (E : List Nat) (l : List Oper) (e0 : Env) (h0 : List LB) (vs : List Vs)
def obvI (v : Nat) (L : List Bool) (i v' : Nat) : Option Oper → Prop
  | some o => ap2 (vgd l o.guard (tstP e0 h0 (gv vs v) L)) (fun st => ap (vrun P pm E o st) (fun st' => EqSt st' (tstP e0 h0 (gv vs v') (L.set i true))) ⟨⟩) (fun st => EqSt (st.put o.dst U) (tstP e0 h0 (gv vs v') (L.set i true))) ⟨⟩ ⟨⟩
  | none => False
def obvL (v : Nat) (L : List Bool) : List (Nat × Nat) → Prop
  | [] => True
  | i :: r => obvI P pm E l e0 h0 vs v L i.1 i.2 l[i.1]? ∧ obvL v L r
def obvT : List (Nat × List Bool × List (Nat × Nat)) → Prop
  | [] => True
  | x :: r => obvL P pm E l e0 h0 vs x.1 x.2.1 x.2.2 ∧ obvT r
end
def tabVok (l : List Oper) (tab : List (Nat × List Bool × List (Nat × Nat))) : Bool :=
  tab.all fun x => decide (x.2.1.length = l.length) && (Region.ready .any l.toArray x.2.1.toArray == x.2.2.map (·.1)) && x.2.2.all (fun i => tab.any fun y => y.1 == i.2 && y.2.1 == x.2.1.set i.1 true) && (x.2.2 != [] || x.2.1.all id)
section
variable {E : List Nat} {l : List Oper} {e0 : Env} {h0 : List LB} {vs : List Vs}
theorem obvT_at : ∀ (tab : List (Nat × List Bool × List (Nat × Nat))), obvT P pm E l e0 h0 vs tab → ∀ x ∈ tab, obvL P pm E l e0 h0 vs x.1 x.2.1 x.2.2
  | [], _, x, hx => by cases hx
  | y :: r, h, x, hx => by
    rcases List.mem_cons.1 hx with rfl | hx
    · exact h.1
    · exact obvT_at r h.2 x hx
theorem obvL_at (v : Nat) (L : List Bool) : ∀ (is : List (Nat × Nat)), obvL P pm E l e0 h0 vs v L is → ∀ i ∈ is, obvI P pm E l e0 h0 vs v L i.1 i.2 l[i.1]?
  | [], _, i, hi => by cases hi
  | y :: r, h, i, hi => by
    rcases List.mem_cons.1 hi with rfl | hi
    · exact h.1
    · exact obvL_at v L r h.2 i hi
theorem set_okx {l : List Oper} {cx : Cx} (hp : cx.pm = pm) {Q : Exit → Act → World → Prop} {J : List Bool → St → Prop} (hlen : ∀ L st, J L st → L.length = l.length)
    (hstep : ∀ L st, J L st → ∀ i, i ∈ Region.ready .any l.toArray L.toArray → ∃ o, l[i]? = some o ∧ AXl P pm l.toArray [o] st (fun st' => J (L.set i true) st'))
    (hQ : ∀ L st, J L st → Region.ready .any l.toArray L.toArray = [] → ∀ G a w, Sat cx G st a w → Q .normal a w) : ∀ (n : Nat) (L : List Bool) (st : St), J L st → L.count false = n → ∀ G a w, Sat cx G st a w → wpAny P .any l.toArray Q n L.toArray a w
  | 0, L, st, hj, hc, G, a, w, s => by
    have hr := none_ready l L (hlen L st hj) hc
    exact ⟨hr, hQ L st hj hr G a w s⟩
  | n + 1, L, st, hj, hc, G, a, w, s => by
    refine ⟨fun hr => hQ L st hj hr G a w s, fun i hi => ?_⟩
    obtain ⟨o, ho, key⟩ := hstep L st hj i hi
    have hf := ready_at (hlen L st hj) hi
    have hcs := countFalse_set L i hf
    refine wpOp_of_list ho ?_
    refine key cx G a w _ hp s fun G' st' a' w' s' hk => ?_
    have e : (L.toArray.setIfInBounds i true) = (L.set i true).toArray := by simp
    rw [e]
    exact set_okx hp hlen hstep hQ n (L.set i true) st' hk (by omega) G' a' w' s'
theorem RegT.tab {Q : Exit → St → Prop} {tk : Tok Q} (tab : List (Nat × List Bool × List (Nat × Nat))) (hc : tabVok l tab = true) (ho : obvT P pm E l e0 h0 vs tab) (hK : ∀ x ∈ tab, x.2.2 = [] → Q .normal (tstP e0 h0 (gv vs x.1) (List.replicate l.length true)))
    {L0 : List Bool} {st : St} (v : Nat) (hz : tab.any (fun x => x.1 == v && x.2.1 == L0) = true) (hs : tstP e0 h0 (gv vs v) L0 = st) : RegT P pm l L0 st Q tk := by
  intro hok cx G a w hp s
  have hc' := List.all_eq_true.1 hc
  refine set_okx (P := P) (Q := Post cx Q) (J := fun L st => ∃ v is, (v, L, is) ∈ tab ∧ st = tstP e0 h0 (gv vs v) L) hp (fun L st hj => ?_) (fun L st hj i hi => ?_) (fun L st hj hr G a w s => ⟨G, st, s, ?_⟩) (L0.count false) L0 st ?_ rfl G a w s
  · obtain ⟨v, is, hx, _⟩ := hj
    have := hc' _ hx
    simp only [Bool.and_eq_true, decide_eq_true_eq] at this
    exact this.1.1.1
  · obtain ⟨v, is, hx, rfl⟩ := hj
    have := hc' _ hx
    simp only [Bool.and_eq_true, decide_eq_true_eq, beq_iff_eq] at this
    obtain ⟨⟨⟨q1, q2⟩, q3⟩, _⟩ := this
    rw [q2] at hi
    obtain ⟨iv, hiv, rfl⟩ := List.mem_map.1 hi
    have hob := obvL_at v L is (obvT_at tab ho _ hx) iv hiv
    obtain ⟨y, hy, he⟩ := List.any_eq_true.1 (List.all_eq_true.1 q3 iv hiv)
    simp only [Bool.and_eq_true, beq_iff_eq] at he
    have hmem : (iv.2, L.set iv.1 true, y.2.2) ∈ tab := by
      rw [← he.1, ← he.2]; exact hy
    cases hl : l[iv.1]? with
    | none => rw [hl] at hob; exact hob.elim
    | some o =>
      rw [hl] at hob
      refine ⟨o, rfl, ?_⟩
      have hw : ∀ st', EqSt st' (tstP e0 h0 (gv vs iv.2) (L.set iv.1 true)) → ∃ v is, (v, L.set iv.1 true, is) ∈ tab ∧ st' = tstP e0 h0 (gv vs v) (L.set iv.1 true) := fun st' h => ⟨iv.2, y.2.2, hmem, h⟩
      obtain ⟨g1, g2⟩ := opsOk_at hok (List.mem_of_getElem? hl)
      have hob' : vgd l o.guard (tstP e0 h0 (gv vs v) L) (fun st => vrun P pm E o st fun st' => EqSt st' (tstP e0 h0 (gv vs iv.2) (L.set iv.1 true))) (fun st => EqSt (st.put o.dst U) (tstP e0 h0 (gv vs iv.2) (L.set iv.1 true))) := hob
      have key : AXl P pm l.toArray [o] (tstP e0 h0 (gv vs v) L) (fun st' => EqSt st' (tstP e0 h0 (gv vs iv.2) (L.set iv.1 true))) := vgd_ok g2 g1 (fun st hst => by
        intro ops rest' K' hK'
        exact vrun_ok g2 hst ops rest' K' fun st' hst' => hK' st' (AXl.nil hst')) (fun st hst => AXl.nil hst) hob'
      exact fun cx G a w Q hp s hQ => key cx G a w Q hp s fun G' st' a' w' s' h => hQ G' st' a' w' s' (hw st' h)
  · obtain ⟨v, is, hx, rfl⟩ := hj
    have := hc' _ hx
    simp only [Bool.and_eq_true, decide_eq_true_eq, beq_iff_eq, Bool.or_eq_true, bne_iff_ne] at this
    obtain ⟨⟨⟨q1, q2⟩, _⟩, q4⟩ := this
    have his : is = [] := by
      rw [hr] at q2
      exact List.map_eq_nil_iff.1 q2.symm
    have hall : L = List.replicate l.length true := by
      rcases q4 with q4 | q4
      · exact absurd his q4
      · rw [← q1]
        refine List.eq_replicate_iff.2 ⟨rfl, fun b hb => ?_⟩
        exact (List.all_eq_true.1 q4 b hb)
    have := hK _ hx his
    rw [← hall] at this
    exact this
  · obtain ⟨x, hx, he⟩ := List.any_eq_true.1 hz
    simp only [Bool.and_eq_true, beq_iff_eq] at he
    exact ⟨v, x.2.2, by rw [← he.1, ← he.2]; exact hx, hs.symm⟩
@[push_cast] theorem obvT_n : obvT P pm E l e0 h0 vs [] = True := (rfl)
@[push_cast] theorem obvT_c (v : Nat) (L : List Bool) (is : List (Nat × Nat)) (r : List (Nat × List Bool × List (Nat × Nat))) : obvT P pm E l e0 h0 vs ((v, L, is) :: r) = (obvL P pm E l e0 h0 vs v L is ∧ obvT P pm E l e0 h0 vs r) := (rfl)
@[push_cast] theorem obvL_n (v : Nat) (L : List Bool) : obvL P pm E l e0 h0 vs v L [] = True := (rfl)
@[push_cast] theorem obvL_c (v : Nat) (L : List Bool) (i v' : Nat) (r : List (Nat × Nat)) : obvL P pm E l e0 h0 vs v L ((i, v') :: r) = (obvI P pm E l e0 h0 vs v L i v' l[i]? ∧ obvL P pm E l e0 h0 vs v L r) := (rfl)
@[push_cast] theorem obvI_s (v : Nat) (L : List Bool) (i v' : Nat) (o : Oper) : obvI P pm E l e0 h0 vs v L i v' (some o) = ap2 (vgd l o.guard (tstP e0 h0 (gv vs v) L)) (fun st => ap (vrun P pm E o st) (fun st' => EqSt st' (tstP e0 h0 (gv vs v') (L.set i true))) ⟨⟩) (fun st => EqSt (st.put o.dst U) (tstP e0 h0 (gv vs v') (L.set i true))) ⟨⟩ ⟨⟩ := (rfl)
theorem sub1 {x : AlO} {σ : List AlO} (hn : σ.Nodup) (hs : ∀ y ∈ σ, y ∈ [x]) : σ = [] ∨ σ = [x] := by
  cases σ with
  | nil => exact .inl rfl
  | cons y r =>
    obtain rfl := List.mem_singleton.1 (hs y (List.mem_cons_self ..))
    cases r with
    | nil => exact .inr rfl
    | cons z r =>
      obtain rfl := List.mem_singleton.1 (hs z (List.mem_cons_of_mem _ (List.mem_cons_self ..)))
      exact absurd (List.mem_cons_self ..) (List.nodup_cons.1 hn).1
theorem sub2 {x y : AlO} {σ : List AlO} (hn : σ.Nodup) (hs : ∀ z ∈ σ, z ∈ [x, y]) : σ = [] ∨ σ = [x] ∨ σ = [y] ∨ σ = [x, y] ∨ σ = [y, x] := by
  have hm : ∀ z ∈ σ, z = x ∨ z = y := fun z hz => by simpa using hs z hz
  match σ, hn, hm with
  | [], _, _ => exact .inl rfl
  | [a], _, hm => rcases hm a (by simp) with rfl | rfl <;> simp
  | [a, b], hn, hm =>
    have hab : a ≠ b := by simpa using hn
    rcases hm a (by simp) with h1 | h1 <;> rcases hm b (by simp) with h2 | h2
    · exact absurd (h1.trans h2.symm) hab
    · rw [h1, h2]; simp
    · rw [h1, h2]; simp
    · exact absurd (h1.trans h2.symm) hab
  | a :: b :: c :: r, hn, hm =>
    exfalso
    simp only [List.nodup_cons, List.mem_cons, not_or] at hn
    obtain ⟨⟨h1, h2, _⟩, ⟨h3, _⟩, _⟩ := hn
    rcases hm a (by simp) with ha | ha <;> rcases hm b (by simp) with hb | hb <;> rcases hm c (by simp) with hc | hc
    · exact h1 (ha.trans hb.symm)
    · exact h1 (ha.trans hb.symm)
    · exact h2 (ha.trans hc.symm)
    · exact h3 (hb.trans hc.symm)
    · exact h3 (hb.trans hc.symm)
    · exact h2 (ha.trans hc.symm)
    · exact h1 (ha.trans hb.symm)
    · exact h1 (ha.trans hb.symm)
def has (tab : List (Nat × List Bool × List (Nat × Nat))) (v : Nat) (L : List Bool) : Bool := tab.any fun x => x.1 == v && x.2.1 == L
def fin (tab : List (Nat × List Bool × List (Nat × Nat))) (f : List Nat) : Bool := tab.all fun x => x.2.2 != [] || f.contains x.1
theorem RestA.tab1 {m : Nat} {h : List LB} {st : St} {Q : Exit → St → Prop} {tk : Tok Q} {x : AlO} (tab : List (Nat × List Bool × List (Nat × Nat))) (vs : List Vs) (hc : tabVok l tab = true)
    (hz : (has tab 0 (startA m l.length []) && has tab 0 (startA m l.length [x]) && fin tab [0]) = true)
    (s0 : tstP st.env h (gv vs 0) (startA m l.length []) = st) (hh : st.heap = h)
    (s1 : tstP st.env h (gv vs 0) (startA m l.length [x]) = ⟨putA h.length [x] st.env, h ++ [x.lb]⟩)
    (ho : obvT P pm E l st.env h vs tab) (hK : Q .normal (tstP st.env h (gv vs 0) (List.replicate l.length true))) : RestA P pm l m [x] h st Q tk := by
  simp only [Bool.and_eq_true] at hz
  have hK' : ∀ x ∈ tab, x.2.2 = [] → Q .normal (tstP st.env h (gv vs x.1) (List.replicate l.length true)) := fun y hy he => by
    have := List.all_eq_true.1 hz.2 y hy
    rw [he] at this
    have : y.1 = 0 := by simpa using this
    rw [this]; exact hK
  intro σ hn hs
  rcases sub1 hn hs with rfl | rfl
  · refine RegT.tab (E := E) tab hc ho hK' 0 hz.1.1 ?_
    rw [s0]
    obtain ⟨e, hp⟩ := st
    subst hh
    simp [putA]
  · exact RegT.tab (E := E) tab hc ho hK' 0 hz.1.2 s1
theorem RestA.tab2 {m : Nat} {h : List LB} {st : St} {Q : Exit → St → Prop} {tk : Tok Q} {x y : AlO} (tab : List (Nat × List Bool × List (Nat × Nat))) (vs : List Vs) (hc : tabVok l tab = true)
    (hz : (has tab 0 (startA m l.length []) && has tab 0 (startA m l.length [x]) && has tab 0 (startA m l.length [x, y]) && has tab 1 (startA m l.length [y]) && has tab 2 (startA m l.length [y, x]) && fin tab [0, 2]) = true)
    (s0 : tstP st.env h (gv vs 0) (startA m l.length []) = st) (hh : st.heap = h)
    (s1 : tstP st.env h (gv vs 0) (startA m l.length [x]) = ⟨putA h.length [x] st.env, h ++ [x.lb]⟩)
    (s2 : tstP st.env h (gv vs 0) (startA m l.length [x, y]) = ⟨putA h.length [x, y] st.env, h ++ [x.lb, y.lb]⟩)
    (s3 : tstP st.env h (gv vs 1) (startA m l.length [y]) = ⟨putA h.length [y] st.env, h ++ [y.lb]⟩)
    (s4 : tstP st.env h (gv vs 2) (startA m l.length [y, x]) = ⟨putA h.length [y, x] st.env, h ++ [y.lb, x.lb]⟩)
    (ho : obvT P pm E l st.env h vs tab) (hK : Q .normal (tstP st.env h (gv vs 0) (List.replicate l.length true))) (hK2 : Q .normal (tstP st.env h (gv vs 2) (List.replicate l.length true))) : RestA P pm l m [x, y] h st Q tk := by
  simp only [Bool.and_eq_true] at hz
  have hK' : ∀ x ∈ tab, x.2.2 = [] → Q .normal (tstP st.env h (gv vs x.1) (List.replicate l.length true)) := fun y hy he => by
    have := List.all_eq_true.1 hz.2 y hy
    rw [he] at this
    have : y.1 = 0 ∨ y.1 = 2 := by simpa using this
    rcases this with e | e <;> rw [e]
    · exact hK
    · exact hK2
  intro σ hn hs
  rcases sub2 hn hs with rfl | rfl | rfl | rfl | rfl
  · refine RegT.tab (E := E) tab hc ho hK' 0 hz.1.1.1.1.1 ?_
    rw [s0]
    obtain ⟨e, hp⟩ := st
    subst hh
    simp [putA]
  · exact RegT.tab (E := E) tab hc ho hK' 0 hz.1.1.1.1.2 s1
  · exact RegT.tab (E := E) tab hc ho hK' 1 hz.1.1.2 s3
  · exact RegT.tab (E := E) tab hc ho hK' 0 hz.1.1.1.2 s2
  · exact RegT.tab (E := E) tab hc ho hK' 2 hz.1.2 s4
end
end Go.Ax

/- A region by a table of the sets with variants, from its start. No condition. -/
namespace Go.Ax
open Go Go.RowKit
variable {P : Program} {pm : Pm}
@[push_cast] theorem gv_s (x : Vs) (r : List Vs) (n : Nat) : gv (x :: r) (n + 1) = gv r n := (rfl)
def allV (f : Nat → Prop) : List Nat → Prop
  | [] => True
  | v :: r => f v ∧ allV f r
theorem allV_at {f : Nat → Prop} : ∀ {l : List Nat}, allV f l → ∀ v ∈ l, f v
  | [], _, v, hv => (List.not_mem_nil hv).elim
  | x :: r, h, v, hv => by
    rcases List.mem_cons.1 hv with rfl | hv
    · exact h.1
    · exact allV_at h.2 v hv
theorem RegV.tabV {E : List Nat} {id : Nat} {l : List Oper} {e0 : Env} {h0 : List LB} {Q : Exit → St → Prop} {tk : Tok Q} (hm : P.follows .mixedOrders = true) (tab : List (Nat × List Bool × List (Nat × Nat))) (vs : List Vs) (f : List Nat) (hc : tabVok l tab = true)
    (hz : (has tab 0 (List.replicate l.length false) && fin tab f) = true) (hs : tstP e0 h0 (gv vs 0) (List.replicate l.length false) = ⟨e0, h0⟩) (ho : obvT P pm E l e0 h0 vs tab)
    (hK : allV (fun v => Q .normal (tstP e0 h0 (gv vs v) (List.replicate l.length true))) f) : RegV P pm id l ⟨e0, h0⟩ Q tk := by
  rw [Bool.and_eq_true] at hz
  intro hok cx G a w hp s
  refine wp2_region_any hm ?_
  have s' : Sat cx G ⟨e0, h0⟩ a { w with drawn := w.drawn + 1 } := ⟨s.h.later ((Below.refl _ w).drew), fun t => s.ev (.tmp t), s.N, s.defers⟩
  have hK' : ∀ x ∈ tab, x.2.2 = [] → Q .normal (tstP e0 h0 (gv vs x.1) (List.replicate l.length true)) := fun y hy he => by
    have := List.all_eq_true.1 hz.2 y hy
    rw [he] at this
    exact allV_at hK y.1 (by simpa using this)
  have := RegT.tab (E := E) (tk := tk) tab hc ho hK' 0 hz.1 hs hok cx G a _ hp s'
  simpa using this
end Go.Ax

/- A nil slice in a box, taken as an empty row of the call's own, ahead of a loop. No condition. -/
namespace Go.Ax
open Go Go.RowKit
variable {P : Program} {pm : Pm} {st : St}
theorem Sat.nilfield {cx : Cx} {G : Gh} {a : Act} {w : World} (s : Sat cx G st a w) (b f : Nat) (t te : TypeId) (sz : Nat) {cs : List C} (hb : st.heap[b]? = some (.box t cs)) (hf : cs[f]? = some (.d (.raw (.slice none 0 0)))) :
    Sat cx ⟨G.V, G.g ++ [(.slice none 0 0, 0)]⟩ ⟨st.env, st.heap.set b (.box t (cs.set f (.own st.heap.length 0))) ++ [.row te sz [] 0]⟩ a w := by
  have s' := s.h.push (.slice none 0 0) 0 (.row te sz [] 0) ⟨rfl, [], World.ownsRow_nil w _ te sz, fun b hb => (by cases hb), .nil, by simp⟩ (fun k hk => by cases hk)
  have hbl := getElem?_lt hb
  have hi : (st.heap ++ [LB.row te sz [] 0])[b]? = some (.box t cs) := by rw [List.getElem?_append_left hbl]; exact hb
  obtain ⟨e, he⟩ : ∃ e, (G.g ++ [((.slice none 0 0 : Value), 0)])[b]? = some e := ⟨_, List.getElem?_eq_getElem (by rw [List.length_append, s.h.len]; omega)⟩
  have hL := s'.ent b _ _ hi he
  obtain ⟨q1, blk, vs, q2, q3, q4, q5, q6⟩ := hL
  have hfl := getElem?_lt hf
  have hA : All2 (Cr ⟨G.V, G.g ++ [(.slice none 0 0, 0)]⟩) (cs.set f (.own st.heap.length 0)) vs := by
    refine All2.of_get (by rw [List.length_set]; exact q6.length) fun j c v h1 h2 => ?_
    by_cases hj : f = j
    · subst hj
      rw [List.getElem?_set_self hfl] at h1
      cases h1
      obtain ⟨d, hd, hv⟩ := q6.getR f v h2
      rw [hf] at hd
      cases hd
      have hv : v = .slice none 0 0 := ar_raw (hv : Ar _ (.c (.d (.raw (.slice none 0 0)))) v)
      rw [hv]
      exact ⟨rfl, _, 0, get_last _ _ s.h.len.symm, Nat.le_refl _, fun _ => rfl⟩
    · rw [List.getElem?_set_ne hj] at h1
      obtain ⟨d, hd, hv⟩ := q6.getR j v h2
      rw [h1] at hd
      cases hd
      exact hv
  have s2 := s'.upd (w' := w) (i := b) (b := blk) (lb := .box t cs) (lb' := .box t (cs.set f (.own st.heap.length 0))) (e := e) hi trivial he (by rw [q2]; rfl) rfl rfl rfl rfl (fun _ _ => rfl) ⟨q1, blk, vs, q2, q3, q4, q5, hA⟩
  have e1 : (st.heap ++ [LB.row te sz [] 0]).set b (.box t (cs.set f (.own st.heap.length 0))) = st.heap.set b (.box t (cs.set f (.own st.heap.length 0))) ++ [.row te sz [] 0] := List.set_append_left _ _ hbl
  rw [e1] at s2
  exact ⟨s2, fun t => (s.env t).grow (gle_push _), s.N, s.defers⟩
theorem LoopV.nilfield {E : List Nat} {c : Code} {Q : Exit → St → Prop} {tk : Tok Q} (b f : Nat) (t te : TypeId) (sz : Nat) {cs : List C} (h : LoopV P pm E c ⟨st.env, st.heap.set b (.box t (cs.set f (.own st.heap.length 0))) ++ [.row te sz [] 0]⟩ Q ⟨⟩) (hb : st.heap[b]? = some (.box t cs) := by rfl) (hf : cs[f]? = some (.d (.raw (.slice none 0 0))) := by rfl) : LoopV P pm E c st Q tk :=
  fun hok cx G a w hp s => h hok cx _ a w hp (s.nilfield b f t te sz hb hf)
end Go.Ax

/- Loops at whose head what a box holds is read as data. No condition. -/
namespace Go.Ax
open Go Go.RowKit
variable {P : Program} {pm : Pm} {E : List Nat}
def frzB4 (j c : Nat) (st : St) (tb : TypeId) (cs : List C) (i ver : Nat) : Option LB → St
  | some (.row _ sz els v') => if ver = v' then ⟨st.env, (st.heap.set i .dead).set j (.box tb (cs.set c (.d (.lst sz els))))⟩ else st
  | _ => st
def frzB3 (j c sz : Nat) (st : St) (tb : TypeId) (cs : List C) : Option C → St
  | some (.own i ver) => frzB4 j c st tb cs i ver st.heap[i]?
  | some (.d (.raw (.slice none 0 0))) => ⟨st.env, st.heap.set j (.box tb (cs.set c (.d (.lst sz []))))⟩
  | _ => st
def frzB2 (j c sz : Nat) (st : St) : Option LB → St
  | some (.box tb cs) => frzB3 j c sz st tb cs cs[c]?
  | _ => st
/-- A row that a box holds (or nil), read as data from here on. -/
def frzB (j c sz : Nat) (st : St) : St := frzB2 j c sz st st.heap[j]?
@[push_cast] theorem frzB_eq (j c sz : Nat) (e : Env) (h : List LB) : frzB j c sz ⟨e, h⟩ = frzB2 j c sz ⟨e, h⟩ h[j]? := (rfl)
@[push_cast] theorem frzB2_b (j c sz : Nat) (st : St) (tb : TypeId) (cs : List C) : frzB2 j c sz st (some (.box tb cs)) = frzB3 j c sz st tb cs cs[c]? := (rfl)
@[push_cast] theorem frzB3_o (j c sz : Nat) (e : Env) (h : List LB) (tb : TypeId) (cs : List C) (i ver : Nat) : frzB3 j c sz ⟨e, h⟩ tb cs (some (.own i ver)) = frzB4 j c ⟨e, h⟩ tb cs i ver h[i]? := (rfl)
@[push_cast] theorem frzB3_n (j c sz : Nat) (e : Env) (h : List LB) (tb : TypeId) (cs : List C) : frzB3 j c sz ⟨e, h⟩ tb cs (some (.d (.raw (.slice none 0 0)))) = ⟨e, h.set j (.box tb (cs.set c (.d (.lst sz []))))⟩ := (rfl)
@[push_cast] theorem frzB3_d (j c sz n : Nat) (st : St) (tb : TypeId) (cs : List C) (els : List (List D)) : frzB3 j c sz st tb cs (some (.d (.lst n els))) = st := (rfl)
@[push_cast] theorem frzB4_r (j c : Nat) (e : Env) (h : List LB) (tb t : TypeId) (cs : List C) (i ver sz : Nat) (els : List (List D)) : frzB4 j c ⟨e, h⟩ tb cs i ver (some (.row t sz els ver)) = ⟨e, (h.set i .dead).set j (.box tb (cs.set c (.d (.lst sz els))))⟩ := (if_pos rfl)
theorem frzB_ok (j c sz : Nat) (st : St) : Fw pm st (frzB j c sz st) := by
  intro cx G a w hp s
  unfold frzB
  cases hj : st.heap[j]? with
  | none => exact ⟨G, s⟩
  | some lb =>
    cases lb with
    | box tb cs =>
      show ∃ G', Sat cx G' (frzB3 j c sz st tb cs cs[c]?) a w
      cases hc : cs[c]? with
      | none => exact ⟨G, s⟩
      | some x =>
        unfold frzB3
        split
        · next i ver hx =>
          cases hx
          unfold frzB4
          split
          · next t sz' els v' hi =>
            split
            · next hv =>
              subst hv
              exact s.freezeBox j c hj hc hi
            · exact ⟨G, s⟩
          · exact ⟨G, s⟩
        · next hx =>
          cases hx
          have s2 := s.h.relabel (lb' := .box tb (cs.set c (C.d (.lst sz [])))) hj id fun e he hL => by
            obtain ⟨h1, b, vs, h2, h3, h4, h5, h6⟩ := hL
            refine ⟨h1, b, vs, h2, h3, h4, h5, ?_⟩
            obtain ⟨v, hvv, hr⟩ := h6.get _ _ hc
            have hn : v = .slice none 0 0 := ar_raw (hr : Ar G (.c (.d (.raw (.slice none 0 0)))) v)
            have hnil : Cr G (C.d (.lst sz [])) v := by
              rw [hn]
              exact Dr.lst _ [] none 0 (fun _ _ => undef) (by simp) (by simp) (by simp) (by simp) (by simp)
            have hs := h6.set (i := c) (a := C.d (.lst sz [])) (b := v) hnil
            rwa [show vs.set c v = vs from by
              have := getElem?_lt hvv
              rw [List.getElem?_eq_getElem this] at hvv
              injection hvv with hvv
              rw [← hvv]; exact List.set_getElem_self this] at hs
          exact ⟨G, s2, fun x => s.env x, s.N, s.defers⟩
        · exact ⟨G, s⟩
    | row t sz els ver => exact ⟨G, s⟩
    | dead => exact ⟨G, s⟩
    | mp _ _ => exact ⟨G, s⟩
    | it _ _ => exact ⟨G, s⟩
    | sit _ _ => exact ⟨G, s⟩
theorem Fw.trans {a b c : St} (h1 : Fw pm a b) (h2 : Fw pm b c) : Fw pm a c := fun cx G x w hp s => by
  obtain ⟨G1, s1⟩ := h1 cx G x w hp s
  exact h2 cx G1 x w hp s1
/-- A loop: at its head, and ahead of its next round, the state is first read through. -/
theorem LoopV.ofF {b : Code} {st : St} {Q : Exit → St → Prop} {S : Type} (hm : P.follows .mixedOrders = true) (fz : St → St) (hfz : ∀ st, Fw pm st (fz st)) (keep : List Nat) (vars : S → List (Nat × AV)) (heap : S → List LB) (I : S → Prop) (μ : S → Nat) (s0 : S) (h0 : I s0) (f0 : fitsV pm (fz st) ⟨frame keep st.env (vars s0), heap s0⟩)
    (round : ∀ s, I s → ap (vc P pm E b ⟨frame keep st.env (vars s), heap s⟩) (EthenT (fun st' => ∃ s', (I s' ∧ μ s' < μ s) ∧ fitsV pm (fz st') ⟨frame keep st.env (vars s'), heap s'⟩) Q ⟨⟩ ⟨⟩) ⟨⟩) : LoopV P pm E b st Q ⟨⟩ :=
  fun hok => AXc.loopW (fun s => ⟨frame keep st.env (vars s), heap s⟩) I μ s0 h0 ((hfz st).trans (fitsV_ok f0)) fun s hs => (vc_ok hm b _ _ hok (round s hs)).mono fun e s hs => by
    cases e with
    | normal => obtain ⟨s', ⟨h1, h2⟩, h3⟩ := hs; exact ⟨s', h1, h2, (hfz _).trans (fitsV_ok h3)⟩
    | _ => exact hs
end Go.Ax
