/- Part of a proof about this program; no condition of its own. -/
import Derived.Test.YtanbfhnmklhjiaaGreatDoorP10
import Derived.Test.YtanbfhnmklhjiaaGreatDoorP19
set_option linter.all false
/- A listed variable whose cells hold slices, read as closed data. No condition. -/
namespace Go.Ax
open Go Go.RowKit
def dFs {H : Type} (P : Program) (r : TypeId → DataW H → List D) : List Field → List (DataW H) → List D
  | f :: fs, x :: xs => r f.type x ++ dFs P r fs xs
  | _, _ => []
def dT {H : Type} (P : Program) : Nat → TypeId → DataW H → List D
  | 0, _, _ => []
  | n + 1, t, x => match P.underlying t, x with
    | some .bool, .lit (.bool b) => [.bool b]
    | some (.int k), .lit (.int _ m) => [.int k m]
    | some .string, .lit (.string l) => [.str l]
    | some (.slice e), .nil => [.lst (P.cellsOf e) []]
    | some (.slice e), .slice xs _ => [.lst (P.cellsOf e) (xs.map (dT P n e))]
    | some (.struct fs), .agg xs => dFs P (dT P n) fs.toList xs
    | some (.array _ e), .agg xs => xs.flatMap (dT P n e)
    | _, _ => []
def okFs (P : Program) (r : TypeId → Bool) : List Field → Nat → Option Nat
  | [], off => some off
  | f :: fs, off => if f.offset = off ∧ r f.type = true then okFs P r fs (off + P.cellsOf f.type) else none
def okT (P : Program) : Nat → TypeId → Bool
  | 0, _ => false
  | n + 1, t => match P.underlying t with
    | some .bool => P.cellsOf t == 1
    | some (.int _) => P.cellsOf t == 1
    | some .string => P.cellsOf t == 1
    | some (.slice e) => okT P n e && decide (0 < P.cellsOf e) && (P.cellsOf t == 1)
    | some (.struct fs) => okFs P (okT P n) fs.toList 0 == some (P.cellsOf t)
    | some (.array m e) => okT P n e && (m * P.cellsOf e == P.cellsOf t)
    | _ => false
section
variable {H : Type} {enc : TypeId × Value → H} {P : Program} {w : World} {base : Nat} {spare : Nat → Bool} {held : Bool}
structure RdT (P : Program) (w : World) (t : TypeId) (cs : List Value) (ds : List D) : Prop where
  dr : All2 (Dr (wV w)) ds cs
  len : cs.length = P.cellsOf t
theorem dT_fields {r : TypeId → Bool} {q : TypeId → DataW H → List D} {g : TypeId → List Value → Option (DataW H × List MemPlace)} {cs : List Value} (hr : ∀ t cs x, r t = true → g t cs = some x → RdT P w t cs (q t x.1)) :
    ∀ (fs : List Field) (off : Nat) (e : Nat) (xs : List (DataW H × List MemPlace)), okFs P r fs off = some e → xs.length = fs.length → (∀ (i : Nat) (f : Field), fs[i]? = some f → g f.type ((cs.drop f.offset).take (P.cellsOf f.type)) = xs[i]?) →
      off ≤ e ∧ All2 (Dr (wV w)) (dFs P q fs (xs.map (·.1))) ((cs.drop off).take (e - off))
  | [], off, e, xs, h, hl, _ => by
    cases h
    match xs, hl with
    | [], _ => simp [dFs]; exact .nil
  | f :: fs, off, e, xs, h, hl, hx => by
    unfold okFs at h
    split at h
    · next hc =>
      match xs, hl with
      | x :: xs, hl =>
        have h1 := hx 0 f rfl
        simp only [List.getElem?_cons_zero] at h1
        have h2 := hr _ _ _ hc.2 h1
        obtain ⟨h3, h4⟩ := dT_fields hr fs _ e xs h (by simpa using hl) fun i f' hf' => by simpa using hx (i + 1) f' (by simpa using hf')
        refine ⟨by omega, ?_⟩
        rw [show e - off = P.cellsOf f.type + (e - (off + P.cellsOf f.type)) by omega, List.take_add, List.drop_drop, List.map_cons]
        have := h2.dr
        rw [hc.1] at this
        exact this.append h4
    · cases h
theorem dT_ok : ∀ (n : Nat) (t : TypeId), okT P n t = true → ∀ (fuel : Nat) (cs : List Value) (x : DataW H × List MemPlace), DataW.trod enc P w base spare held fuel t cs = some x → RdT P w t cs (dT P n t x.1)
  | 0, _, h, _, _, _, _ => by cases h
  | n + 1, t, h, fuel, cs, x, hx => by
    unfold okT at h
    split at h
    · next hu =>
      obtain ⟨b, rfl, rfl⟩ := DataW.trod_bool hu hx
      simp only [dT, hu]
      exact ⟨.cons (.bool b) .nil, (beq_iff_eq.1 h).symm⟩
    · next k hu =>
      obtain ⟨m, rfl, rfl, hw⟩ := DataW.trod_int hu hx
      simp only [dT, hu]
      exact ⟨.cons (.int k m) .nil, (beq_iff_eq.1 h).symm⟩
    · next hu =>
      obtain ⟨s, rfl, rfl, hs⟩ := DataW.trod_string hu hx
      simp only [dT, hu]
      refine ⟨.cons ?_ .nil, (beq_iff_eq.1 h).symm⟩
      have := Dr.str (V := wV w) s.data.toList
      rwa [byteArray_eta] at this
    · next e hu =>
      simp only [Bool.and_eq_true, decide_eq_true_eq, beq_iff_eq] at h
      obtain ⟨⟨he, hpos⟩, h1⟩ := h
      rcases DataW.trod_slice hu hx with ⟨rfl, hx1⟩ | ⟨a, len, cap, elems, rest, m, _, rfl, hx1, hb, hlc, hcm, hlen, hat, _⟩
      · rw [hx1]
        simp only [dT, hu]
        exact ⟨.cons ((NilTo.nil _).dr (Dr.raw _ rfl)) .nil, h1.symm⟩
      · rw [hx1]
        simp only [dT, hu]
        refine ⟨.cons ?_ .nil, h1.symm⟩
        have key : ∀ i (hi : i < elems.length), ∃ cs', w.cells? base (a.add (i * P.cellsOf e)) (P.cellsOf e) = some cs' ∧ RdT P w e cs' (dT P n e elems[i].1) := fun i hi => by
          have h2 := hat i (by omega)
          rw [List.getElem?_eq_getElem hi] at h2
          obtain ⟨cs', h3, h4⟩ := Option.bind_eq_some_iff.1 h2
          exact ⟨cs', h3, dT_ok n e he _ _ _ h4⟩
        have hall : ∀ (i : Nat) (x : List D), ((elems.map (·.1)).map (dT P n e))[i]? = some x → x.length = P.cellsOf e ∧ ∀ (j : Nat) (c : D), x[j]? = some c → ∃ v, w.cell? (a.add (i * P.cellsOf e + j)) = some v ∧ Dr (wV w) c v := fun i x hix => by
          have hi := getElem?_lt hix
          simp only [List.length_map] at hi
          simp only [List.map_map, List.getElem?_map, List.getElem?_eq_getElem hi, Option.map_some, Function.comp, Option.some.injEq] at hix
          subst hix
          obtain ⟨cs', h3, h4⟩ := key i hi
          obtain ⟨h5, h6⟩ := cells_get h3
          have hl := h4.dr.length
          refine ⟨by omega, fun j c hj => ?_⟩
          obtain ⟨v, hv, hd⟩ := h4.dr.get j c hj
          have := h6 j v hv
          rw [add_add] at this
          exact ⟨v, this, hd⟩
        have hL : ((elems.map (·.1)).map (dT P n e)).length = len := by simp [hlen]
        have := Dr.lst (V := wV w) (P.cellsOf e) ((elems.map (·.1)).map (dT P n e)) (some a) cap (fun i j => (w.cell? (a.add (i * P.cellsOf e + j))).getD undef) (by rw [hL]; exact hlc) hcm (fun x hx => by
          obtain ⟨i, hi, rfl⟩ := List.getElem_of_mem hx
          exact (hall i _ (List.getElem?_eq_getElem hi)).1) (fun hn => by
          have hpl : 0 < ((elems.map (·.1)).map (dT P n e)).length := List.length_pos_iff.2 hn
          refine ⟨a, rfl, ?_, fun i x j c h1 h2 => ?_⟩
          · obtain ⟨h3, h4⟩ := hall 0 _ (List.getElem?_eq_getElem hpl)
            obtain ⟨v, hv, _⟩ := h4 0 _ (List.getElem?_eq_getElem (by omega))
            have := heap_of_cell hv
            rwa [add_block] at this
          · obtain ⟨v, hv, _⟩ := (hall i x h1).2 j c h2
            rw [cellIn_world, hv]; rfl) (fun i x j c h1 h2 => by
          obtain ⟨v, hv, hd⟩ := (hall i x h1).2 j c h2
          rw [hv]; exact hd)
        rwa [hL] at this
    · next fs hu =>
      obtain ⟨xs, m, _, hx1, hlen, hxl, hat⟩ := DataW.trod_struct hu hx
      have h' : okFs P (okT P n) fs.toList 0 = some (P.cellsOf t) := by simpa using h
      obtain ⟨_, h2⟩ := dT_fields (P := P) (w := w) (q := dT P n) (g := DataW.trod enc P w base spare held m) (cs := cs) (fun t cs x h1 h2 => dT_ok n t h1 m cs x h2) fs.toList 0 _ xs h' (by simpa using hxl) fun i f hf => hat i f (by simpa using hf)
      rw [List.drop_zero, Nat.sub_zero, List.take_of_length_le (by omega)] at h2
      rw [hx1]
      simp only [dT, hu]
      exact ⟨h2, hlen⟩
    · next m e hu =>
      obtain ⟨xs, q, _, hx1, hlen, hxl, hat⟩ := DataW.trod_array hu hx
      simp only [Bool.and_eq_true, beq_iff_eq] at h
      have key : ∀ (k : Nat), k ≤ m → All2 (Dr (wV w)) ((xs.take k).flatMap fun x => dT P n e x.1) (cs.take (k * P.cellsOf e)) := by
        intro k
        induction k with
        | zero => intro _; simp; exact .nil
        | succ k ih =>
          intro hk
          have hkx : k < xs.length := by omega
          have h1 := hat k (by omega)
          rw [List.getElem?_eq_getElem hkx] at h1
          have h2 := dT_ok n e h.1 q _ _ h1
          rw [take_next hkx, List.flatMap_append, Nat.succ_mul, List.take_add]
          simp only [List.flatMap_cons, List.flatMap_nil, List.append_nil]
          exact (ih (by omega)).append h2.dr
      have := key m (Nat.le_refl _)
      rw [List.take_of_length_le (by omega), List.take_of_length_le (by rw [hlen, h.2]; exact Nat.le_refl _)] at this
      rw [hx1]
      simp only [dT, hu]
      refine ⟨?_, hlen⟩
      rw [List.flatMap_map]; exact this
    · cases h
end
theorem glob_data {P : Program} {W : World} {name : String} {dat : DataW Unit} {g : Nat} {t : TypeId} {ds : List D} (n : Nat) (hg : P.globalNamed name = some g) (ht : (P.globals[g]?).map (·.type) = some t) (hfl : okT P n t = true)
    (hds : dT P n t dat = ds) (h : ∃ ps q, DataW.LaidVars P W ((name, dat) :: q) ps) : Gp ⟨wV W, []⟩ (g, ds) := by
  obtain ⟨ps, ls, g', t', cs, fuel, p, q, h1, h2, h3, h4, _⟩ := h
  rw [hg] at h1; cases h1
  rw [ht] at h2; cases h2
  have e := (dT_ok n t hfl fuel _ _ h4).dr
  simp only [hds] at e
  unfold World.var? at h3
  rw [hg] at h3
  simp only [Option.bind_some] at h3
  split at h3
  · next c tt fr hh =>
    cases h3
    refine ⟨⟨⟨g, 0, none⟩, fun j => (cs.toList.getD j undef), rfl, fun j c hj => ?_⟩, cs, tt, fr, hh, by simpa using e.length.symm⟩
    obtain ⟨v, hv, hd⟩ := e.get j c hj
    have hget : cs.toList.getD j undef = v := by rw [List.getD_eq_getElem?_getD, hv]; rfl
    refine ⟨?_, ?_⟩
    · rw [add_plain]
      simp only [cellIn, wV, hh, Nat.zero_add]
      have : cs[j]? = some v := by simpa using hv
      rw [hget]; simpa using this
    · show Dr (wV W) c (cs.toList.getD j undef)
      rw [hget]; exact hd
  · cases h3
end Go.Ax

/- A row that a call hands over, read as closed data. No condition. -/
namespace Go.Ax
open Go Go.RowKit
theorem AFn.frz {P : Program} {Γ : List (Nat × List D)} {f : FuncId} {args : List AV} {t : TypeId} {sz : Nat} {els : List (List D)} (h : AFn P Γ f args [.fresh t sz els]) : AFn P Γ f args [.d (.lst sz els)] :=
  ⟨h.call, fun V w vals hv ha => (h.run V w vals hv ha).mono fun e w' ⟨V', vs, h1, h2, h3, h4, h5, h6⟩ => by
    cases h5 with | @cons _ v _ vs q1 q2 =>
    cases q2
    obtain ⟨xs, how, hob, hd, hl⟩ := q1
    by_cases hne : els = []
    · subst hne
      obtain ⟨A, cap, rfl, hc, hm⟩ := own_form how
      refine ⟨V', [_], h1, h2, h3, h4, .cons ?_ .nil, h6⟩
      exact Dr.lst sz [] A cap (fun _ _ => undef) hc hm (by simp) (by simp) (by simp)
    · obtain ⟨hxl, ⟨rfl, h0⟩ | ⟨g, cap, cur, rfl, hg, hh, hc, hm, hs, ht⟩⟩ := how
      · exact absurd (List.length_eq_zero_iff.1 h0) hne
      · have hVg : V'.H g = none := hob g rfl
        have hle : V'.Le ⟨fun b => if b = g then w'.heap[g]? else V'.H b, fun b => V'.I b ∨ b = g⟩ := ⟨fun b o ho => by
          have hbg : ¬ b = g := fun e => by rw [e, hVg] at ho; cases ho
          simp only [if_neg hbg]; exact ho, fun b hb => .inl hb⟩
        refine ⟨⟨fun b => if b = g then w'.heap[g]? else V'.H b, fun b => V'.I b ∨ b = g⟩, [_], h1, h2.trans hle, fun b o ho => ?_, fun b hb => ?_, .cons ?_ .nil, h6⟩
        · by_cases hbg : b = g
          · subst hbg; simpa using ho
          · simp only [if_neg hbg] at ho; exact h3 b o ho
        · rcases hb with hb | rfl
          · obtain ⟨⟨o, ho⟩, h8⟩ := h4 b hb
            exact ⟨⟨o, hle.H b o ho⟩, h8⟩
          · exact ⟨⟨_, by simp only [if_true]; exact hh⟩, .inr hg⟩
        · have hget : ∀ i e j c, els[i]? = some e → e[j]? = some c → ∃ u, xs[i * sz + j]? = some u ∧ Dr V' c u := fun i e j c h1 h2 => by
            have := flat_get els hl i e j c h1 h2
            exact hd.get _ _ this
          refine Dr.lst sz els (some ⟨g, 0, none⟩) cap (fun i j => xs.getD (i * sz + j) undef) hc hm hl (fun _ => ⟨⟨g, 0, none⟩, rfl, .inr rfl, fun i e j c h1 h2 => ?_⟩) (fun i e j c h1 h2 => ?_)
          · obtain ⟨u, hu, _⟩ := hget i e j c h1 h2
            have hcu : cur[i * sz + j]? = some u := by
              rw [← ht, List.getElem?_take] at hu
              split at hu
              · simpa using hu
              · cases hu
            rw [add_plain, Nat.zero_add]
            simp [cellIn, hh, hcu, List.getD, hu]
          · obtain ⟨u, hu, hdu⟩ := hget i e j c h1 h2
            simp only [List.getD, hu, Option.getD_some]
            exact hdu.mono hle⟩
end Go.Ax

/- A region of which the first operations only read, in whatever order, before all the others; the others by the sets of those that have come up. No condition. -/
namespace Go.Ax
open Go Go.RowKit
variable {P : Program} {pm : Pm} {st : St} {h : List LB}
def preOk (l : List Oper) (m N : Nat) : Bool :=
  let pre := l.take m
  let cl := clos l []
  decide (m ≤ l.length) && decide (dsts pre).Nodup && (l.all fun o => match o.dst with | some d => decide (d < N) | none => true) && (l.all fun o => (gtmp l o).all fun d => decide (d < N)) &&
  ((List.range l.length).all fun i => match l[i]? with
    | some o => (edges o).all fun e => decide (e < i)
    | none => true) &&
  ((List.range m).all fun i => match l[i]? with
    | some o => (tmpsOf o ++ gtmp l o).all fun t => (List.range m).all fun j => match l[j]? with
      | some oj => if oj.dst = some t then decide (j < i) && (edges o).contains j else true
      | none => true
    | none => true) &&
  ((List.range l.length).all fun i => decide (i < m) || ((List.range m).all fun j => (cl.getD i []).contains j))
structure PreOk (l : List Oper) (m N : Nat) : Prop where
  le : m ≤ l.length
  nd : (dsts (l.take m)).Nodup
  dN : ∀ (i : Nat) (o : Oper) (d : Nat), l[i]? = some o → o.dst = some d → d < N
  gN : ∀ (i : Nat) (o : Oper) (d : Nat), l[i]? = some o → d ∈ gtmp l o → d < N
  ed : ∀ (i : Nat) (o : Oper) (e : Nat), l[i]? = some o → e ∈ edges o → e < i
  rd : ∀ (i : Nat) (o : Oper) (t j : Nat) (oj : Oper), i < m → l[i]? = some o → t ∈ tmpsOf o ++ gtmp l o → j < m → l[j]? = some oj → oj.dst = some t → j < i ∧ j ∈ edges o
  tl : ∀ (i j : Nat), i < l.length → m ≤ i → j < m → j ∈ (clos l []).getD i []
theorem preOk_spec {l : List Oper} {m N : Nat} (hh : preOk l m N = true) : PreOk l m N := by
  unfold preOk at hh
  simp only [Bool.and_eq_true, decide_eq_true_eq, List.all_eq_true, List.mem_range, Bool.or_eq_true] at hh
  obtain ⟨⟨⟨⟨⟨⟨h1, h2⟩, h3⟩, h4⟩, h5⟩, h6⟩, h7⟩ := hh
  refine ⟨h1, h2, fun i o d hi hd => ?_, fun i o d hi hd => ?_, fun i o e hi he => ?_, fun i o t j oj hi ho ht hj hoj hd => ?_, fun i j hi hm hj => ?_⟩
  · have := h3 o (List.mem_of_getElem? hi)
    rw [hd] at this
    exact of_decide_eq_true this
  · exact h4 o (List.mem_of_getElem? hi) d hd
  · have := h5 i (getElem?_lt hi)
    rw [hi] at this
    simp only [List.all_eq_true, decide_eq_true_eq] at this
    exact this e he
  · have := h6 i hi
    rw [ho] at this
    simp only [List.all_eq_true, List.mem_range] at this
    have := this t ht j hj
    rw [hoj] at this
    simp only [hd, if_true, Bool.and_eq_true, decide_eq_true_eq, List.contains_eq_mem] at this
    exact this
  · have := h7 i hi
    rcases this with h | h
    · omega
    · have := h j hj
      simpa using this
section
variable {l : List Oper} {m : Nat} {Q : Exit → Act → World → Prop}
theorem pre_any2 (c : PreOk l m pm.N) {cx : Cx} (hp : cx.pm = pm) {ρ ρ' : Env} (hrun : Run P pm h l.toArray (l.take m) ρ ρ') (htail : ∀ G a w, Sat cx G ⟨ρ', h⟩ a w → ∀ listed : Array Bool, listed.size = l.length → (∀ j, j < l.length → listed.getD j false = decide (j < m)) → wpAny P .any l.toArray Q (l.length - m) listed a w) :
    ∀ (fuel : Nat) (listed : Array Bool) (a : Act) (w : World), ((List.range l.length).countP fun j => !listed.getD j false) = fuel → Pre cx h l m ρ ρ' listed a w → wpAny P .any l.toArray Q fuel listed a w := by
  intro fuel
  induction fuel with
  | zero =>
    intro listed a w hc hpre
    have hall := unl_pos (Nat.le_refl _) hc
    have hml : m = l.length := by
      rcases Nat.lt_or_ge m l.length with h1 | h1
      · have := hpre.none m (Nat.le_refl _) h1
        rw [hall m h1] at this; cases this
      · have := c.le; omega
    obtain ⟨G, s, h1, h2⟩ := hpre.sat
    have := htail G a w (pre_sat hrun hpre s h1 h2 fun i hi => hall i (by omega)) listed hpre.size (fun j hj => by rw [hall j hj]; simp; omega)
    rw [hml, Nat.sub_self] at this
    exact this
  | succ fuel ih =>
    intro listed a w hc hpre
    have hgd : ∀ j, j < l.length → ∀ d, listed.getD j d = listed.getD j false := fun j hj d => by simp [Array.getD, hpre.size, hj]
    by_cases hall : ∀ i, i < m → listed.getD i false = true
    · -- all that may come up in any order has come up
      have hlist : ∀ j, j < l.length → listed.getD j false = decide (j < m) := fun j hj => by
        by_cases hjm : j < m
        · rw [hall j hjm]; simp [hjm]
        · rw [hpre.none j (by omega) hj]; simp [hjm]
      have hcount : ((List.range l.length).countP fun j => !listed.getD j false) = l.length - m := by
        have h1 : ((List.range l.length).countP fun j => !listed.getD j false) = (List.range l.length).countP fun j => decide (m ≤ j) := by
          apply List.countP_congr
          intro j hj
          rw [List.mem_range] at hj
          rw [hlist j hj]
          simp
        rw [h1]
        have h2 : ∀ n, ((List.range n).countP fun j => decide (m ≤ j)) = n - m := by
          intro n
          induction n with
          | zero => simp
          | succ n ih =>
            rw [List.range_succ, List.countP_append, ih, List.countP_singleton]
            by_cases h : m ≤ n
            · simp [h]; omega
            · simp [h]; omega
        exact h2 _
      have hml := c.le
      obtain ⟨G, s, h1, h2⟩ := hpre.sat
      have := htail G a w (pre_sat hrun hpre s h1 h2 hall) listed hpre.size hlist
      rw [← hcount, hc] at this
      exact this
    · refine ⟨fun hempty => ?_, fun i hi => ?_⟩
      · -- the first that has not come up may come up
        exfalso
        have hex : ∃ i, i < m ∧ listed.getD i false = false := by
          false_or_by_contra
          rename_i hno
          refine hall fun i hi => ?_
          cases e : listed.getD i false with
          | true => rfl
          | false => exact absurd ⟨i, hi, e⟩ hno
        have hmin : ∃ i, (i < m ∧ listed.getD i false = false) ∧ ∀ j, j < i → listed.getD j false = true := by
          obtain ⟨i, hi⟩ := hex
          induction i using Nat.strongRecOn with
          | _ i ih =>
            by_cases hj : ∃ j, j < i ∧ listed.getD j false = false
            · obtain ⟨j, h1, h2⟩ := hj
              exact ih j h1 ⟨by omega, h2⟩
            · refine ⟨i, hi, fun j hji => ?_⟩
              cases e : listed.getD j false with
              | true => rfl
              | false => exact absurd ⟨j, hji, e⟩ hj
        obtain ⟨i, ⟨him, hun⟩, hbefore⟩ := hmin
        have hml := c.le
        have hil : i < l.length := by omega
        have : i ∈ Region.ready .any l.toArray listed := by
          refine mem_ready.2 ⟨by rw [hgd i hil]; exact hun, l[i], by simp [hil], fun e he hb => hbefore _ (c.ed i _ _ (List.getElem?_eq_getElem hil) (edges_after he hb))⟩
        rw [hempty] at this
        cases this
      · obtain ⟨q1, o, q2, q3⟩ := mem_ready.1 hi
        have hoi : l[i]? = some o := by simpa using q2
        have hil := getElem?_lt hoi
        rw [hgd i hil] at q1
        have hed : ∀ e ∈ edges o, listed.getD e false = true := fun e he => by
          obtain ⟨ee, r1, r2, r3⟩ := edges_mem he
          rw [← r3]; exact q3 ee r1 r2
        have him : i < m := by
          rcases Nat.lt_or_ge i m with h1 | h1
          · exact h1
          · exfalso
            refine hall fun j hj => ?_
            have hcl := c.tl i j hil h1 (by omega)
            cases e : (clos l [])[i]? with
            | none => simp [List.getD, e] at hcl
            | some cc =>
              simp [List.getD, e] at hcl
              exact clos_ok l _ hpre.down l [] 0 rfl rfl (by simp) i o cc hoi e hed j hcl
        obtain ⟨G, s, h1, h2⟩ := hpre.sat
        have hot : (l.take m)[i]? = some o := by rw [List.getElem?_take, if_pos him]; exact hoi
        obtain ⟨ρi, u1, u2, u3⟩ := hrun.at c.nd i o hot
        have hdd : ∀ t, t ∈ tmpsOf o ++ gtmp l o → Ar G (lk t ρi) (a.tmps.getD t undef) := by
          intro t ht
          by_cases hw : ∃ (j : Nat) (oj : Oper), j < m ∧ l[j]? = some oj ∧ oj.dst = some t
          · obtain ⟨j, oj, hj, hoj, hdj⟩ := hw
            obtain ⟨hji, hje⟩ := c.rd i o t j oj him hoi ht hj hoj hdj
            have hdone : Done l m listed t := ⟨j, oj, hj, hoj, hdj, hed j hje⟩
            have : lk t ρ' = lk t ρi := u2 t fun hmem => dsts_split c.nd (i := i) (t := t) (mem_dsts.2 ⟨j, oj, by rw [List.getElem?_take, if_pos hji, List.getElem?_take, if_pos hj]; exact hoj, hdj⟩) hmem
            rw [← this]
            exact h1 t hdone
          · have hnd : ¬ Done l m listed t := fun ⟨j, oj, a1, a2, a3, _⟩ => hw ⟨j, oj, a1, a2, a3⟩
            have : lk t ρi = lk t ρ := u1 t fun hmem => by
              obtain ⟨j, oj, b1, b2⟩ := mem_dsts.1 hmem
              have hj := getElem?_lt b1
              rw [List.getElem?_take] at b1
              split at b1
              · rw [List.getElem?_take] at b1
                split at b1
                · exact hw ⟨j, oj, by omega, b1, b2⟩
                · cases b1
              · cases b1
            rw [this]
            exact h2 t hnd
        have hops : ∀ x ∈ o.op.operands.toList, Ar G (ev pm.Γ ρi x) (a.eval x) := by
          intro x hx
          cases x with
          | tmp t => exact hdd t (List.mem_append.2 (.inl (tmp_mem hx)))
          | const v => exact cAV_ok G v
          | global g => exact lkG_ok (cx := cx) _ (by rw [← hp]; exact s.glob)
          | func f => exact ⟨[], rfl, .nil⟩
        have hwant : ∀ b, wantedA l.toArray o ρi = some b → Region.wanted o (yielded l.toArray a.tmps) = b := fun b hb =>
          wanted_of hb fun j want d e1 e2 => by
            have hg : d ∈ gtmp l o := by
              unfold gtmp
              rw [e1]
              have : (l[j]?).bind (·.dst) = some d := by simpa using e2
              simp [this]
            exact ⟨by rw [hpre.N, hp]; exact c.gN i o d hoi hg, hdd d (List.mem_append.2 (.inr hg))⟩
        -- what holds behind it
        have hstep : ∀ (v : Value) (w' : World) (G' : Gh) (r : AV), GLe G.g.length G G' → SatH cx G' h w' → Ar G' r v → (∀ d, o.dst = some d → lk d ρ' = r) →
            wpAny P .any l.toArray Q fuel (listed.setIfInBounds i true) (a.put o.dst v) w' := by
          intro v w' G' r hG s' hr hlk
          refine ih _ _ _ (by have := count_set hpre.size hil q1; omega) ⟨⟨G', s', fun t ht => ?_, fun t ht => ?_⟩, ?_, ?_, by simpa using hpre.size, fun k hk hkl => ?_, fun k ok hk hD e he => ?_⟩
          · by_cases hdt : o.dst = some t
            · rw [hlk t hdt, hdt]
              have hlt : t < a.tmps.size := by rw [hpre.N, hp]; exact c.dN i o t hoi hdt
              have : ((a.put (some t) v).tmps).getD t undef = v := by simp [Act.put, Array.getD, hlt]
              rw [this]; exact hr
            · have hd' : Done l m listed t := by
                obtain ⟨j, oj, b1, b2, b3, b4⟩ := ht
                have hji : i ≠ j := fun e => by
                  subst e
                  rw [hoi] at b2
                  cases b2
                  exact hdt b3
                exact ⟨j, oj, b1, b2, b3, by rwa [getD_set_ne false hji] at b4⟩
              rw [put_other hdt]
              exact (h1 t hd').grow hG
          · have hdt : o.dst ≠ some t := fun e => ht ⟨i, o, him, hoi, e, by simp [Array.getD, hpre.size, hil]⟩
            have hd' : ¬ Done l m listed t := fun ⟨j, oj, b1, b2, b3, b4⟩ => ht ⟨j, oj, b1, b2, b3, getD_set_true b4⟩
            rw [put_other hdt]
            exact (h2 t hd').grow hG
          · cases o.dst <;> simp [Act.put, hpre.N]
          · cases o.dst <;> simp [Act.put, hpre.defers]
          · rw [getD_set_ne false (by omega)]
            exact hpre.none k hk hkl
          · by_cases hki : i = k
            · subst hki
              rw [hoi] at hk
              cases hk
              exact getD_set_true (hed e he)
            · have hD' : (listed.setIfInBounds i true).getD k false = true := hD
              rw [getD_set_ne false hki] at hD'
              exact getD_set_true (hpre.down k ok hk hD' e he)
        unfold wpOp
        simp only [q2]
        rcases u3 with ⟨hw, r, hq, hlk⟩ | ⟨hw, hlk⟩
        · rw [if_pos (hwant true hw)]
          exact .inl (hq cx G w a hp s hops _ _ fun v w' G' hG s' hr => hstep v w' G' r hG s' hr hlk)
        · rw [if_neg (by rw [hwant false hw]; simp)]
          exact hstep undef w G U (.refl _ _) s U_ok hlk
end
def startL (m n : Nat) : List Bool := List.replicate m true ++ List.replicate (n - m) false
theorem while_all {α : Type} (p : α → Bool) : ∀ (l : List α), l.all p = true → l.takeWhile p = l ∧ l.dropWhile p = []
  | [], _ => ⟨rfl, rfl⟩
  | a :: r, h => by
    simp only [List.all_cons, Bool.and_eq_true] at h
    obtain ⟨h1, h2⟩ := while_all p r h.2
    exact ⟨by rw [List.takeWhile_cons_of_pos h.1, h1], by rw [List.dropWhile_cons_of_pos h.1, h2]⟩
def RegS (P : Program) (pm : Pm) (l : List Oper) (m : Nat) (st : St) (Q : Exit → St → Prop) (_ : Tok Q) : Prop :=
  opsOk l pm.N = true → ∀ cx G a w, cx.pm = pm → Sat cx G st a w → wpAny P .any l.toArray (Post cx Q) (l.length - m) (startL m l.length).toArray a w
theorem RegV.pre {E : List Nat} {id : Nat} {l : List Oper} {ρ : Env} {h : List LB} {Q : Exit → St → Prop} {tk : Tok Q} (hm : P.follows .mixedOrders = true) (m : Nat) (hc : preOk l m pm.N = true) (hpu : (l.take m).all (pureO E) = true)
    (hh : ap (vcd P pm E l h (l.take m) ρ) (fun st' => RegS P pm l m st' Q tk) ⟨⟩) : RegV P pm id l ⟨ρ, h⟩ Q tk := by
  intro hok cx G a w hp s
  have c := preOk_spec hc
  have h1 := vcd_ok (P := P) (pm := pm) (E := E) (l := l) (h := h) hok (l.take m) (fun o ho => List.mem_of_mem_take ho) ρ _ hh
  obtain ⟨e1, e2⟩ := while_all _ _ hpu
  rw [e1, e2] at h1
  obtain ⟨ρ', hrun, htail⟩ := h1
  refine wp2_region_any hm ?_
  have s' : SatH cx G h { w with drawn := w.drawn + 1 } := s.h.later ((Below.refl _ w).drew)
  refine pre_any2 (Q := Post cx Q) c hp hrun (fun G a w sat listed hs hl => ?_) _ _ a _ ?_ ⟨⟨G, s', fun t ht => ?_, fun t _ => s.ev (.tmp t)⟩, s.N, s.defers, by simp, fun i _ hil => by simp [Array.getD, hil], fun i o hi hD => ?_⟩
  · have e : listed = (startL m l.length).toArray := by
      have hml := c.le
      refine Array.ext (by simp [startL, hs]; omega) fun j h1 h2 => ?_
      have h3 := hl j (by omega)
      simp only [Array.getD, h1, dif_pos] at h3
      rw [show listed[j] = decide (j < m) from h3]
      simp only [startL, List.getElem_toArray, List.getElem_append, List.length_replicate, List.getElem_replicate]
      by_cases hj : j < m <;> simp [hj]
    rw [e]
    exact htail cx G a w (fun _ a w => wpAny P .any l.toArray (Post cx Q) (l.length - m) (startL m l.length).toArray a w) hp sat fun G' st' a' w' s' hk => hk hok cx G' a' w' hp s'
  · have : ∀ n k, n ≤ k → ((List.range n).countP fun j => !(Array.replicate k false).getD j false) = n := by
      intro n k hnk
      have : ((List.range n).countP fun j => !(Array.replicate k false).getD j false) = (List.range n).countP fun _ => true := by
        apply List.countP_congr
        intro j hj
        rw [List.mem_range] at hj
        simp [Array.getD, show j < k by omega]
      rw [this]; simp
    simpa using this l.length l.length (Nat.le_refl _)
  · obtain ⟨j, oj, b1, b2, b3, b4⟩ := ht
    exfalso
    have hj := getElem?_lt b2
    simp [Array.getD, hj] at b4
  · exfalso
    have hj := getElem?_lt hi
    simp [Array.getD, hj] at hD
section
variable {E : List Nat} {l : List Oper} {e0 : Env} {h0 : List LB} {vals : List (Option (Nat × AV))} {heaps : List (Option (List LB))}
theorem RegS.tab {m : Nat} {Q : Exit → St → Prop} {tk : Tok Q} (tab : List (List Bool × List Nat)) (vals : List (Option (Nat × AV))) (heaps : List (Option (List LB))) (hc : tabOk l tab = true) (hz : tab.any (fun x => x.1 == startL m l.length) = true)
    (hs : tst e0 h0 vals heaps (startL m l.length) = ⟨e0, h0⟩) (ho : oblT P pm E l e0 h0 vals heaps tab) (hK : Q .normal (tst e0 h0 vals heaps (List.replicate l.length true))) : RegS P pm l m ⟨e0, h0⟩ Q tk := by
  intro hok cx G a w hp s
  have hc' := List.all_eq_true.1 hc
  have hcount : (startL m l.length).count false = l.length - m := by
    simp [startL, List.count_append, List.count_replicate]
  refine set_ok (P := P) (E := E) (Q := Post cx Q) (J := fun L st => (∃ is, (L, is) ∈ tab) ∧ st = tst e0 h0 vals heaps L) hok hp (fun L st hj => ?_) (fun L st hj i hi => ?_) (fun L st hj hr G a w s => ⟨G, st, s, ?_⟩) (l.length - m) (startL m l.length) ⟨e0, h0⟩ ⟨?_, hs.symm⟩ hcount G a w s
  · obtain ⟨⟨is, hx⟩, _⟩ := hj
    have := hc' _ hx
    simp only [Bool.and_eq_true, decide_eq_true_eq] at this
    exact this.1.1.1
  · obtain ⟨⟨is, hx⟩, rfl⟩ := hj
    have := hc' _ hx
    simp only [Bool.and_eq_true, decide_eq_true_eq, beq_iff_eq] at this
    obtain ⟨⟨⟨q1, q2⟩, q3⟩, _⟩ := this
    rw [q2] at hi
    have hob := oblL_at L is (oblT_at tab ho _ hx) i hi
    obtain ⟨y, hy, he⟩ := List.any_eq_true.1 (List.all_eq_true.1 q3 i hi)
    have hy2 : y.1 = L.set i true := by simpa using he
    have hmem : ∃ is', (L.set i true, is') ∈ tab := ⟨y.2, by rw [← hy2]; exact hy⟩
    cases hl : l[i]? with
    | none => rw [hl] at hob; exact hob.elim
    | some o =>
      rw [hl] at hob
      refine ⟨o, rfl, ?_⟩
      have e1 : (fun st' : St => (∃ is', (L.set i true, is') ∈ tab) ∧ st' = tst e0 h0 vals heaps (L.set i true)) = fun st' => EqSt st' (tst e0 h0 vals heaps (L.set i true)) := by
        funext st'
        exact propext ⟨fun h => h.2, fun h => ⟨hmem, h⟩⟩
      show ap2 (vgd l o.guard (tst e0 h0 vals heaps L)) (fun st => vrun P pm E o st fun st' => (∃ is', (L.set i true, is') ∈ tab) ∧ st' = tst e0 h0 vals heaps (L.set i true)) (fun st => (∃ is', (L.set i true, is') ∈ tab) ∧ st.put o.dst U = tst e0 h0 vals heaps (L.set i true)) ⟨⟩ ⟨⟩
      have e2 : (fun st : St => (∃ is', (L.set i true, is') ∈ tab) ∧ st.put o.dst U = tst e0 h0 vals heaps (L.set i true)) = fun st => EqSt (st.put o.dst U) (tst e0 h0 vals heaps (L.set i true)) := by
        funext st
        exact propext ⟨fun h => h.2, fun h => ⟨hmem, h⟩⟩
      rw [e1, e2]
      exact hob
  · obtain ⟨⟨is, hx⟩, rfl⟩ := hj
    have := hc' _ hx
    simp only [Bool.and_eq_true, decide_eq_true_eq, beq_iff_eq, Bool.or_eq_true, bne_iff_ne] at this
    obtain ⟨⟨⟨q1, q2⟩, _⟩, q4⟩ := this
    have hall : L = List.replicate l.length true := by
      rcases q4 with q4 | q4
      · exact absurd (q2.symm.trans hr) q4
      · rw [← q1]
        refine List.eq_replicate_iff.2 ⟨rfl, fun b hb => ?_⟩
        exact (List.all_eq_true.1 q4 b hb)
    rw [← hall] at hK
    exact hK
  · obtain ⟨x, hx, he⟩ := List.any_eq_true.1 hz
    have : x.1 = startL m l.length := by simpa using he
    exact ⟨x.2, by rw [← this]; exact hx⟩
end
end Go.Ax
