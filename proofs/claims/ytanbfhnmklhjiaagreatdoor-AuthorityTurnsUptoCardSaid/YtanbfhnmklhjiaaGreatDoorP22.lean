/- Part of a proof about this program; no condition of its own. -/
import Derived.Test.YtanbfhnmklhjiaaGreatDoorP21
import Derived.Test.YtanbfhnmklhjiaaGreatDoorP18
import Derived.Test.YtanbfhnmklhjiaaGreatDoorP10
set_option linter.all false
/- A region whose first operations read while others make boxes: the rule, and tables with variants. No condition. -/
namespace Go.Ax
open Go Go.RowKit
variable {P : Program} {pm : Pm} {st : St} {h : List LB}
theorem vcd_okp {E : List Nat} {l : List Oper} {h : List LB} (hok : opsOk l pm.N = true) : ∀ (r : List Oper), (∀ o ∈ r, o ∈ l) → r.all (pureO E) = true → ∀ (ρ : Env) (K : St → Prop), vcd P pm E l h r ρ K →
    AXd P pm h l.toArray r ρ fun ρ' => K ⟨ρ', h⟩
  | [], _, _, ρ, K, hh => AXd.nil hh
  | o :: rest, hm, hpu, ρ, K, hh => by
    simp only [List.all_cons, Bool.and_eq_true] at hpu
    have ih := vcd_okp (h := h) hok rest (fun o ho => hm o (by simp [ho])) hpu.2
    unfold vcd at hh
    rw [hpu.1] at hh
    simp only [cond_true] at hh
    refine vgd_okd (fun ρ hy => ?_) (fun ρ hn => ih _ _ hn) hh
    obtain ⟨r, hq, hk⟩ := vq_ok hy
    exact ⟨r, hq, ih _ _ hk⟩
def startA (m n : Nat) (σ : List AlO) : List Bool := (List.range n).map fun j => decide (j < m) || σ.any fun x => x.i == j
def RegT (P : Program) (pm : Pm) (l : List Oper) (L : List Bool) (st : St) (Q : Exit → St → Prop) (_ : Tok Q) : Prop :=
  opsOk l pm.N = true → ∀ cx G a w, cx.pm = pm → Sat cx G st a w → wpAny P .any l.toArray (Post cx Q) (L.count false) L.toArray a w
def RestA (P : Program) (pm : Pm) (l : List Oper) (m : Nat) (As : List AlO) (h : List LB) (st : St) (Q : Exit → St → Prop) (tk : Tok Q) : Prop :=
  ∀ σ, σ.Nodup → (∀ x ∈ σ, x ∈ As) → RegT P pm l (startA m l.length σ) ⟨putA h.length σ st.env, h ++ σ.map AlO.lb⟩ Q tk
theorem count_getD (L : List Bool) : ((List.range L.length).countP fun j => !L.toArray.getD j false) = L.count false := by
  have e : L = (List.range L.length).map fun j => L.toArray.getD j false := by
    refine List.ext_getElem (by simp) fun i h1 h2 => ?_
    simp [Array.getD, h1]
  conv => rhs; rw [e]
  rw [List.count, List.countP_map]
  apply List.countP_congr
  intro j hj
  simp only [Function.comp]
  cases h : L.toArray.getD j false <;> rfl
theorem RegV.preA {E : List Nat} {id : Nat} {l : List Oper} {ρ : Env} {h : List LB} {Q : Exit → St → Prop} {tk : Tok Q} (hm : P.follows .mixedOrders = true) (m : Nat) (As : List AlO) (hc : preOkA l m pm.N (As.map fun x => (x.i, x.d, x.t)) = true) (hpu : (l.take m).all (pureO E) = true) (hz : ∀ x ∈ As, zeroC P x.t = some x.zc)
    (hh : ap (vcd P pm E l h (l.take m) ρ) (fun st' => (∀ hA, ap (vcd P pm E l (h ++ hA) (l.take m) ρ) (fun st'' => st''.env = st'.env) ⟨⟩) ∧ RestA P pm l m As h st' Q tk) ⟨⟩) : RegV P pm id l ⟨ρ, h⟩ Q tk := by
  intro hok cx G a w hp s
  have c := preOkA_spec hc
  obtain ⟨ρ', hrun, hA, hR⟩ := vcd_okp (P := P) (pm := pm) (E := E) (l := l) (h := h) hok (l.take m) (fun o ho => List.mem_of_mem_take ho) hpu ρ _ hh
  have hrunA : ∀ hA, Run P pm (h ++ hA) l.toArray (l.take m) ρ ρ' := fun hB => by
    obtain ⟨ρ₁, h1, h2⟩ := vcd_okp (P := P) (pm := pm) (E := E) (l := l) (h := h ++ hB) hok (l.take m) (fun o ho => List.mem_of_mem_take ho) hpu ρ _ (hA hB)
    have h2 : ρ₁ = ρ' := h2
    rw [← h2]; exact h1
  refine wp2_region_any hm ?_
  have s' : SatH cx G h { w with drawn := w.drawn + 1 } := s.h.later ((Below.refl _ w).drew)
  refine pre_anyA (Q := Post cx Q) c hp hz hrunA (fun σ hn hs G a w sat listed hsz hl => ?_) _ _ a _ [] ?_ ⟨⟨G, by simpa using s', fun t ht => ?_, fun t _ _ => s.ev (.tmp t), fun j x hx => by simp at hx⟩, s.N, s.defers, by simp, List.nodup_nil, fun x hx => (List.not_mem_nil hx).elim, fun i _ hil => by simp [Array.getD, hil], fun i o hi hD => ?_⟩
  · have e : listed = (startA m l.length σ).toArray := by
      refine Array.ext (by simp [startA, hsz]) fun j h1 h2 => ?_
      have h3 := hl j (by omega)
      simp only [Array.getD, h1, dif_pos] at h3
      rw [show listed[j] = (decide (j < m) || σ.any fun x => x.i == j) from h3]
      simp [startA]
    have hlen : (startA m l.length σ).length = l.length := by simp [startA]
    have hcount := count_getD (startA m l.length σ)
    rw [hlen] at hcount
    rw [e, hcount]
    exact hR σ hn hs hok cx G a w hp sat
  · have : ∀ n k, n ≤ k → ((List.range n).countP fun j => !(Array.replicate k false).getD j false) = n := by
      intro n k hnk
      have : ((List.range n).countP fun j => !(Array.replicate k false).getD j false) = (List.range n).countP fun _ => true := by
        apply List.countP_congr
        intro j hj
        rw [List.mem_range] at hj
        simp [Array.getD, show j < k by omega]
      rw [this]; simp
    simpa using this l.length l.length (Nat.le_refl _)
  · obtain ⟨j, oj, b1, b2, b3, b4⟩ := ht
    exfalso
    have hj := getElem?_lt b2
    simp [Array.getD, hj] at b4
  · exfalso
    have hj := getElem?_lt hi
    simp [Array.getD, hj] at hD
/-! ### by a table of the sets, with variants of what has come up -/
abbrev Vs := List (Option (Nat × AV)) × List (Option (List LB))
def gv : List Vs → Nat → Vs
  | [], _ => ([], [])
  | x :: _, 0 => x
  | _ :: r, n + 1 => gv r n
def tstP (e0 : Env) (h0 : List LB) (x : Vs) (L : List Bool) : St := tst e0 h0 x.1 x.2 L
@[push_cast] theorem gv_0 (x : Vs) (r : List Vs) : gv (x :: r) 0 = x := (rfl)
@[push_cast] theorem gv_1 (x y : Vs) (r : List Vs) : gv (x :: y :: r) 1 = y := (rfl)
@[push_cast] theorem gv_2 (x y z : Vs) (r : List Vs) : gv (x :: y :: z :: r) 2 = z := (rfl)
@[push_cast] theorem tstP_eq (e0 : Env) (h0 : List LB) (a : List (Option (Nat × AV))) (b : List (Option (List LB))) (L : List Bool) : tstP e0 h0 (a, b) L = tst e0 h0 a b L := (rfl)
section
variable (P : Program) (pm : Pm) (E : List Nat) (l : List Oper) (e0 : Env) (h0 : List LB) (vs : List Vs)
def obvI (v : Nat) (L : List Bool) (i v' : Nat) : Option Oper → Prop
  | some o => ap2 (vgd l o.guard (tstP e0 h0 (gv vs v) L)) (fun st => ap (vrun P pm E o st) (fun st' => EqSt st' (tstP e0 h0 (gv vs v') (L.set i true))) ⟨⟩) (fun st => EqSt (st.put o.dst U) (tstP e0 h0 (gv vs v') (L.set i true))) ⟨⟩ ⟨⟩
  | none => False
def obvL (v : Nat) (L : List Bool) : List (Nat × Nat) → Prop
  | [] => True
  | i :: r => obvI P pm E l e0 h0 vs v L i.1 i.2 l[i.1]? ∧ obvL v L r
def obvT : List (Nat × List Bool × List (Nat × Nat)) → Prop
  | [] => True
  | x :: r => obvL P pm E l e0 h0 vs x.1 x.2.1 x.2.2 ∧ obvT r
end
def tabVok (l : List Oper) (tab : List (Nat × List Bool × List (Nat × Nat))) : Bool :=
  tab.all fun x => decide (x.2.1.length = l.length) && (Region.ready .any l.toArray x.2.1.toArray == x.2.2.map (·.1)) && x.2.2.all (fun i => tab.any fun y => y.1 == i.2 && y.2.1 == x.2.1.set i.1 true) && (x.2.2 != [] || x.2.1.all id)
section
variable {E : List Nat} {l : List Oper} {e0 : Env} {h0 : List LB} {vs : List Vs}
theorem obvT_at : ∀ (tab : List (Nat × List Bool × List (Nat × Nat))), obvT P pm E l e0 h0 vs tab → ∀ x ∈ tab, obvL P pm E l e0 h0 vs x.1 x.2.1 x.2.2
  | [], _, x, hx => by cases hx
  | y :: r, h, x, hx => by
    rcases List.mem_cons.1 hx with rfl | hx
    · exact h.1
    · exact obvT_at r h.2 x hx
theorem obvL_at (v : Nat) (L : List Bool) : ∀ (is : List (Nat × Nat)), obvL P pm E l e0 h0 vs v L is → ∀ i ∈ is, obvI P pm E l e0 h0 vs v L i.1 i.2 l[i.1]?
  | [], _, i, hi => by cases hi
  | y :: r, h, i, hi => by
    rcases List.mem_cons.1 hi with rfl | hi
    · exact h.1
    · exact obvL_at v L r h.2 i hi
theorem set_okx {l : List Oper} {cx : Cx} (hp : cx.pm = pm) {Q : Exit → Act → World → Prop} {J : List Bool → St → Prop} (hlen : ∀ L st, J L st → L.length = l.length)
    (hstep : ∀ L st, J L st → ∀ i, i ∈ Region.ready .any l.toArray L.toArray → ∃ o, l[i]? = some o ∧ AXl P pm l.toArray [o] st (fun st' => J (L.set i true) st'))
    (hQ : ∀ L st, J L st → Region.ready .any l.toArray L.toArray = [] → ∀ G a w, Sat cx G st a w → Q .normal a w) : ∀ (n : Nat) (L : List Bool) (st : St), J L st → L.count false = n → ∀ G a w, Sat cx G st a w → wpAny P .any l.toArray Q n L.toArray a w
  | 0, L, st, hj, hc, G, a, w, s => by
    have hr := none_ready l L (hlen L st hj) hc
    exact ⟨hr, hQ L st hj hr G a w s⟩
  | n + 1, L, st, hj, hc, G, a, w, s => by
    refine ⟨fun hr => hQ L st hj hr G a w s, fun i hi => ?_⟩
    obtain ⟨o, ho, key⟩ := hstep L st hj i hi
    have hf := ready_at (hlen L st hj) hi
    have hcs := countFalse_set L i hf
    refine wpOp_of_list ho ?_
    refine key cx G a w _ hp s fun G' st' a' w' s' hk => ?_
    have e : (L.toArray.setIfInBounds i true) = (L.set i true).toArray := by simp
    rw [e]
    exact set_okx hp hlen hstep hQ n (L.set i true) st' hk (by omega) G' a' w' s'
theorem RegT.tab {Q : Exit → St → Prop} {tk : Tok Q} (tab : List (Nat × List Bool × List (Nat × Nat))) (hc : tabVok l tab = true) (ho : obvT P pm E l e0 h0 vs tab) (hK : ∀ x ∈ tab, x.2.2 = [] → Q .normal (tstP e0 h0 (gv vs x.1) (List.replicate l.length true)))
    {L0 : List Bool} {st : St} (v : Nat) (hz : tab.any (fun x => x.1 == v && x.2.1 == L0) = true) (hs : tstP e0 h0 (gv vs v) L0 = st) : RegT P pm l L0 st Q tk := by
  intro hok cx G a w hp s
  have hc' := List.all_eq_true.1 hc
  refine set_okx (P := P) (Q := Post cx Q) (J := fun L st => ∃ v is, (v, L, is) ∈ tab ∧ st = tstP e0 h0 (gv vs v) L) hp (fun L st hj => ?_) (fun L st hj i hi => ?_) (fun L st hj hr G a w s => ⟨G, st, s, ?_⟩) (L0.count false) L0 st ?_ rfl G a w s
  · obtain ⟨v, is, hx, _⟩ := hj
    have := hc' _ hx
    simp only [Bool.and_eq_true, decide_eq_true_eq] at this
    exact this.1.1.1
  · obtain ⟨v, is, hx, rfl⟩ := hj
    have := hc' _ hx
    simp only [Bool.and_eq_true, decide_eq_true_eq, beq_iff_eq] at this
    obtain ⟨⟨⟨q1, q2⟩, q3⟩, _⟩ := this
    rw [q2] at hi
    obtain ⟨iv, hiv, rfl⟩ := List.mem_map.1 hi
    have hob := obvL_at v L is (obvT_at tab ho _ hx) iv hiv
    obtain ⟨y, hy, he⟩ := List.any_eq_true.1 (List.all_eq_true.1 q3 iv hiv)
    simp only [Bool.and_eq_true, beq_iff_eq] at he
    have hmem : (iv.2, L.set iv.1 true, y.2.2) ∈ tab := by
      rw [← he.1, ← he.2]; exact hy
    cases hl : l[iv.1]? with
    | none => rw [hl] at hob; exact hob.elim
    | some o =>
      rw [hl] at hob
      refine ⟨o, rfl, ?_⟩
      have hw : ∀ st', EqSt st' (tstP e0 h0 (gv vs iv.2) (L.set iv.1 true)) → ∃ v is, (v, L.set iv.1 true, is) ∈ tab ∧ st' = tstP e0 h0 (gv vs v) (L.set iv.1 true) := fun st' h => ⟨iv.2, y.2.2, hmem, h⟩
      obtain ⟨g1, g2⟩ := opsOk_at hok (List.mem_of_getElem? hl)
      have hob' : vgd l o.guard (tstP e0 h0 (gv vs v) L) (fun st => vrun P pm E o st fun st' => EqSt st' (tstP e0 h0 (gv vs iv.2) (L.set iv.1 true))) (fun st => EqSt (st.put o.dst U) (tstP e0 h0 (gv vs iv.2) (L.set iv.1 true))) := hob
      have key : AXl P pm l.toArray [o] (tstP e0 h0 (gv vs v) L) (fun st' => EqSt st' (tstP e0 h0 (gv vs iv.2) (L.set iv.1 true))) := vgd_ok g2 g1 (fun st hst => by
        intro ops rest' K' hK'
        exact vrun_ok g2 hst ops rest' K' fun st' hst' => hK' st' (AXl.nil hst')) (fun st hst => AXl.nil hst) hob'
      exact fun cx G a w Q hp s hQ => key cx G a w Q hp s fun G' st' a' w' s' h => hQ G' st' a' w' s' (hw st' h)
  · obtain ⟨v, is, hx, rfl⟩ := hj
    have := hc' _ hx
    simp only [Bool.and_eq_true, decide_eq_true_eq, beq_iff_eq, Bool.or_eq_true, bne_iff_ne] at this
    obtain ⟨⟨⟨q1, q2⟩, _⟩, q4⟩ := this
    have his : is = [] := by
      rw [hr] at q2
      exact List.map_eq_nil_iff.1 q2.symm
    have hall : L = List.replicate l.length true := by
      rcases q4 with q4 | q4
      · exact absurd his q4
      · rw [← q1]
        refine List.eq_replicate_iff.2 ⟨rfl, fun b hb => ?_⟩
        exact (List.all_eq_true.1 q4 b hb)
    have := hK _ hx his
    rw [← hall] at this
    exact this
  · obtain ⟨x, hx, he⟩ := List.any_eq_true.1 hz
    simp only [Bool.and_eq_true, beq_iff_eq] at he
    exact ⟨v, x.2.2, by rw [← he.1, ← he.2]; exact hx, hs.symm⟩
@[push_cast] theorem obvT_n : obvT P pm E l e0 h0 vs [] = True := (rfl)
@[push_cast] theorem obvT_c (v : Nat) (L : List Bool) (is : List (Nat × Nat)) (r : List (Nat × List Bool × List (Nat × Nat))) : obvT P pm E l e0 h0 vs ((v, L, is) :: r) = (obvL P pm E l e0 h0 vs v L is ∧ obvT P pm E l e0 h0 vs r) := (rfl)
@[push_cast] theorem obvL_n (v : Nat) (L : List Bool) : obvL P pm E l e0 h0 vs v L [] = True := (rfl)
@[push_cast] theorem obvL_c (v : Nat) (L : List Bool) (i v' : Nat) (r : List (Nat × Nat)) : obvL P pm E l e0 h0 vs v L ((i, v') :: r) = (obvI P pm E l e0 h0 vs v L i v' l[i]? ∧ obvL P pm E l e0 h0 vs v L r) := (rfl)
@[push_cast] theorem obvI_s (v : Nat) (L : List Bool) (i v' : Nat) (o : Oper) : obvI P pm E l e0 h0 vs v L i v' (some o) = ap2 (vgd l o.guard (tstP e0 h0 (gv vs v) L)) (fun st => ap (vrun P pm E o st) (fun st' => EqSt st' (tstP e0 h0 (gv vs v') (L.set i true))) ⟨⟩) (fun st => EqSt (st.put o.dst U) (tstP e0 h0 (gv vs v') (L.set i true))) ⟨⟩ ⟨⟩ := (rfl)
theorem sub1 {x : AlO} {σ : List AlO} (hn : σ.Nodup) (hs : ∀ y ∈ σ, y ∈ [x]) : σ = [] ∨ σ = [x] := by
  cases σ with
  | nil => exact .inl rfl
  | cons y r =>
    obtain rfl := List.mem_singleton.1 (hs y (List.mem_cons_self ..))
    cases r with
    | nil => exact .inr rfl
    | cons z r =>
      obtain rfl := List.mem_singleton.1 (hs z (List.mem_cons_of_mem _ (List.mem_cons_self ..)))
      exact absurd (List.mem_cons_self ..) (List.nodup_cons.1 hn).1
def has (tab : List (Nat × List Bool × List (Nat × Nat))) (v : Nat) (L : List Bool) : Bool := tab.any fun x => x.1 == v && x.2.1 == L
def fin (tab : List (Nat × List Bool × List (Nat × Nat))) (f : List Nat) : Bool := tab.all fun x => x.2.2 != [] || f.contains x.1
theorem RestA.tab1 {m : Nat} {h : List LB} {st : St} {Q : Exit → St → Prop} {tk : Tok Q} {x : AlO} (tab : List (Nat × List Bool × List (Nat × Nat))) (vs : List Vs) (hc : tabVok l tab = true)
    (hz : (has tab 0 (startA m l.length []) && has tab 0 (startA m l.length [x]) && fin tab [0]) = true)
    (s0 : tstP st.env h (gv vs 0) (startA m l.length []) = st) (hh : st.heap = h)
    (s1 : tstP st.env h (gv vs 0) (startA m l.length [x]) = ⟨putA h.length [x] st.env, h ++ [x.lb]⟩)
    (ho : obvT P pm E l st.env h vs tab) (hK : Q .normal (tstP st.env h (gv vs 0) (List.replicate l.length true))) : RestA P pm l m [x] h st Q tk := by
  simp only [Bool.and_eq_true] at hz
  have hK' : ∀ x ∈ tab, x.2.2 = [] → Q .normal (tstP st.env h (gv vs x.1) (List.replicate l.length true)) := fun y hy he => by
    have := List.all_eq_true.1 hz.2 y hy
    rw [he] at this
    have : y.1 = 0 := by simpa using this
    rw [this]; exact hK
  intro σ hn hs
  rcases sub1 hn hs with rfl | rfl
  · refine RegT.tab (E := E) tab hc ho hK' 0 hz.1.1 ?_
    rw [s0]
    obtain ⟨e, hp⟩ := st
    subst hh
    simp [putA]
  · exact RegT.tab (E := E) tab hc ho hK' 0 hz.1.2 s1
end
end Go.Ax

/- A region by a table of the sets with variants, from its start. No condition. -/
namespace Go.Ax
open Go Go.RowKit
variable {P : Program} {pm : Pm}
@[push_cast] theorem gv_s (x : Vs) (r : List Vs) (n : Nat) : gv (x :: r) (n + 1) = gv r n := (rfl)
end Go.Ax

/- A nil slice in a box, taken as an empty row of the call's own, ahead of a loop. No condition. -/
namespace Go.Ax
open Go Go.RowKit
variable {P : Program} {pm : Pm} {st : St}
end Go.Ax

/- Loops at whose head what a box holds is read as data. No condition. -/
namespace Go.Ax
open Go Go.RowKit
variable {P : Program} {pm : Pm} {E : List Nat}
def frzB4 (j c : Nat) (st : St) (tb : TypeId) (cs : List C) (i ver : Nat) : Option LB → St
  | some (.row _ sz els v') => if ver = v' then ⟨st.env, (st.heap.set i .dead).set j (.box tb (cs.set c (.d (.lst sz els))))⟩ else st
  | _ => st
def frzB3 (j c sz : Nat) (st : St) (tb : TypeId) (cs : List C) : Option C → St
  | some (.own i ver) => frzB4 j c st tb cs i ver st.heap[i]?
  | some (.d (.raw (.slice none 0 0))) => ⟨st.env, st.heap.set j (.box tb (cs.set c (.d (.lst sz []))))⟩
  | _ => st
def frzB2 (j c sz : Nat) (st : St) : Option LB → St
  | some (.box tb cs) => frzB3 j c sz st tb cs cs[c]?
  | _ => st
def frzB (j c sz : Nat) (st : St) : St := frzB2 j c sz st st.heap[j]?
@[push_cast] theorem frzB_eq (j c sz : Nat) (e : Env) (h : List LB) : frzB j c sz ⟨e, h⟩ = frzB2 j c sz ⟨e, h⟩ h[j]? := (rfl)
@[push_cast] theorem frzB2_b (j c sz : Nat) (st : St) (tb : TypeId) (cs : List C) : frzB2 j c sz st (some (.box tb cs)) = frzB3 j c sz st tb cs cs[c]? := (rfl)
@[push_cast] theorem frzB3_o (j c sz : Nat) (e : Env) (h : List LB) (tb : TypeId) (cs : List C) (i ver : Nat) : frzB3 j c sz ⟨e, h⟩ tb cs (some (.own i ver)) = frzB4 j c ⟨e, h⟩ tb cs i ver h[i]? := (rfl)
@[push_cast] theorem frzB3_n (j c sz : Nat) (e : Env) (h : List LB) (tb : TypeId) (cs : List C) : frzB3 j c sz ⟨e, h⟩ tb cs (some (.d (.raw (.slice none 0 0)))) = ⟨e, h.set j (.box tb (cs.set c (.d (.lst sz []))))⟩ := (rfl)
@[push_cast] theorem frzB3_d (j c sz n : Nat) (st : St) (tb : TypeId) (cs : List C) (els : List (List D)) : frzB3 j c sz st tb cs (some (.d (.lst n els))) = st := (rfl)
@[push_cast] theorem frzB4_r (j c : Nat) (e : Env) (h : List LB) (tb t : TypeId) (cs : List C) (i ver sz : Nat) (els : List (List D)) : frzB4 j c ⟨e, h⟩ tb cs i ver (some (.row t sz els ver)) = ⟨e, (h.set i .dead).set j (.box tb (cs.set c (.d (.lst sz els))))⟩ := (if_pos rfl)
theorem Fw.trans {a b c : St} (h1 : Fw pm a b) (h2 : Fw pm b c) : Fw pm a c := fun cx G x w hp s => by
  obtain ⟨G1, s1⟩ := h1 cx G x w hp s
  exact h2 cx G1 x w hp s1
end Go.Ax

/- A nil slice in a box of the call's own, ahead of a loop. -/
namespace Go.Ax
open Go
variable {P : Program} {pm : Pm} {E : List Nat}
end Go.Ax

/- A row of the call's own, changed in its place; the call may make new objects. -/
namespace Go.Ax
open Go
theorem SatH.inplace {cx : Cx} {G : Gh} {h : List LB} {w w' : World} (s : SatH cx G h w) {i : Nat} {lb lb' : LB} {e : Value × Nat} (hi : h[i]? = some lb) (hlv : lb.live) (he : G.g[i]? = some e)
    (hg : w.grownBy w' (blkOf e.1)) (hl : Lr G w' cx.w0.heap.size lb' e) : SatH cx G (h.set i lb') w' := by
  have hbb : ∀ k, blkOf e.1 = some k → cx.w0.heap.size ≤ k ∧ k < w.heap.size ∧ G.V.H k = none := fun k hb => (s.ent i _ _ hi he).blk hlv hb
  refine ⟨by simp [s.len], fun j b' e' hj he' => ?_, ?_, fun k o ho => ?_, s.imm, s.below.grown hg s.below.size (fun k hk => (hbb k hk).1), s.ext, s.glob, Nat.le_trans s.sz hg.size⟩
  · rcases getElem?_set' hj with ⟨rfl, rfl⟩ | ⟨hne, hj⟩
    · rw [he] at he'; cases he'; exact hl
    · exact (s.ent j _ _ hj he').world fun hlj k hk => hg.block k ((s.ent j _ _ hj he').blk hlj hk).2.1 fun e => hne (s.sep j i b' lb e' _ k hj hi hlj hlv he' he hk e.symm)
  · intro j k bj bk ej ek x h1 h2 h3 h4 h5 h6 h7 h8
    rcases getElem?_set' h1 with ⟨rfl, rfl⟩ | ⟨hne, q1⟩ <;> rcases getElem?_set' h2 with ⟨rfl, rfl⟩ | ⟨hne', q2⟩
    · rfl
    · exact s.sep _ _ lb bk ej ek x hi q2 hlv h4 h5 h6 h7 h8
    · exact s.sep _ _ bj lb ej ek x q1 hi h3 hlv h5 h6 h7 h8
    · exact s.sep _ _ bj bk ej ek x q1 q2 h3 h4 h5 h6 h7 h8
  · have h1 := s.view k o ho
    rw [hg.block k (heap_lt h1) (fun e => by rw [(hbb k e.symm).2.2] at ho; cases ho)]
    exact h1
def RowOp (P : Program) (f : FuncId) (te : TypeId) (sz : Nat) (els els' : List (List D)) (moved : Bool) : Prop :=
  ∀ (V : Vw) (base : Nat) (v : Value) (xs : List Value) (w : World), w.ownsRow base te sz v els.length xs → All2 (Dr V) els.flatten xs →
    Calls P f #[v] w fun e w' => ∃ v' xs', e = .returned (if moved then v' else .tuple #[]) ∧ (moved = false → v' = v) ∧ w'.ownsRow base te sz v' els'.length xs' ∧ All2 (Dr V) els'.flatten xs' ∧ w.grownBy w' v.ownBlock ∧ v'.ownBlock = v.ownBlock
variable {P : Program} {pm : Pm} {st : St} {o : Oper} {aas : List AV}
theorem CallL.row {k : St → Prop} {t : Tok k} {f : FuncId} {x a1 : Operand} {ts : Array TypeId} {i ver : Nat} {te : TypeId} {sz : Nat} {els els' : List (List D)}
    (hc : RowOp P f te sz els els' true) (hsz : ∀ e ∈ els', e.length = sz) (hi : st.heap[i]? = some (.row te sz els ver))
    (hcall : CallOk P f)
    (hk : k (St.put ⟨st.env, st.heap.set i (.row te sz els' (ver + 1))⟩ o.dst (.c (.own i (ver + 1)))))
    (hop : o.op = .call { callee := .value x, args := #[a1], argTypes := ts } := by rfl) (hx : ev pm.Γ st.env x = .c (.clo f []) := by rfl) (h1 : ev pm.Γ st.env a1 = .c (.own i ver) := by rfl) (hd : dstOk pm.N o.dst := by first | trivial | (show (_ : Nat) < _; exact Nat.le_of_ble_eq_true rfl)) :
    CallL P pm o st (.c (.clo f [])) aas k t := by
  refine .inr (.inr fun ops rest K hK => ?_)
  obtain ⟨dst, op, ty, pos, af, gd⟩ := o
  simp only at hop hd
  subst hop
  intro cx G a w Q hpm s hQ
  refine wpList_plain rfl fun K' hK' => ?_
  subst hpm
  obtain ⟨v, xs, hg, how, hob, hdr, hl⟩ := row_at s.h hi
  obtain ⟨_, v0, n', hg', _, hxx⟩ := (h1 ▸ s.ev a1 : Ar G (.c (.own i ver)) (a.eval a1))
  rw [hg] at hg'
  cases hg'
  have e1 := hxx rfl
  have hxv : Ar G (.c (.clo f [])) (a.eval x) := hx ▸ s.ev x
  obtain ⟨bs, hxe, hbs⟩ := hxv
  cases hbs
  have hr : (execOp a.eval ⟨dst, .call { callee := .value x, args := #[a1], argTypes := ts }, ty, pos, af, none⟩).run P w = .ok (.enter f #[v]) w := by
    simp [execOp, resolve, Deferred.ofValue, hxe, invoke, run_callFunc hcall, e1]
  unfold Oper.wp
  rw [hr]
  refine (hc G.V cx.w0.heap.size v xs w how hdr).mono fun e w' hafter => ?_
  obtain ⟨v', xs', rfl, _, how', hdr', hgr, hat⟩ := hafter
  have f1 := row_form how
  have f2 := row_form how'
  have hL : ∀ G' : Gh, G'.V = G.V → Lr G' w' cx.w0.heap.size (.row te sz els' (ver + 1)) (v', ver + 1) := fun G' hV =>
    ⟨rfl, xs', how', fun b hb => by rw [hV]; exact hob b (by rw [← hat]; exact hb), by rw [hV]; exact hdr', hsz⟩
  obtain ⟨hG, s'⟩ := s.h.move (w' := w') (v' := v') (n' := ver + 1) (lb' := .row te sz els' (ver + 1)) hi trivial hg (by omega) f1.1 f1.2.1 f2.2.1 hgr (.inl hat) f1.2.2.1 hL
  exact hK' _ _ (hK _ hk cx _ _ w' Q rfl ((s.step hG s').put (α := .c (.own i (ver + 1))) ⟨f2.2.2.2, v', ver + 1, by simp [getElem?_lt hg], Nat.le_refl _, fun _ => rfl⟩ hd) hQ)
theorem CallL.rowIn {k : St → Prop} {t : Tok k} {f : FuncId} {x a1 : Operand} {ts : Array TypeId} {i ver : Nat} {te : TypeId} {sz : Nat} {els els' : List (List D)}
    (hc : RowOp P f te sz els els' false) (hsz : ∀ e ∈ els', e.length = sz) (hi : st.heap[i]? = some (.row te sz els ver))
    (hcall : CallOk P f)
    (hk : k (St.put ⟨st.env, st.heap.set i (.row te sz els' ver)⟩ o.dst (rsAV [])))
    (hop : o.op = .call { callee := .value x, args := #[a1], argTypes := ts } := by rfl) (hx : ev pm.Γ st.env x = .c (.clo f []) := by rfl) (h1 : ev pm.Γ st.env a1 = .c (.own i ver) := by rfl) (hd : dstOk pm.N o.dst := by first | trivial | (show (_ : Nat) < _; exact Nat.le_of_ble_eq_true rfl)) :
    CallL P pm o st (.c (.clo f [])) aas k t := by
  refine .inr (.inr fun ops rest K hK => ?_)
  obtain ⟨dst, op, ty, pos, af, gd⟩ := o
  simp only at hop hd
  subst hop
  intro cx G a w Q hpm s hQ
  refine wpList_plain rfl fun K' hK' => ?_
  subst hpm
  obtain ⟨v, xs, hg, how, hob, hdr, hl⟩ := row_at s.h hi
  obtain ⟨_, v0, n', hg', _, hxx⟩ := (h1 ▸ s.ev a1 : Ar G (.c (.own i ver)) (a.eval a1))
  rw [hg] at hg'
  cases hg'
  have e1 := hxx rfl
  have hxv : Ar G (.c (.clo f [])) (a.eval x) := hx ▸ s.ev x
  obtain ⟨bs, hxe, hbs⟩ := hxv
  cases hbs
  have hr : (execOp a.eval ⟨dst, .call { callee := .value x, args := #[a1], argTypes := ts }, ty, pos, af, none⟩).run P w = .ok (.enter f #[v]) w := by
    simp [execOp, resolve, Deferred.ofValue, hxe, invoke, run_callFunc hcall, e1]
  unfold Oper.wp
  rw [hr]
  refine (hc G.V cx.w0.heap.size v xs w how hdr).mono fun e w' hafter => ?_
  obtain ⟨v', xs', rfl, hvv, how', hdr', hgr, hat⟩ := hafter
  have := hvv rfl
  subst this
  have f1 := row_form how
  have hL : Lr G w' cx.w0.heap.size (.row te sz els' ver) (v', ver) := ⟨rfl, xs', how', hob, hdr', hsz⟩
  have hbk : blkOf v' = v'.ownBlock := by
    cases hb : v'.ownBlock with
    | none =>
      cases hb' : blkOf v' with
      | none => rfl
      | some k => have := f1.2.1 k hb'; rw [hb] at this; cases this
    | some k => exact f1.2.2.1 k hb
  have s' := s.h.inplace (w' := w') (lb' := .row te sz els' ver) hi trivial hg (hbk ▸ hgr) hL
  exact hK' _ _ (hK _ hk cx _ _ w' Q rfl ((s.step (.refl _ _) s').put (α := rsAV []) (rsAV_ok .nil) hd) hQ)
end Go.Ax

/- Quotient and rest of whatever integer, by a positive one. -/
namespace Go.Ax
open Go
variable {P : Program} {h : List LB} {ρ : Operand → AV} {dst : Option Tmp} {ty : TypeId} {p : String} {af : Array Edge} {gd : Option (Nat × Bool)}
end Go.Ax

/- A call ahead of which the state is read through (rows left behind as data). No condition. -/
namespace Go.Ax
open Go
variable {P : Program} {pm : Pm} {st st' : St} {o : Oper}
theorem CallL.fw {k : St → Prop} {t : Tok k} {x : Operand} {as : Array Operand} {ts : Array TypeId} {α : AV} {aas : List AV} (st' : St) (hfw : fitsV pm st st')
    (h : CallL P pm o st' (ev pm.Γ st'.env x) (as.toList.map (ev pm.Γ st'.env)) k ⟨⟩)
    (hop : o.op = .call { callee := .value x, args := as, argTypes := ts } := by rfl) (hd : dstOk pm.N o.dst := by first | trivial | (show (_ : Nat) < _; exact Nat.le_of_ble_eq_true rfl)) :
    CallL P pm o st α aas k t := by
  refine .inr (.inr fun ops rest K hK => ?_)
  obtain ⟨dst, op, ty, pos, af, gd⟩ := o
  simp only at hop hd
  subst hop
  have hl : Lf P pm ⟨dst, .call { callee := .value x, args := as, argTypes := ts }, ty, pos, af, gd⟩ st' k := by
    have := CallL_ok (P := P) (pm := pm) (ty := ty) (p := pos) (af := af) (gd := gd) (x := x) (as := as.toList) (ts := ts) (st := st') (k := k) hd (by simpa using h)
    simpa using this
  intro cx G a w Q hp s hQ
  obtain ⟨G', s'⟩ := fitsV_ok hfw cx G a w hp s
  exact hl ops rest K hK cx G' a w Q hp s' hQ
theorem CallL.frm {k : St → Prop} {t : Tok k} {x : Operand} {as : Array Operand} {ts : Array TypeId} {α : AV} {aas : List AV} (keep : List Nat) (vars : List (Nat × AV)) (heap : List LB) (hfw : fitsV pm st ⟨frame keep st.env vars, heap⟩)
    (h : CallL P pm o ⟨frame keep st.env vars, heap⟩ (ev pm.Γ (frame keep st.env vars) x) (as.toList.map (ev pm.Γ (frame keep st.env vars))) k ⟨⟩)
    (hop : o.op = .call { callee := .value x, args := as, argTypes := ts } := by rfl) (hd : dstOk pm.N o.dst := by first | trivial | (show (_ : Nat) < _; exact Nat.le_of_ble_eq_true rfl)) :
    CallL P pm o st α aas k t := CallL.fw _ hfw h hop hd
end Go.Ax
