/-
  The operations that leave memory alone, one rule for each; a rule is stated of the operands' readings alone. No condition.
-/
import Derived.Test.YtimehiamdikinaaAxB
set_option linter.all false
namespace Go.Ax
open Go Go.RowKit

variable {P : Program}

/-- An operation that may make memory that stays, and writes none: from the readings of its operands the reading of its result. -/
def Qt (P : Program) (pm : Pm) (h : List LB) (o : Oper) (ρ : Operand → AV) (r : AV) : Prop :=
  ∀ (cx : Cx) (G : Gh) (w : World) (a : Act), cx.pm = pm → SatH cx G h w → (∀ x ∈ o.op.operands.toList, Ar G (ρ x) (a.eval x)) →
    ∀ (next : Act → World → Prop) (Q : Exit → Act → World → Prop), (∀ v w' G', GLe G.g.length G G' → SatH cx G' h w' → Ar G' r v → next (a.put o.dst v) w') → o.wp P a w next Q

/-- The same where the world is not touched at all. -/
def Still (P : Program) (h : List LB) (o : Oper) (ρ : Operand → AV) (r : AV) : Prop :=
  ∀ (cx : Cx) (G : Gh) (w : World) (a : Act), SatH cx G h w → (∀ x ∈ o.op.operands.toList, Ar G (ρ x) (a.eval x)) →
    ∃ v, (execOp a.eval o).run P w = .ok (.value v) w ∧ Ar G r v

theorem Still.qt {pm : Pm} {h : List LB} {o : Oper} {ρ : Operand → AV} {r : AV} (hs : Still P h o ρ r) : Qt P pm h o ρ r := by
  intro cx G w a _ sh ho next Q hn
  obtain ⟨v, hr, hv⟩ := hs cx G w a sh ho
  unfold Oper.wp
  rw [hr]
  exact hn v w G (.refl _ _) sh hv

theorem AXl.qt {pm : Pm} {ops : Array Oper} {o : Oper} {rest : List Oper} {st : St} {K : St → Prop} {r : AV} (hg : o.guard = none) (hd : dstOk pm.N o.dst)
    (hq : Qt P pm st.heap o (ev pm.Γ st.env) r) (h : AXl P pm ops rest (st.put o.dst r) K) : AXl P pm ops (o :: rest) st K := by
  intro cx G a w Q hp s hQ
  refine wpList_plain hg fun K' hK' => ?_
  refine hq cx G w a hp s.h (fun x _ => hp ▸ s.ev x) _ _ fun v w' G' hG sh hv => hK' _ _ ?_
  exact h cx G' _ w' Q hp ((s.step hG sh).put hv (hp ▸ hd)) hQ

/-! ### Reading a value out of what is known of it -/
theorem ar_int {G : Gh} {k : IntKind} {n : Int} {v : Value} (h : Ar G (.c (.d (.int k n))) v) : v = .int k n := by
  generalize e : D.int k n = x at h
  have h' : Dr G.V x v := h
  cases h' <;> cases e; rfl
theorem ar_bool {G : Gh} {b : Bool} {v : Value} (h : Ar G (.c (.d (.bool b))) v) : v = .bool b := by
  generalize e : D.bool b = x at h
  have h' : Dr G.V x v := h
  cases h' <;> cases e; rfl
theorem ar_str {G : Gh} {l : List UInt8} {v : Value} (h : Ar G (.c (.d (.str l))) v) : v = .string ⟨l.toArray⟩ := by
  generalize e : D.str l = x at h
  have h' : Dr G.V x v := h
  cases h' <;> cases e; rfl
theorem ar_raw {G : Gh} {u v : Value} (h : Ar G (.c (.d (.raw u))) v) : v = u := by
  generalize e : D.raw u = x at h
  have h' : Dr G.V x v := h
  cases h' <;> cases e; rfl
theorem ar_mk {G : Gh} {x : D} {v : Value} (h : Dr G.V x v) : Ar G (.c (.d x)) v := h
theorem dr_int {V : Vw} {k : IntKind} {n : Int} {v : Value} (h : Dr V (.int k n) v) : v = .int k n := by cases h; rfl
theorem dr_bool {V : Vw} {b : Bool} {v : Value} (h : Dr V (.bool b) v) : v = .bool b := by cases h; rfl
theorem dr_str {V : Vw} {l : List UInt8} {v : Value} (h : Dr V (.str l) v) : v = .string ⟨l.toArray⟩ := by cases h; rfl

/-- A slice, however it is known: to be read. -/
def elsOf (h : List LB) : AV → Option (Nat × List (List D))
  | .c (.d (.lst sz els)) => some (sz, els)
  | .c (.bor sz els) => some (sz, els)
  | .c (.own i ver) => match h[i]? with
    | some (.row _ sz els v) => if v = ver then some (sz, els) else none
    | _ => none
  | .c (.sub i ver sz' lo n) => match h[i]? with
    | some (.row _ sz els v) => if v = ver ∧ sz = sz' ∧ lo + n ≤ els.length then some (sz, (els.drop lo).take n) else none
    | _ => none
  | _ => none

/-- What a slice's value gives in the world itself. -/
structure SlAt (V : Vw) (w : World) (sz : Nat) (els : List (List D)) (v : Value) : Prop where
  form : ∃ (A : Option Addr) (cap : Nat) (u : Nat → Nat → Value), v = .slice A els.length cap ∧ els.length ≤ cap ∧ cap ≤ maxLen ∧ (∀ e ∈ els, e.length = sz) ∧
    (els ≠ [] → ∃ ad, A = some ad ∧ ∀ i e j c, els[i]? = some e → e[j]? = some c → w.cell? (ad.add (i * sz + j)) = some (u i j)) ∧
    ∀ i e j c, els[i]? = some e → e[j]? = some c → Dr V c (u i j)

theorem cell_of_view {G : Gh} {w : World} (view : ∀ b o, G.V.H b = some o → w.heap[b]? = some o) {a : Addr} {v : Value} (h : cellIn G.V.H a = some v) : w.cell? a = some v := by
  rw [← cellIn_world]
  exact cellIn_le (fun o => view a.block o) h

theorem flat_get {sz : Nat} : ∀ (els : List (List D)), (∀ e ∈ els, e.length = sz) → ∀ (i : Nat) (e : List D) (j : Nat) (c : D), els[i]? = some e → e[j]? = some c → els.flatten[i * sz + j]? = some c
  | [], _, i, e, j, c, h, _ => by simp at h
  | x :: r, hl, 0, e, j, c, h, hc => by
    simp at h; subst h
    have hj := getElem?_lt hc
    simp [List.flatten_cons, List.getElem?_append_left hj, hc]
  | x :: r, hl, i + 1, e, j, c, h, hc => by
    have hx : x.length = sz := hl x (by simp)
    rw [List.flatten_cons, List.getElem?_append_right (by rw [hx, Nat.add_mul]; omega), hx]
    have : (i + 1) * sz + j - sz = i * sz + j := by rw [Nat.add_mul]; omega
    rw [this]
    exact flat_get r (fun e he => hl e (by simp [he])) i e j c (by simpa using h) hc

theorem flat_len {sz : Nat} : ∀ (els : List (List D)), (∀ e ∈ els, e.length = sz) → els.flatten.length = els.length * sz
  | [], _ => by simp
  | x :: r, hl => by
    rw [List.flatten_cons, List.length_append, flat_len r (fun e he => hl e (by simp [he])), hl x (by simp), List.length_cons, Nat.add_mul]; omega

theorem own_cells {w : World} {base : Nat} {t : TypeId} {sz : Nat} {v : Value} {n : Nat} {xs : List Value} (h : w.ownsRow base t sz v n xs) (hn : 0 < n) :
    ∃ g cap, v = .slice (some ⟨g, 0, none⟩) n cap ∧ base ≤ g ∧ n ≤ cap ∧ cap ≤ maxLen ∧ ∀ (j : Nat) (u : Value), xs[j]? = some u → w.cell? ⟨g, j, none⟩ = some u := by
  obtain ⟨hl, ⟨rfl, rfl⟩ | ⟨g, cap, cur, rfl, hg, hh, hc, hm, hs, ht⟩⟩ := h
  · omega
  · refine ⟨g, cap, rfl, hg, hc, hm, fun j u hj => ?_⟩
    have hjl := getElem?_lt hj
    have : cur[j]? = some u := by
      rw [← ht, List.getElem?_take] at hj
      split at hj
      · simpa using hj
      · cases hj
    simp [World.cell?, hh, this]

theorem own_form {w : World} {base : Nat} {t : TypeId} {sz : Nat} {v : Value} {n : Nat} {xs : List Value} (h : w.ownsRow base t sz v n xs) :
    ∃ A cap, v = .slice A n cap ∧ n ≤ cap ∧ cap ≤ maxLen := by
  obtain ⟨hl, ⟨rfl, rfl⟩ | ⟨g, cap, cur, rfl, hg, hh, hc, hm, hs, ht⟩⟩ := h
  · exact ⟨none, 0, rfl, Nat.le_refl _, Nat.zero_le _⟩
  · exact ⟨_, cap, rfl, hc, hm⟩

/-- A row of the call's own, read: cell by cell. -/
theorem row_at {cx : Cx} {G : Gh} {h : List LB} {w : World} (s : SatH cx G h w) {i : Nat} {t : TypeId} {sz : Nat} {els : List (List D)} {ver : Nat} (hi : h[i]? = some (.row t sz els ver)) :
    ∃ v xs, G.g[i]? = some (v, ver) ∧ w.ownsRow cx.w0.heap.size t sz v els.length xs ∧ (∀ b, v.ownBlock = some b → G.V.H b = none) ∧ All2 (Dr G.V) els.flatten xs ∧ ∀ x ∈ els, x.length = sz := by
  have hlt : i < G.g.length := by rw [s.len]; exact getElem?_lt hi
  obtain ⟨⟨v, n⟩, he⟩ : ∃ e, G.g[i]? = some e := ⟨_, List.getElem?_eq_getElem hlt⟩
  obtain ⟨h1, xs, h2, h3, h4, h5⟩ := s.ent i _ _ hi he
  simp only at h1 h2 h3
  subst h1
  exact ⟨v, xs, he, h2, h3, h4, h5⟩

theorem dr_lst {V : Vw} {sz : Nat} {els : List (List D)} {v : Value} (h : Dr V (.lst sz els) v) :
    ∃ (A : Option Addr) (cap : Nat) (u : Nat → Nat → Value), v = .slice A els.length cap ∧ els.length ≤ cap ∧ cap ≤ maxLen ∧ (∀ e ∈ els, e.length = sz) ∧
      (els ≠ [] → ∃ ad, A = some ad ∧ V.I ad.block ∧ ∀ i e j c, els[i]? = some e → e[j]? = some c → cellIn V.H (ad.add (i * sz + j)) = some (u i j)) ∧
      ∀ i e j c, els[i]? = some e → e[j]? = some c → Dr V c (u i j) := by
  generalize e : D.lst sz els = x at h
  cases h with
  | lst sz' els' A cap u hc hm he ha hu =>
    injection e with e1 e2
    subst e1 e2
    exact ⟨A, cap, u, rfl, hc, hm, he, ha, hu⟩
  | _ => cases e

theorem slAt_of {cx : Cx} {G : Gh} {h : List LB} {w : World} (s : SatH cx G h w) {α : AV} {v : Value} {sz : Nat} {els : List (List D)} (hα : elsOf h α = some (sz, els)) (hv : Ar G α v) : SlAt G.V w sz els v := by
  unfold elsOf at hα
  split at hα
  · -- lst
    simp only [Option.some.injEq, Prod.mk.injEq] at hα
    obtain ⟨rfl, rfl⟩ := hα
    obtain ⟨A, cap, u, rfl, hc, hm, he, ha, hu⟩ := dr_lst hv
    refine ⟨A, cap, u, rfl, hc, hm, he, fun hn => ?_, hu⟩
    obtain ⟨ad, e, _, hcell⟩ := ha hn
    exact ⟨ad, e, fun i e j c h1 h2 => cell_of_view s.view (hcell i e j c h1 h2)⟩
  · -- bor
    simp only [Option.some.injEq, Prod.mk.injEq] at hα
    obtain ⟨rfl, rfl⟩ := hα
    obtain ⟨A, cap, u, rfl, hc, hm, he, ha, hu⟩ := hv
    refine ⟨A, cap, u, rfl, hc, hm, he, fun hn => ?_, hu⟩
    obtain ⟨ad, e, hcell⟩ := ha hn
    exact ⟨ad, e, fun i e j c h1 h2 => cell_of_view s.view (hcell i e j c h1 h2)⟩
  · -- own
    next i ver =>
    split at hα
    · next t sz' els' v' hi =>
      split at hα
      · next hver =>
        subst hver
        simp only [Option.some.injEq, Prod.mk.injEq] at hα
        obtain ⟨rfl, rfl⟩ := hα
        obtain ⟨v0, xs, hg, how, _, hd, hl⟩ := row_at s hi
        obtain ⟨_, v0', n', hg', _, hx⟩ := hv
        rw [hg] at hg'
        cases hg'
        have := hx rfl
        subst this
        obtain ⟨A, cap, hvv, hc, hm⟩ := own_form how
        refine ⟨A, cap, fun i j => xs.getD (i * sz' + j) undef, hvv, hc, hm, hl, fun hn => ?_, ?_⟩
        · have hpos : 0 < els'.length := List.length_pos_iff.2 hn
          obtain ⟨g, cap', hv', hb, _, _, hcell⟩ := own_cells how hpos
          rw [hvv] at hv'
          injection hv' with hA _ _
          refine ⟨⟨g, 0, none⟩, hA, fun i e j c h1 h2 => ?_⟩
          obtain ⟨b, hb1, hb2⟩ := hd.get _ _ (flat_get els' hl i e j c h1 h2)
          rw [add_plain, Nat.zero_add, hcell _ b hb1]
          simp [List.getD, hb1]
        · intro i e j c h1 h2
          obtain ⟨b, hb1, hb2⟩ := hd.get _ _ (flat_get els' hl i e j c h1 h2)
          simpa [List.getD, hb1] using hb2
      · cases hα
    · cases hα
  · -- sub
    next i ver sz0 lo n =>
    split at hα
    · next t sz' els' v' hi =>
      split at hα
      · next hver =>
        obtain ⟨hver, hsz, hle⟩ := hver
        subst hver
        subst hsz
        simp only [Option.some.injEq, Prod.mk.injEq] at hα
        obtain ⟨rfl, rfl⟩ := hα
        obtain ⟨v0, xs, hg, how, _, hd, hl⟩ := row_at s hi
        obtain ⟨_, v0', n', hg', _, hx⟩ := hv
        rw [hg] at hg'
        cases hg'
        obtain ⟨A, cap, rfl, hc, hm, hA⟩ := hx rfl
        have hlen : ((els'.drop lo).take n).length = n := by rw [List.length_take, List.length_drop]; omega
        have hget : ∀ (i : Nat) (e : List D), ((els'.drop lo).take n)[i]? = some e → els'[lo + i]? = some e := fun i e he => by
          rw [List.getElem?_take] at he
          split at he
          · rwa [List.getElem?_drop] at he
          · cases he
        refine ⟨A, cap, fun i j => xs.getD ((lo + i) * sz' + j) undef, by rw [hlen], by rw [hlen]; exact hc, hm, fun e he => hl e (List.mem_of_mem_drop (List.mem_of_mem_take he)), fun hn => ?_, ?_⟩
        · have hpos : 0 < n := by have := List.length_pos_iff.2 hn; omega
          obtain ⟨b, len0, cap0, rfl, rfl⟩ := hA hpos
          obtain ⟨g, cap', hv', hb, _, _, hcell⟩ := own_cells how (by omega)
          injection hv' with hv' _ _
          injection hv' with hv'
          injection hv' with hv' _ _
          subst hv'
          refine ⟨_, rfl, fun i e j c h1 h2 => ?_⟩
          obtain ⟨u, hb1, hb2⟩ := hd.get _ _ (flat_get els' hl _ e j c (hget i e h1) h2)
          rw [add_plain, show lo * sz' + (i * sz' + j) = (lo + i) * sz' + j from by rw [Nat.add_mul]; omega, hcell _ u hb1]
          simp [List.getD, hb1]
        · intro i e j c h1 h2
          obtain ⟨b, hb1, hb2⟩ := hd.get _ _ (flat_get els' hl _ e j c (hget i e h1) h2)
          simpa [List.getD, hb1] using hb2
      · cases hα
    · cases hα
  · cases hα
end Go.Ax
