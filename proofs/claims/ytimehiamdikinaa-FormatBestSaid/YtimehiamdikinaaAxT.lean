/- A row of the call's own, taken as still from here on. No condition. -/
import Derived.Test.YtimehiamdikinaaAxS
set_option linter.all false
namespace Go.Ax
open Go Go.RowKit
variable {P : Program} {pm : Pm} {st : St}
theorem freeze_core {cx : Cx} {G : Gh} {h : List LB} {w : World} (s : SatH cx G h w) {i : Nat} {t : TypeId} {sz ver : Nat} {els : List (List D)} (hi : h[i]? = some (.row t sz els ver)) :
    ∃ V', GLe G.g.length G ⟨V', G.g⟩ ∧ SatH cx ⟨V', G.g⟩ (h.set i .dead) w ∧ ∀ v, Cr G (.own i ver) v → Dr V' (.lst sz els) v := by
  obtain ⟨v0, xs, hg, how, hob, hdr, hl⟩ := row_at s hi
  have rf := row_form how
  let V' : Vw := ⟨fun b => if blkOf v0 = some b then w.heap[b]? else G.V.H b, fun b => G.V.I b ∨ blkOf v0 = some b⟩
  have hle : G.V.Le V' := ⟨fun b o ho => by
    have hne : ¬ (blkOf v0 = some b) := fun e => by
      have := hob b (rf.2.1 b e)
      rw [this] at ho; cases ho
    simp only [V', if_neg hne]; exact ho, fun b hb => .inl hb⟩
  have hG : GLe G.g.length G ⟨V', G.g⟩ := ⟨hle, fun j v n _ e => ⟨v, n, e, Nat.le_refl _, fun _ => rfl, fun _ => ⟨rfl, rfl⟩⟩⟩
  have hblk : ∀ b, blkOf v0 = some b → (∃ o, w.heap[b]? = some o) ∧ cx.w0.heap.size ≤ b := fun b hb => by
    obtain ⟨hlen, ⟨rfl, _⟩ | ⟨g, cap, cur, rfl, hge, hh, _⟩⟩ := how
    · cases hb
    · cases hb; exact ⟨⟨_, hh⟩, hge⟩
  refine ⟨V', hG, ⟨by rw [List.length_set]; exact s.len, fun j b e hb he => ?_, fun j k bj bk ej ek q h1 h2 l1 l2 g1 g2 => ?_, fun b o ho => ?_, fun b hb => ?_, s.below, s.ext.trans (hG.all _), fun q hq => (s.glob q hq).grow hG⟩, fun v hv => ?_⟩
  · rw [List.getElem?_set] at hb
    by_cases e1 : i = j
    · subst e1
      rw [if_pos rfl, if_pos (getElem?_lt hi)] at hb
      cases hb
      trivial
    · rw [if_neg e1] at hb
      have hL := s.ent j b e hb he
      refine Lr.mono' hG (fun k hlive hk => ?_) hL
      have hne : ¬ (blkOf v0 = some k) := fun e2 => e1 (s.sep i j _ b _ e k hi hb trivial hlive hg he e2 hk)
      simp only [V', if_neg hne]
      exact (hL.blk hlive hk).2.2
  · have back : ∀ (j : Nat) (b : LB), (h.set i .dead)[j]? = some b → b.live → h[j]? = some b := fun j b hb hlive => by
      rw [List.getElem?_set] at hb
      by_cases e1 : i = j
      · subst e1
        rw [if_pos rfl, if_pos (getElem?_lt hi)] at hb
        cases hb
        exact hlive.elim
      · rwa [if_neg e1] at hb
    exact s.sep j k bj bk ej ek q (back j bj h1 l1) (back k bk h2 l2) l1 l2 g1 g2
  · simp only [V'] at ho
    split at ho
    · exact ho
    · exact s.view b o ho
  · rcases hb with hb | hb
    · obtain ⟨⟨o, ho⟩, h2⟩ := s.imm b hb
      exact ⟨⟨o, hle.H b o ho⟩, h2⟩
    · obtain ⟨⟨o, ho⟩, h2⟩ := hblk b hb
      exact ⟨⟨o, by simp only [V', if_pos hb]; exact ho⟩, .inr h2⟩
  · obtain ⟨_, v1, n1, hg', _, hxx⟩ := hv
    rw [hg] at hg'
    cases hg'
    have := hxx rfl
    subst this
    obtain ⟨A, cap, rfl, hc, hm⟩ := own_form how
    have hat : ∀ (a b : Nat) (e : List D) (c : D), els[a]? = some e → e[b]? = some c → ∃ u, xs[a * sz + b]? = some u ∧ Dr G.V c u := fun a b e c h1 h2 => hdr.get _ c (flat_get els hl a e b c h1 h2)
    refine .lst sz els A cap (fun a b => (xs[a * sz + b]?).getD undef) hc hm hl (fun hn => ?_) (fun a e b c h1 h2 => ?_)
    · have hpos : 0 < els.length := List.length_pos_iff.2 hn
      obtain ⟨g, cap', e1, hge, _, _, hcell⟩ := own_cells how hpos
      cases e1
      refine ⟨⟨g, 0, none⟩, rfl, .inr rfl, fun a e b c h1 h2 => ?_⟩
      obtain ⟨u, hu, _⟩ := hat a b e c h1 h2
      have := hcell _ _ hu
      rw [hu, add_plain]
      simp only [Option.getD_some, Nat.zero_add]
      have h3 : blkOf (Value.slice (some ⟨g, 0, none⟩) els.length cap) = some g := rfl
      simp only [cellIn, V', h3, if_true]
      rw [← cellIn_world] at this
      exact this
    · obtain ⟨u, hu, hd⟩ := hat a b e c h1 h2
      rw [hu]
      exact Dr.mono hle hd

theorem Sat.freezeVar {cx : Cx} {G : Gh} {a : Act} {w : World} (s : Sat cx G st a w) (k : Nat) {i : Nat} {t : TypeId} {sz ver : Nat} {els : List (List D)} (hk : lk k st.env = .c (.own i ver)) (hi : st.heap[i]? = some (.row t sz els ver)) :
    ∃ G', Sat cx G' ⟨pute k (.c (.d (.lst sz els))) st.env, st.heap.set i .dead⟩ a w := by
  obtain ⟨V', hG, s', hv⟩ := freeze_core s.h hi
  refine ⟨⟨V', G.g⟩, s', fun x => ?_, s.N, s.defers⟩
  rw [lk_put]
  by_cases hkx : k = x
  · subst hkx
    rw [if_pos rfl]
    exact hv _ (hk ▸ s.ev (.tmp k) : Ar G (.c (.own i ver)) (a.tmps.getD k undef))
  · rw [if_neg hkx]; exact (s.env x).grow hG
theorem Sat.freezeBox {cx : Cx} {G : Gh} {a : Act} {w : World} (s : Sat cx G st a w) (j c : Nat) {i : Nat} {t tb : TypeId} {sz ver : Nat} {els : List (List D)} {cs : List C} (hj : st.heap[j]? = some (.box tb cs)) (hc : cs[c]? = some (.own i ver)) (hi : st.heap[i]? = some (.row t sz els ver)) :
    ∃ G', Sat cx G' ⟨st.env, (st.heap.set i .dead).set j (LB.box tb (cs.set c (C.d (.lst sz els))))⟩ a w := by
  obtain ⟨V', hG, s', hv⟩ := freeze_core s.h hi
  have hne : i ≠ j := fun e => by subst e; rw [hi] at hj; cases hj
  have hj' : (st.heap.set i .dead)[j]? = some (.box tb cs) := by rw [List.getElem?_set, if_neg hne]; exact hj
  have s2 := s'.relabel (lb' := .box tb (cs.set c (C.d (.lst sz els)))) hj' id fun e he hL => by
    obtain ⟨h1, b, vs, h2, h3, h4, h5, h6⟩ := hL
    refine ⟨h1, b, vs, h2, h3, h4, h5, ?_⟩
    obtain ⟨v, hvv, hr⟩ := h6.get _ _ hc
    have hs := h6.set (i := c) (a := C.d (.lst sz els)) (b := v) (hv v hr)
    rwa [show vs.set c v = vs from by
      have := getElem?_lt hvv
      rw [List.getElem?_eq_getElem this] at hvv
      injection hvv with hvv
      rw [← hvv]; exact List.set_getElem_self this] at hs
  exact ⟨⟨V', G.g⟩, s2, fun x => (s.env x).grow hG, s.N, s.defers⟩
theorem AXc.freezeVar {c : Code} {Q : Exit → St → Prop} (k : Nat) {i : Nat} {t : TypeId} {sz ver : Nat} {els : List (List D)} (hk : lk k st.env = .c (.own i ver)) (hi : st.heap[i]? = some (.row t sz els ver))
    (h : AXc P pm c ⟨pute k (.c (.d (.lst sz els))) st.env, st.heap.set i .dead⟩ Q) : AXc P pm c st Q :=
  fun cx _ a w hp s => (s.freezeVar k hk hi).elim fun G' s' => h cx G' a w hp s'
theorem AXc.freezeBox {c : Code} {Q : Exit → St → Prop} (j k : Nat) {i : Nat} {t tb : TypeId} {sz ver : Nat} {els : List (List D)} {cs : List C} (hj : st.heap[j]? = some (.box tb cs)) (hc : cs[k]? = some (.own i ver)) (hi : st.heap[i]? = some (.row t sz els ver))
    (h : AXc P pm c ⟨st.env, (st.heap.set i .dead).set j (LB.box tb (cs.set k (C.d (.lst sz els))))⟩ Q) : AXc P pm c st Q :=
  fun cx _ a w hp s => (s.freezeBox j k hj hc hi).elim fun G' s' => h cx G' a w hp s'
variable {ops : Array Oper} {rest : List Oper} {K : St → Prop}
theorem AXl.freezeVar (k : Nat) {i : Nat} {t : TypeId} {sz ver : Nat} {els : List (List D)} (hk : lk k st.env = .c (.own i ver)) (hi : st.heap[i]? = some (.row t sz els ver))
    (h : AXl P pm ops rest ⟨pute k (.c (.d (.lst sz els))) st.env, st.heap.set i .dead⟩ K) : AXl P pm ops rest st K :=
  fun cx _ a w Q hp s hQ => (s.freezeVar k hk hi).elim fun G' s' => h cx G' a w Q hp s' hQ
end Go.Ax

namespace Go.Ax
/-- What a callee may take an argument's cell for: itself, or a nil slice for an empty list. -/
inductive NilTo : D → D → Prop where
  | refl (x : D) : NilTo x x
  | nil (sz : Nat) : NilTo (.raw (.slice none 0 0)) (.lst sz [])
theorem NilTo.dr {V : Vw} {x y : D} {v : Value} (h : NilTo x y) (hd : Dr V x v) : Dr V y v := by
  cases h with
  | refl => exact hd
  | nil sz =>
    cases hd
    exact Dr.lst sz [] none 0 (fun _ _ => undef) (Nat.le_refl _) (Nat.zero_le _) (fun e he => by cases he) (fun hn => absurd rfl hn) (fun i e j c h1 _ => by simp at h1)
theorem ArgOk.aggn {pm : Pm} {h : List LB} {cs : List C} {ds ds' : List D} (hc : toDs cs = some ds) (hn : All2 NilTo ds ds') : ArgOk pm h (.agg cs) (.agg (ds'.map C.d)) := fun cx G w v hp s hv => by
  obtain ⟨vs, rfl, hcs⟩ := (ArgOk.agg hc cx G w v hp s hv : Ar _ (.agg (ds.map C.d)) v)
  refine ⟨vs, rfl, ?_⟩
  have h1 := All2.of_map_left hcs
  refine All2.map_left ?_
  clear hcs hv hc
  induction hn generalizing vs with
  | nil => cases h1; exact .nil
  | cons hx ht ih => cases h1 with | cons hd tl => exact .cons (hx.dr hd) (ih _ tl)
end Go.Ax
