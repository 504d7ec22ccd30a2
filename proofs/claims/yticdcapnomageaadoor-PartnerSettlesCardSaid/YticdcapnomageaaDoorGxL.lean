/- Part of a proof about this program; no condition of its own. -/
import Derived.Test.YticdcapnomageaaDoorGxK
set_option linter.all false
/- A region by a table of the sets with variants, from its start. No condition. -/
namespace Go.Ax
open Go Go.RowKit
variable {P : Program} {pm : Pm}
@[push_cast] theorem gv_s (x : Vs) (r : List Vs) (n : Nat) : gv (x :: r) (n + 1) = gv r n := (rfl)
def allV (f : Nat → Prop) : List Nat → Prop
  | [] => True
  | v :: r => f v ∧ allV f r
theorem allV_at {f : Nat → Prop} : ∀ {l : List Nat}, allV f l → ∀ v ∈ l, f v
  | [], _, v, hv => (List.not_mem_nil hv).elim
  | x :: r, h, v, hv => by
    rcases List.mem_cons.1 hv with rfl | hv
    · exact h.1
    · exact allV_at h.2 v hv
theorem RegV.tabV {E : List Nat} {id : Nat} {l : List Oper} {e0 : Env} {h0 : List LB} {Q : Exit → St → Prop} {tk : Tok Q} (hm : P.follows .mixedOrders = true) (tab : List (Nat × List Bool × List (Nat × Nat))) (vs : List Vs) (f : List Nat) (hc : tabVok l tab = true)
    (hz : (has tab 0 (List.replicate l.length false) && fin tab f) = true) (hs : tstP e0 h0 (gv vs 0) (List.replicate l.length false) = ⟨e0, h0⟩) (ho : obvT P pm E l e0 h0 vs tab)
    (hK : allV (fun v => Q .normal (tstP e0 h0 (gv vs v) (List.replicate l.length true))) f) : RegV P pm id l ⟨e0, h0⟩ Q tk := by
  rw [Bool.and_eq_true] at hz
  intro hok cx G a w hp s
  refine wp_region_any hm ?_
  have s' : Sat cx G ⟨e0, h0⟩ a { w with drawn := w.drawn + 1 } := ⟨s.h.later ((Below.refl _ w).drew), fun t => s.ev (.tmp t), s.N, s.defers⟩
  have hK' : ∀ x ∈ tab, x.2.2 = [] → Q .normal (tstP e0 h0 (gv vs x.1) (List.replicate l.length true)) := fun y hy he => by
    have := List.all_eq_true.1 hz.2 y hy
    rw [he] at this
    exact allV_at hK y.1 (by simpa using this)
  have := RegT.tab (E := E) (tk := tk) tab hc ho hK' 0 hz.1 hs hok cx G a _ hp s'
  simpa using this
end Go.Ax

/- A nil slice in a box, taken as an empty row of the call's own, ahead of a loop. No condition. -/
namespace Go.Ax
open Go Go.RowKit
variable {P : Program} {pm : Pm} {st : St}
theorem Sat.nilfield {cx : Cx} {G : Gh} {a : Act} {w : World} (s : Sat cx G st a w) (b f : Nat) (t te : TypeId) (sz : Nat) {cs : List C} (hb : st.heap[b]? = some (.box t cs)) (hf : cs[f]? = some (.d (.raw (.slice none 0 0)))) :
    Sat cx ⟨G.V, G.g ++ [(.slice none 0 0, 0)]⟩ ⟨st.env, st.heap.set b (.box t (cs.set f (.own st.heap.length 0))) ++ [.row te sz [] 0]⟩ a w := by
  have s' := s.h.push (.slice none 0 0) 0 (.row te sz [] 0) ⟨rfl, [], World.ownsRow_nil w _ te sz, fun b hb => (by cases hb), .nil, by simp⟩ (fun k hk => by cases hk)
  have hbl := getElem?_lt hb
  have hi : (st.heap ++ [LB.row te sz [] 0])[b]? = some (.box t cs) := by rw [List.getElem?_append_left hbl]; exact hb
  obtain ⟨e, he⟩ : ∃ e, (G.g ++ [((.slice none 0 0 : Value), 0)])[b]? = some e := ⟨_, List.getElem?_eq_getElem (by rw [List.length_append, s.h.len]; omega)⟩
  have hL := s'.ent b _ _ hi he
  obtain ⟨q1, blk, vs, q2, q3, q4, q5, q6⟩ := hL
  have hfl := getElem?_lt hf
  have hA : All2 (Cr ⟨G.V, G.g ++ [(.slice none 0 0, 0)]⟩) (cs.set f (.own st.heap.length 0)) vs := by
    refine All2.of_get (by rw [List.length_set]; exact q6.length) fun j c v h1 h2 => ?_
    by_cases hj : f = j
    · subst hj
      rw [List.getElem?_set_self hfl] at h1
      cases h1
      obtain ⟨d, hd, hv⟩ := q6.getR f v h2
      rw [hf] at hd
      cases hd
      have hv : v = .slice none 0 0 := ar_raw (hv : Ar _ (.c (.d (.raw (.slice none 0 0)))) v)
      rw [hv]
      exact ⟨rfl, _, 0, get_last _ _ s.h.len.symm, Nat.le_refl _, fun _ => rfl⟩
    · rw [List.getElem?_set_ne hj] at h1
      obtain ⟨d, hd, hv⟩ := q6.getR j v h2
      rw [h1] at hd
      cases hd
      exact hv
  have s2 := s'.upd (w' := w) (i := b) (b := blk) (lb := .box t cs) (lb' := .box t (cs.set f (.own st.heap.length 0))) (e := e) hi trivial he (by rw [q2]; rfl) rfl rfl rfl rfl (fun _ _ => rfl) ⟨q1, blk, vs, q2, q3, q4, q5, hA⟩
  have e1 : (st.heap ++ [LB.row te sz [] 0]).set b (.box t (cs.set f (.own st.heap.length 0))) = st.heap.set b (.box t (cs.set f (.own st.heap.length 0))) ++ [.row te sz [] 0] := List.set_append_left _ _ hbl
  rw [e1] at s2
  exact ⟨s2, fun t => (s.env t).grow (gle_push _), s.N, s.defers⟩
theorem LoopV.nilfield {E : List Nat} {c : Code} {Q : Exit → St → Prop} {tk : Tok Q} (b f : Nat) (t te : TypeId) (sz : Nat) {cs : List C} (h : LoopV P pm E c ⟨st.env, st.heap.set b (.box t (cs.set f (.own st.heap.length 0))) ++ [.row te sz [] 0]⟩ Q ⟨⟩) (hb : st.heap[b]? = some (.box t cs) := by rfl) (hf : cs[f]? = some (.d (.raw (.slice none 0 0))) := by rfl) : LoopV P pm E c st Q tk :=
  fun hok cx G a w hp s => h hok cx _ a w hp (s.nilfield b f t te sz hb hf)
end Go.Ax
