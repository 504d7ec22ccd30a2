/- Part of a proof about this program; no condition of its own. -/
import Derived.Test.YticdcapnomageaaDoorIJb
set_option linter.all false
/- slices.Insert at elements of several cells: at the end; and as a rule. No condition. -/
namespace Go.Proofs
open Go Go.Ax Go.RowKit
set_option maxRecDepth 100000
set_option maxHeartbeats 4000000 in
theorem ins_end0 (A : Option Addr) (n c : Nat) (ad : Addr) (vc : Nat) (w : World) (hA : A = none → n = 0 ∧ c = 0) (hnc : n ≤ c) (hm : c ≤ maxLen) (v' : Value) (w' : World) (hr : (Builtin.append_ #[24, 24] 24 #[.slice A n c, .slice (some ad) 1 vc]).run Tryd.prog w = .ok v' w') :
    Calls Tryd.prog 98 #[.slice A n c, .int .i64 n, .slice (some ad) 1 vc] w fun e W => e = .returned v' ∧ W = w' := by
  have mixed := Tryd.mixed
  cases A with
  | none =>
    obtain ⟨rfl, rfl⟩ := hA rfl
    clear hA
    go_enter Tryd.func98, Tryd.ntmps98
    go_wp2_with (at_builtin; refine Lib.wpList_append_run _ rfl _ _ _ _ rfl _ _ rfl rfl _ _ hr ?_)
    go_ret
    exact ⟨rfl, rfl⟩
  | some b =>
    clear hA
    by_cases h : c = n
    · subst h
      go_enter Tryd.func98, Tryd.ntmps98
      go_wp2_with (at_builtin; refine Lib.wpList_append_run _ rfl _ _ _ _ rfl _ _ rfl rfl _ _ hr ?_)
      go_ret
      exact ⟨rfl, rfl⟩
    · go_enter Tryd.func98, Tryd.ntmps98
      go_wp2_with (at_builtin; refine Lib.wpList_append_run _ rfl _ _ _ _ rfl _ _ rfl rfl _ _ hr ?_)
      go_ret
      exact ⟨rfl, rfl⟩
theorem ins_all (base : Nat) (v : Value) (n i : Nat) (xs : List Value) (ad : Addr) (vc : Nat) (ys : List Value) (w : World) (how : w.ownsRow base 28 8 v n xs) (hi : i ≤ n) (hbig : (n + 1) * 72 ≤ 140737488355328)
    (h1 : ∀ v ∈ xs, v.oneCell' = true) (hy : ys.length = 8) (hyc : ∀ j u, ys[j]? = some u → w.cell? (ad.add j) = some u) (hy1 : ∀ v ∈ ys, v.oneCell' = true) (hne : v.ownBlock ≠ some ad.block) (hbl : base ≤ w.heap.size) :
    Calls Tryd.prog 98 #[v, .int .i64 i, .slice (some ad) 1 vc] w fun e w' =>
      ∃ v', e = .returned v' ∧ w'.ownsRow base 28 8 v' (n + 1) (xs.take (i * 8) ++ ys ++ xs.drop (i * 8)) ∧ w.grownBy w' v.ownBlock ∧ (v'.ownBlock = v.ownBlock ∨ v'.ownBlock = some w.heap.size) := by
  by_cases h : i < n
  · exact ins_own base v n i xs ad vc ys w how h hbig h1 hy hyc hy1 hne hbl
  · obtain rfl : i = n := by omega
    obtain ⟨hu, hpos, ii, z, hii, hz, hs, hb, hzc⟩ := apT_some Tryd.apT24
    obtain ⟨v', w', q1, q2, q3, _, q5⟩ := run_append_own_at (P := Tryd.prog) w base 24 24 28 ii z 8 72 hu hii hz hs hb hzc hpos v i xs how ad 1 vc ys (by omega) hyc hy1 (by unfold maxLen; omega) hbig hbl
    have e1 : xs.take (i * 8) ++ ys ++ xs.drop (i * 8) = xs ++ ys := by
      rw [List.take_of_length_le (by rw [how.1]; omega), List.drop_eq_nil_of_le (by rw [how.1]; omega), List.append_nil]
    rw [e1]
    obtain ⟨hl, ⟨rfl, rfl⟩ | ⟨g, c, cur, rfl, hbg, hg, hnc, hcm, hsz, rfl⟩⟩ := how
    · exact (ins_end0 none 0 0 ad vc w (fun _ => ⟨rfl, rfl⟩) (Nat.le_refl _) (Nat.zero_le _) v' w' q1).mono fun e W h => by
        obtain ⟨rfl, rfl⟩ := h
        exact ⟨v', rfl, q2, q3, q5⟩
    · exact (ins_end0 (some ⟨g, 0, none⟩) i c ad vc w (fun e => by cases e) hnc hcm v' w' q1).mono fun e W h => by
        obtain ⟨rfl, rfl⟩ := h
        exact ⟨v', rfl, q2, q3, q5⟩
theorem flat_cut {α : Type} (els : List (List α)) (h : ∀ e ∈ els, e.length = 8) : ∀ p : Nat, (els.take p).flatten = els.flatten.take (p * 8) ∧ (els.drop p).flatten = els.flatten.drop (p * 8) := by
  induction els with
  | nil => intro p; simp
  | cons e r ih =>
    intro p
    cases p with
    | zero => simp
    | succ p =>
      have he := h e (by simp)
      obtain ⟨h1, h2⟩ := ih (fun x hx => h x (by simp [hx])) p
      simp only [List.take_succ_cons, List.drop_succ_cons, List.flatten_cons, h1, h2]
      rw [show (p + 1) * 8 = e.length + p * 8 by omega, List.take_length_add_append, List.drop_length_add_append]
      exact ⟨rfl, rfl⟩
section
variable {pm : Pm} {st : St} {o : Oper} {aas : List AV}
/-- slices.Insert of one element into a row of the call's own. -/
theorem CallL.insert {k : St → Prop} {t : Tok k} {x a1 a2 a3 : Operand} {ts : Array TypeId} {i ver p : Nat} {els : List (List D)} {m : List D} (hi : st.heap[i]? = some (.row 28 8 els ver)) (hp : p ≤ els.length) (hbig : (els.length + 1) * 72 ≤ 140737488355328)
    (hk : k (St.put ⟨st.env, st.heap.set i (.row 28 8 (els.take p ++ [m] ++ els.drop p) (ver + 1))⟩ o.dst (.c (.own i (ver + 1)))))
    (hop : o.op = .call { callee := .value x, args := #[a1, a2, a3], argTypes := ts } := by rfl) (hx : ev pm.Γ st.env x = .c (.clo 98 []) := by rfl) (h1 : ev pm.Γ st.env a1 = .c (.own i ver) := by rfl) (h2 : ev pm.Γ st.env a2 = .c (.d (.int .i64 p)) := by rfl) (h3 : ev pm.Γ st.env a3 = .c (.d (.lst 8 [m])) := by rfl) (hd : dstOk pm.N o.dst := by first | trivial | (show (_ : Nat) < _; exact Nat.le_of_ble_eq_true rfl)) :
    CallL Tryd.prog pm o st (.c (.clo 98 [])) aas k t := by
  refine .inr (.inr fun ops rest K hK => ?_)
  obtain ⟨dst, op, ty, pos, af, gd⟩ := o
  simp only at hop hd
  subst hop
  intro cx G a w Q hpm s hQ
  refine wpList_plain rfl fun K' hK' => ?_
  subst hpm
  obtain ⟨v, xs, hg, how, hob, hdr, hl⟩ := row_at s.h hi
  obtain ⟨_, v0, n', hg', _, hxx⟩ := (h1 ▸ s.ev a1 : Ar G (.c (.own i ver)) (a.eval a1))
  rw [hg] at hg'
  cases hg'
  have e1 := hxx rfl
  have e2 := ar_int (h2 ▸ s.ev a2 : Ar G (.c (.d (.int .i64 p))) (a.eval a2))
  obtain ⟨A, cap, u, e3, hc, hm, hm8, hA, hu⟩ := dr_lst (h3 ▸ s.ev a3 : Ar G (.c (.d (.lst 8 [m]))) (a.eval a3))
  obtain ⟨ad, rfl, hIb, hcell⟩ := hA (by simp)
  have hxv : Ar G (.c (.clo 98 [])) (a.eval x) := hx ▸ s.ev x
  obtain ⟨bs, hxe, hbs⟩ := hxv
  cases hbs
  have hml : m.length = 8 := hm8 m (by simp)
  let ys : List Value := (List.range 8).map fun j => u 0 j
  have hys : ∀ j v, ys[j]? = some v → j < 8 ∧ v = u 0 j := fun j v hj => by
    have hj8 : j < 8 := by have := getElem?_lt hj; simpa [ys] using this
    simp only [ys, List.getElem?_map, List.getElem?_range hj8, Option.map_some, Option.some.injEq] at hj
    exact ⟨hj8, hj.symm⟩
  have hyc : ∀ j v, ys[j]? = some v → w.cell? (ad.add j) = some v := fun j v hj => by
    obtain ⟨hj8, rfl⟩ := hys j v hj
    have := hcell 0 m j m[j] rfl (List.getElem?_eq_getElem (by omega))
    rw [Nat.zero_mul, Nat.zero_add] at this
    exact cell_of_view s.h.view this
  have hyd : All2 (Dr G.V) m ys := All2.of_get (by simp [ys, hml]) fun j c v h1 h2 => by
    obtain ⟨hj8, rfl⟩ := hys j v h2
    exact hu 0 m j c rfl h1
  have hy1 : ∀ v ∈ ys, v.oneCell' = true := fun v hv => by
    obtain ⟨j, hj, e⟩ := List.mem_iff_getElem.1 hv
    obtain ⟨d, _, hd⟩ := hyd.getR j v (by rw [List.getElem?_eq_getElem hj, e])
    exact hd.one
  have hx1 : ∀ v ∈ xs, v.oneCell' = true := fun v hv => by
    obtain ⟨j, hj, e⟩ := List.mem_iff_getElem.1 hv
    obtain ⟨d, _, hd⟩ := hdr.getR j v (by rw [List.getElem?_eq_getElem hj, e])
    exact hd.one
  have hne : v.ownBlock ≠ some ad.block := fun e => by
    have h0 := hob _ e
    have := hcell 0 m 0 m[0] rfl (List.getElem?_eq_getElem (by omega))
    unfold cellIn at this
    rw [add_block, h0] at this
    cases this
  have hr : (execOp a.eval ⟨dst, .call { callee := .value x, args := #[a1, a2, a3], argTypes := ts }, ty, pos, af, none⟩).run Tryd.prog w = .ok (.enter 98 #[v, .int .i64 p, .slice (some ad) 1 cap]) w := by
    simp [execOp, resolve, Deferred.ofValue, hxe, invoke, Tryd.call98, e1, e2, e3]
  unfold Oper.wp
  rw [hr]
  refine (ins_all cx.w0.heap.size v els.length p xs ad cap ys w how hp hbig hx1 (by simp [ys]) hyc hy1 hne s.h.below.size).mono fun e w' hafter => ?_
  obtain ⟨v', rfl, how', hgr, hat⟩ := hafter
  have f1 := row_form how
  have f2 := row_form how'
  have hHnone : G.V.H w.heap.size = none := by
    cases e : G.V.H w.heap.size with
    | none => rfl
    | some o => have := heap_lt (s.h.view _ _ e); omega
  have hL : ∀ G' : Gh, G'.V = G.V → Lr G' w' cx.w0.heap.size (.row 28 8 (els.take p ++ [m] ++ els.drop p) (ver + 1)) (v', ver + 1) := fun G' hV => by
    refine ⟨rfl, xs.take (p * 8) ++ ys ++ xs.drop (p * 8), by
        have e : (els.take p ++ [m] ++ els.drop p).length = els.length + 1 := by simp; omega
        rw [e]; exact how', fun b hb => ?_, ?_, fun e he => ?_⟩
    · rw [hV]
      rcases hat with e | e
      · exact hob b (by rw [← e]; exact hb)
      · simp only at hb
        rw [e] at hb; cases hb; exact hHnone
    · obtain ⟨q1, q2⟩ := flat_cut els hl p
      rw [hV, List.flatten_append, List.flatten_append, q1, q2]
      exact ((hdr.take _).append (by simpa using hyd)).append (hdr.drop _)
    · rcases List.mem_append.1 he with h | h
      · rcases List.mem_append.1 h with h | h
        · exact hl e (List.mem_of_mem_take h)
        · rw [List.mem_singleton.1 h]; exact hml
      · exact hl e (List.mem_of_mem_drop h)
  obtain ⟨hG, s'⟩ := s.h.move (w' := w') (v' := v') (n' := ver + 1) (lb' := .row 28 8 (els.take p ++ [m] ++ els.drop p) (ver + 1)) hi trivial hg (by omega) f1.1 f1.2.1 f2.2.1 hgr hat f1.2.2.1 hL
  exact hK' _ _ (hK _ hk cx _ _ w' Q rfl ((s.step hG s').put (α := .c (.own i (ver + 1))) ⟨f2.2.2.2, v', ver + 1, by simp [getElem?_lt hg], Nat.le_refl _, fun _ => rfl⟩ hd) hQ)
end
end Go.Proofs
