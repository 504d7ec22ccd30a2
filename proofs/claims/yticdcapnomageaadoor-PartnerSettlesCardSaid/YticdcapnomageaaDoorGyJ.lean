/- Part of a proof about this program; no condition of its own. -/
import Derived.Test.YticdcapnomageaaDoorGyC
import Derived.Deep.RegionLaw
import Derived.Lib.SliceRun
import Derived.Test.YticdcapnomageaaDoorGyH
import Derived.Test.YticdcapnomageaaDoorGyF
import Derived.Test.YticdcapnomageaaDoorGxL
set_option linter.all false
/- slices.Delete of one element of several cells, of a row of the call's own. No condition. -/
namespace Go.Proofs
open Go Go.Ax Go.RowKit
set_option maxRecDepth 100000
theorem cells_set (P : Program) (g o : Nat) (t : TypeId) (vs : List Value) (cur : Array Value) (w : World) (hg : w.heap[g]? = some (.cells cur t (0, 0))) (hl : o + vs.length ≤ cur.size) (h1 : ∀ v ∈ vs, v.oneCell' = true) :
    w.setCells g o vs = w.setRow g (cur.toList.take o ++ vs ++ cur.toList.drop (o + vs.length)).toArray := by
  have e1 := run_storeCells_cells (P := P) g o vs 0 w (fun j hj => by simp [World.cell?, hg, show o + j < cur.size by omega]) (fun j hj => by simp [World.frozen?, hg]) h1
  have e2 := run_storeCells_at P g o t vs 0 cur w hg (by simpa using hl) h1
  rw [e1] at e2
  simpa using e2
theorem run_clear_one (w : World) (t e ty : TypeId) (z : Value) (ht : Tryd.prog.underlying t = some (.slice e)) (hv : ∀ w, (zeroValue e).run Tryd.prog w = .ok z w) (g o n c : Nat) (cur : Array Value) (et : TypeId) (hg : w.heap[g]? = some (.cells cur et (0, 0)))
    (hn : n = 1) (hl : o + z.cells.size ≤ cur.size) (h1 : ∀ v ∈ z.cells.toList, v.oneCell' = true) :
    (Builtin.clear_ #[t] ty #[.slice (some ⟨g, o, none⟩) n c]).run Tryd.prog w = .ok (.tuple #[]) (w.setRow g (cur.toList.take o ++ z.cells.toList ++ cur.toList.drop (o + z.cells.size)).toArray) := by
  subst hn
  have hzc : (Builtin.zeroCells z.cells 1).toList = z.cells.toList := by
    apply List.ext_getElem
    · simp [Builtin.zeroCells]
    · intro i h1 h2
      have h3 : i < z.cells.size := by simpa using h2
      simp [Builtin.zeroCells, Nat.mod_eq_of_lt h3, getElem!_pos z.cells i h3]
  have hst := run_storeCells_at Tryd.prog g o et z.cells.toList 0 cur w hg (by simpa using hl) h1
  simp only [Nat.add_zero] at hst
  rw [Array.length_toList] at hst
  simp [Builtin.clear_, run_underlying ht, hv, hzc, hst]
set_option maxHeartbeats 4000000 in
theorem del_shift (g n c i : Nat) (cur : Array Value) (w : World) (hi : i < n) (hnc : n ≤ c) (hm : c ≤ maxLen) (hg : w.heap[g]? = some (.cells cur 28 (0, 0))) (hsz : cur.size = c * 8) (h1 : ∀ v ∈ cur.toList.take (n * 8), v.oneCell' = true) :
    Calls Tryd.prog 90 #[.slice (some ⟨g, 0, none⟩) n c, .int .i64 i, .int .i64 ((i : Int) + 1)] w fun e w' =>
      e = .returned (.slice (some ⟨g, 0, none⟩) (n - 1) c) ∧ w.grownBy w' (some g) ∧ ∃ cur', w'.heap[g]? = some (.cells cur' 28 (0, 0)) ∧ cur'.size = c * 8 ∧ cur'.toList.take ((n - 1) * 8) = (cur.toList.take (n * 8)).take (i * 8) ++ (cur.toList.take (n * 8)).drop ((i + 1) * 8) := by
  obtain ⟨hu, hpos, ii, z, hii, hz, hs, hb, hzc⟩ := apT_some Tryd.apT24
  have hzz : (Tryd.prog.info? 28).bind (·.zero) = some (.agg #[.int .i64 0, .int .i64 0, .int .i64 0, .int .i64 0, .int .i64 0, .int .i64 0, .int .i64 0, .string ⟨#[]⟩]) := by kernel_rfl
  rw [hii] at hzz
  have hzz : ii.zero = some (.agg #[.int .i64 0, .int .i64 0, .int .i64 0, .int .i64 0, .int .i64 0, .int .i64 0, .int .i64 0, .string ⟨#[]⟩]) := hzz
  rw [hz] at hzz
  have hzz := Option.some.inj hzz
  have hz1 : ∀ v ∈ z.cells.toList, v.oneCell' = true := by
    rw [hzz]
    intro v hv
    simp [Value.cells] at hv
    rcases hv with rfl | rfl <;> rfl
  have hzv : ∀ w, (zeroValue 28).run Tryd.prog w = .ok z w := fun w => by simp [zeroValue, typeInfo, hii, hz]
  have hcl : cur.toList.length = c * 8 := by simpa using hsz
  obtain ⟨X1, hX1⟩ : ∃ X1, X1 = (cur.toList.take (n * 8)).drop ((i + 1) * 8) := ⟨_, rfl⟩
  have hX1l : X1.length = (n - (i + 1)) * 8 := by rw [hX1, List.length_drop, List.length_take, hcl]; omega
  obtain ⟨C1, hC1⟩ : ∃ C1 : Array Value, C1 = (cur.toList.take (i * 8) ++ X1 ++ cur.toList.drop (i * 8 + X1.length)).toArray := ⟨_, rfl⟩
  have hC1l : C1.size = c * 8 := by rw [hC1]; simp [hX1l, hsz]; omega
  obtain ⟨C2, hC2⟩ : ∃ C2 : Array Value, C2 = (C1.toList.take ((i + (n - (i + 1))) * 8) ++ z.cells.toList ++ C1.toList.drop ((i + (n - (i + 1))) * 8 + z.cells.size)).toArray := ⟨_, rfl⟩
  have hX11 : ∀ v ∈ X1, v.oneCell' = true := fun v hv => h1 v (by rw [hX1] at hv; exact List.mem_of_mem_drop hv)
  obtain ⟨A, hA, hsrc⟩ : ∃ A : Addr, (if c = i + 1 then some (⟨g, 0, none⟩ : Addr) else some ⟨g, (i + 1) * 8, none⟩) = some A ∧ Hid (∀ t u, X1[t]? = some u → w.drew.cell? (A.add t) = some u) := by
    by_cases h : c = i + 1
    · refine ⟨⟨g, 0, none⟩, by simp [h], fun t u hu => ?_⟩
      have h0 : X1.length = 0 := by rw [hX1l]; omega
      rw [List.length_eq_zero_iff.1 h0] at hu
      simp at hu
    · refine ⟨⟨g, (i + 1) * 8, none⟩, by simp [h], fun t u hu => ?_⟩
      have e : w.drew.cell? ((⟨g, (i + 1) * 8, none⟩ : Addr).add t) = cur[(i + 1) * 8 + t]? := by
        rw [add_plain]
        show w.cell? _ = _
        simp [World.cell?, hg]
      rw [e]
      rw [hX1, List.getElem?_drop, List.getElem?_take] at hu
      split at hu
      · simpa using hu
      · cases hu
  have s1 : Hid (X1.length = (n - (i + 1)) * 8) := hX1l
  have s2 : Hid (∀ u ∈ X1, u.oneCell' = true) := hX11
  have s3 : Hid (∀ t, t < X1.length → (w.drew.cell? ⟨g, 0 + i * 8 + t, none⟩).isSome = true ∧ w.drew.frozen? ⟨g, 0 + i * 8 + t, none⟩ = false) := by
    intro t ht
    rw [hX1l] at ht
    refine ⟨?_, ?_⟩
    · show (w.cell? _).isSome = true
      simp [World.cell?, hg, show i * 8 + t < cur.size by omega]
    · show w.frozen? _ = false
      simp [World.frozen?, hg]
  obtain ⟨W1, hW1⟩ : ∃ W1, W1 = w.drew.setCells g (0 + i * 8) X1 := ⟨_, rfl⟩
  have hW1' : W1 = w.drew.setRow g C1 := by
    rw [hW1, hC1, Nat.zero_add]
    exact cells_set Tryd.prog g (i * 8) 28 X1 cur w.drew hg (by rw [hX1l]; omega) hX11
  have hg1 : W1.heap[g]? = some (.cells C1 28 (0, 0)) := by rw [hW1']; exact setRow_heap w.drew g _ _ _ _ hg
  have hclr : ∀ ty, (Builtin.clear_ #[24] ty #[.slice (some ⟨g, (i + (n - (i + 1))) * 8, none⟩) (n - (i + (n - (i + 1)))) (c - (i + (n - (i + 1))))]).run Tryd.prog W1 = .ok (.tuple #[]) (W1.setRow g C2) := fun ty => by
    rw [hC2]
    exact run_clear_one W1 24 28 ty z Tryd.underlying24 hzv g _ _ _ C1 28 hg1 (by omega) (by rw [hzc, hC1l]; omega) hz1
  have hW : Hid (W1 = w.drew.setCells g (0 + i * 8) X1) := hW1
  have HH : Hid (W1 = w.drew.setRow g C1 ∧ W1.heap[g]? = some (.cells C1 28 (0, 0)) ∧ C1 = (cur.toList.take (i * 8) ++ X1 ++ cur.toList.drop (i * 8 + X1.length)).toArray ∧ X1 = (cur.toList.take (n * 8)).drop ((i + 1) * 8) ∧ C2 = (C1.toList.take ((i + (n - (i + 1))) * 8) ++ z.cells.toList ++ C1.toList.drop ((i + (n - (i + 1))) * 8 + z.cells.size)).toArray ∧ C1.size = c * 8 ∧ cur.toList.length = c * 8 ∧ z.cells.size = 8) := ⟨hW1', hg1, hC1, hX1, hC2, hC1l, hcl, hzc⟩
  have hlt : g < w.heap.size := (Array.getElem?_eq_some_iff.1 hg).1
  clear hX1l hsz hcl hC1l hC1 hX1 hC2 hW1 hW1' hg1 hzz hz1 hX11 hzc hz hzv hg h1 hpos hb
  have hic : i ≤ c := by omega
  have hjc : i + 1 ≤ c := by omega
  have hin : i ≤ n := by omega
  have hjn : i + 1 ≤ n := by omega
  have hij : i ≤ i + 1 := by omega
  have hne : ¬ ((i : Int) = (i : Int) + 1) := by omega
  have hb1 : (0 : Int) ≤ (i : Int) + 1 := by omega
  have htn : ((i : Int) + 1).toNat = i + 1 := by omega
  have hb2 : (i : Int) ≤ (i : Int) + 1 := by omega
  have hb3 : (i : Int) + 1 ≤ (n : Int) := by omega
  have mixed := Tryd.mixed
  go_enter Tryd.func90, Tryd.ntmps90
  go_wp2_with fail
  go_region_law_o (refine step_append_room rfl (.tmp 22) (.tmp 25) 24 rfl 28 ii 8 hu hii hs g 0 i c (by simp [Act.eval, Act.put]) A (n - (i + 1)) (c - (i + 1)) X1 (by simp [Act.eval, Act.put]) s1.out hsrc.out s2.out (by omega) s3.out ?_; rw [← hW.out])
  go_wp2
  go_ret
  obtain ⟨hW1', hg1, hC1, hX1, hC2, hC1l, hcl, hzc⟩ := HH.out
  have hX1l : X1.length = (n - (i + 1)) * 8 := by rw [hX1, List.length_drop, List.length_take, hcl]; omega
  have hC2l : C2.size = c * 8 := by rw [hC2]; simp [hC1l, hzc]; omega
  have hn1 : n - 1 = i + (n - (i + 1)) := by omega
  refine ⟨by rw [hn1]; rfl, ?_, C2, setRow_heap W1 g _ _ _ _ hg1, hC2l, ?_⟩
  · show w.grownBy (W1.setRow g C2) (some g)
    rw [hW1']
    refine ⟨rfl, rfl, rfl, by simp [World.setRow], fun k hk hne' => ?_⟩
    have hkg : k ≠ g := fun e => hne' (by rw [e])
    rw [setRow_ne _ _ _ _ hkg, setRow_ne _ _ _ _ hkg]; rfl
  · have e1 : C1.toList.take ((i + (n - (i + 1))) * 8) = cur.toList.take (i * 8) ++ X1 := by
      rw [hC1, List.toList_toArray]
      exact List.take_left' (by rw [List.length_append, List.length_take, hX1l, hcl]; omega)
    rw [hC2, List.toList_toArray, hn1, List.append_assoc, List.take_left' (by rw [List.length_take, Array.length_toList, hC1l]; omega), e1, hX1, List.take_take, show min (i * 8) (n * 8) = i * 8 by omega]
theorem del_own (base : Nat) (v : Value) (n i : Nat) (xs : List Value) (w : World) (how : w.ownsRow base 28 8 v n xs) (hi : i < n) (h1 : ∀ v ∈ xs, v.oneCell' = true) :
    Calls Tryd.prog 90 #[v, .int .i64 i, .int .i64 ((i : Int) + 1)] w fun e w' =>
      ∃ v', e = .returned v' ∧ w'.ownsRow base 28 8 v' (n - 1) (xs.take (i * 8) ++ xs.drop ((i + 1) * 8)) ∧ w.grownBy w' v.ownBlock ∧ v'.ownBlock = v.ownBlock := by
  obtain ⟨hl, ⟨rfl, rfl⟩ | ⟨g, c, cur, rfl, hbg, hg, hnc, hcm, hsz, rfl⟩⟩ := how
  · omega
  have hcl : cur.toList.length = c * 8 := by simpa using hsz
  refine (del_shift g n c i cur w hi hnc hcm hg hsz h1).mono fun e w' h => ?_
  obtain ⟨rfl, hgr, cur', hg', hsz', ht⟩ := h
  refine ⟨_, rfl, ⟨?_, .inr ⟨g, c, cur', rfl, hbg, hg', by omega, hcm, hsz', ht⟩⟩, hgr, rfl⟩
  simp only [List.length_append, List.length_take, List.length_drop, hcl]; omega
section
variable {pm : Pm} {st : St} {o : Oper} {aas : List AV}
/-- slices.Delete of one element of a row of the call's own. -/
theorem CallL.delete {k : St → Prop} {t : Tok k} {x a1 a2 a3 : Operand} {ts : Array TypeId} {i ver p : Nat} {els : List (List D)} (hi : st.heap[i]? = some (.row 28 8 els ver)) (hp : p < els.length)
    (hk : k (St.put ⟨st.env, st.heap.set i (.row 28 8 (els.take p ++ els.drop (p + 1)) (ver + 1))⟩ o.dst (.c (.own i (ver + 1)))))
    (hop : o.op = .call { callee := .value x, args := #[a1, a2, a3], argTypes := ts } := by rfl) (hx : ev pm.Γ st.env x = .c (.clo 90 []) := by rfl) (h1 : ev pm.Γ st.env a1 = .c (.own i ver) := by rfl) (h2 : ev pm.Γ st.env a2 = .c (.d (.int .i64 p)) := by rfl) (h3 : ev pm.Γ st.env a3 = .c (.d (.int .i64 ((p : Int) + 1))) := by rfl) (hd : dstOk pm.N o.dst := by first | trivial | (show (_ : Nat) < _; exact Nat.le_of_ble_eq_true rfl)) :
    CallL Tryd.prog pm o st (.c (.clo 90 [])) aas k t := by
  refine .inr (.inr fun ops rest K hK => ?_)
  obtain ⟨dst, op, ty, pos, af, gd⟩ := o
  simp only at hop hd
  subst hop
  intro cx G a w Q hpm s hQ
  refine wpList_plain rfl fun K' hK' => ?_
  subst hpm
  obtain ⟨v, xs, hg, how, hob, hdr, hl⟩ := row_at s.h hi
  obtain ⟨_, v0, n', hg', _, hxx⟩ := (h1 ▸ s.ev a1 : Ar G (.c (.own i ver)) (a.eval a1))
  rw [hg] at hg'
  cases hg'
  have e1 := hxx rfl
  have e2 := ar_int (h2 ▸ s.ev a2 : Ar G (.c (.d (.int .i64 p))) (a.eval a2))
  have e3 := ar_int (h3 ▸ s.ev a3 : Ar G (.c (.d (.int .i64 ((p : Int) + 1)))) (a.eval a3))
  have hxv : Ar G (.c (.clo 90 [])) (a.eval x) := hx ▸ s.ev x
  obtain ⟨bs, hxe, hbs⟩ := hxv
  cases hbs
  have hx1 : ∀ v ∈ xs, v.oneCell' = true := fun v hv => by
    obtain ⟨j, hj, e⟩ := List.mem_iff_getElem.1 hv
    obtain ⟨d, _, hd⟩ := hdr.getR j v (by rw [List.getElem?_eq_getElem hj, e])
    exact hd.one
  have hr : (execOp a.eval ⟨dst, .call { callee := .value x, args := #[a1, a2, a3], argTypes := ts }, ty, pos, af, none⟩).run Tryd.prog w = .ok (.enter 90 #[v, .int .i64 p, .int .i64 ((p : Int) + 1)]) w := by
    simp [execOp, resolve, Deferred.ofValue, hxe, invoke, Tryd.call90, e1, e2, e3]
  unfold Oper.wp
  rw [hr]
  refine (del_own cx.w0.heap.size v els.length p xs w how hp hx1).mono fun e w' hafter => ?_
  obtain ⟨v', rfl, how', hgr, hat⟩ := hafter
  have f1 := row_form how
  have f2 := row_form how'
  have hL : ∀ G' : Gh, G'.V = G.V → Lr G' w' cx.w0.heap.size (.row 28 8 (els.take p ++ els.drop (p + 1)) (ver + 1)) (v', ver + 1) := fun G' hV => by
    refine ⟨rfl, xs.take (p * 8) ++ xs.drop ((p + 1) * 8), by
        have e : (els.take p ++ els.drop (p + 1)).length = els.length - 1 := by simp; omega
        rw [e]; exact how', fun b hb => ?_, ?_, fun e he => ?_⟩
    · rw [hV]
      exact hob b (by rw [← hat]; exact hb)
    · obtain ⟨q1, _⟩ := flat_cut els hl p
      obtain ⟨_, q2⟩ := flat_cut els hl (p + 1)
      rw [hV, List.flatten_append, q1, q2]
      exact (hdr.take _).append (hdr.drop _)
    · rcases List.mem_append.1 he with h | h
      · exact hl e (List.mem_of_mem_take h)
      · exact hl e (List.mem_of_mem_drop h)
  obtain ⟨hG, s'⟩ := s.h.move (w' := w') (v' := v') (n' := ver + 1) (lb' := .row 28 8 (els.take p ++ els.drop (p + 1)) (ver + 1)) hi trivial hg (by omega) f1.1 f1.2.1 f2.2.1 hgr (.inl hat) f1.2.2.1 hL
  exact hK' _ _ (hK _ hk cx _ _ w' Q rfl ((s.step hG s').put (α := .c (.own i (ver + 1))) ⟨f2.2.2.2, v', ver + 1, by simp [getElem?_lt hg], Nat.le_refl _, fun _ => rfl⟩ hd) hQ)
end
end Go.Proofs

/- Walks of the chapter on partners, thirteenth part: nets. No condition. -/
namespace Go.Proofs
open Go Go.Ax Go.Tx Go.Il
set_option maxRecDepth 100000
variable {Γ : List (Nat × List D)}
def validP (p : Partner) : Bool := smallP p && decide (prightF p = 0)
def netF (n : Net) : Bool := decide (n.partners.length ≤ 6) && decide (n.mail.length ≤ 70) && n.partners.all validP && n.mail.all shortM
theorem c52 (n : Net) : AFn Tryd.prog Γ 52 [.agg (n.ds.map C.d)] [.d (.bool (netF n))] := by
  refine AFn.vc [] Tryd.func52 rfl Tryd.mixed (by kernel_rfl) Tryd.ntmps52 Tryd.results52 (by simp) ?_
  push_cast
  have hb : n.partners.length ≤ 6 ∧ n.mail.length ≤ 70 → netF n = (n.partners.all validP && n.mail.all shortM) := fun ⟨h1, h2⟩ => by
    unfold netF; rw [decide_eq_true h1, decide_eq_true h2]; rfl
  have hF1 : ¬ n.partners.length ≤ 6 → false = netF n := fun h => by unfold netF; rw [decide_eq_false h]; rfl
  have hF2 : ¬ n.mail.length ≤ 70 → false = netF n := fun h => by unfold netF; rw [decide_eq_false h, Bool.and_false]; rfl
  refine ⟨fun h1 => ⟨fun h2 => hF2 (by omega), fun h2 => ?_⟩, fun h1 => hF1 (by omega)⟩
  rw [hb ⟨by omega, by omega⟩]
  refine LoopV.cnt Tryd.mixed [1] n.partners.length (fun k => [(3, .c (.d (.int .i64 k)))]) (fun k => n.partners.all validP = (n.partners.drop k).all validP) rfl ?_ (by push_cast)
  intro k hk hin
  push_cast
  refine ⟨fun h3 => ?_, fun h3 => ?_⟩
  · have hk' : k < n.partners.length := by omega
    rw [all_drop _ hk'] at hin
    refine ⟨hk', CallL.q (c39 n.partners[k]) ?_⟩
    rw [show (smallP n.partners[k] && decide (prightF n.partners[k] = 0)) = validP n.partners[k] from rfl]
    push_cast
    refine ⟨fun h4 => by rw [hin, h4]; rfl, fun h4 => ⟨⟨by omega, by omega⟩, hk', by rw [hin, h4, Bool.true_and]⟩⟩
  rw [List.drop_eq_nil_of_le (by omega), List.all_nil] at hin
  rw [hin, Bool.true_and]
  refine LoopV.cnt Tryd.mixed [1] n.mail.length (fun k => [(4, .c (.d (.int .i64 k)))]) (fun k => n.mail.all shortM = (n.mail.drop k).all shortM) rfl ?_ (by push_cast)
  intro k hk hin
  push_cast
  refine ⟨fun h3 => ?_, fun h3 => ?_⟩
  · have hk' : k < n.mail.length := by omega
    rw [all_drop _ hk'] at hin
    refine ⟨hk', fun h4 => ?_, fun h4 => ⟨⟨by omega, by omega⟩, hk', ?_⟩⟩
    · rw [hin, show shortM n.mail[k] = false from decide_eq_false (by omega)]; rfl
    · rw [hin, show shortM n.mail[k] = true from decide_eq_true (by omega), Bool.true_and]
  · rw [hin, List.drop_eq_nil_of_le (by omega)]; rfl
structure OkN (n : Net) : Prop where
  len : n.partners.length ≤ 1000
  mail : n.mail.length ≤ 1000
  ok : ∀ p ∈ n.partners, OkP p
theorem c55s (n : Net) (h : OkN n) : AFn Tryd.prog Γ 55 [.agg (n.ds.map C.d), .agg (n.ds.map C.d)] [.d (.bool true)] := by
  have hl := h.len
  have hm := h.mail
  refine AFn.vc [] Tryd.func55 rfl Tryd.mixed (by kernel_rfl) Tryd.ntmps55 Tryd.results55 (by simp) ?_
  push_cast
  refine CallL.q (c49 n.mail n.mail (by omega) (by omega)) ?_
  push_cast
  refine LoopV.cnt Tryd.mixed [2, 3] n.partners.length (fun k => [(5, .c (.d (.int .i64 k)))]) (fun _ => True) trivial ?_ (by push_cast)
  intro k hk _
  push_cast
  intro h3
  have hk' : k < n.partners.length := by omega
  refine ⟨hk', hk', CallX.q (c42s n.partners[k] (h.ok _ (List.getElem_mem hk'))) ?_⟩
  push_cast
  exact ⟨⟨by omega, by omega⟩, hk'⟩
theorem c88 (p : Partner) (m : Msg) : AFn Tryd.prog Γ 88 [.agg (p.ds.map C.d), .c (.ptr m.ds)] [.d (.bool (decide (p.id = m.dst)))] := by
  refine AFn.vc [] Tryd.func88 rfl Tryd.mixed (by kernel_rfl) Tryd.ntmps88 Tryd.results88 (by simp) ?_
  push_cast
def tab53b : List (Nat × List Bool × List (Nat × Nat)) := [(0, [false, false, false, false, false, false, false, false, false], [(0, 0), (3, 0), (7, 1)]), (0, [true, false, false, false, false, false, false, false, false], [(1, 0), (3, 0), (7, 1)]), (0, [false, false, false, true, false, false, false, false, false], [(0, 0), (4, 0), (7, 1)]), (1, [false, false, false, false, false, false, false, true, false], [(0, 1), (3, 1)]), (0, [true, true, false, false, false, false, false, false, false], [(2, 2), (3, 0), (7, 1)]), (0, [true, false, false, true, false, false, false, false, false], [(1, 0), (4, 0), (7, 1)]), (1, [true, false, false, false, false, false, false, true, false], [(1, 1), (3, 1)]), (0, [false, false, false, true, true, false, false, false, false], [(0, 0), (7, 1)]), (1, [false, false, false, true, false, false, false, true, false], [(0, 1), (4, 1)]), (2, [true, true, true, false, false, false, false, false, false], [(3, 2), (7, 3)]), (0, [true, true, false, true, false, false, false, false, false], [(2, 2), (4, 0), (7, 1)]), (1, [true, true, false, false, false, false, false, true, false], [(2, 4), (3, 1)]), (0, [true, false, false, true, true, false, false, false, false], [(1, 0), (7, 1)]), (1, [true, false, false, true, false, false, false, true, false], [(1, 1), (4, 1)]), (1, [false, false, false, true, true, false, false, true, false], [(0, 1)]), (2, [true, true, true, true, false, false, false, false, false], [(4, 2), (7, 3)]), (3, [true, true, true, false, false, false, false, true, false], [(3, 3)]), (0, [true, true, false, true, true, false, false, false, false], [(2, 2), (7, 1)]), (1, [true, true, false, true, false, false, false, true, false], [(2, 4), (4, 1)]), (4, [true, true, true, false, false, false, false, true, false], [(3, 4)]), (1, [true, false, false, true, true, false, false, true, false], [(1, 1)]), (2, [true, true, true, true, true, false, false, false, false], [(5, 5), (7, 3)]), (3, [true, true, true, true, false, false, false, true, false], [(4, 3)]), (1, [true, true, false, true, true, false, false, true, false], [(2, 4)]), (4, [true, true, true, true, false, false, false, true, false], [(4, 4)]), (5, [true, true, true, true, true, true, false, false, false], [(6, 5), (7, 6)]), (3, [true, true, true, true, true, false, false, true, false], [(5, 7)]), (4, [true, true, true, true, true, false, false, true, false], [(5, 8)]), (5, [true, true, true, true, true, true, true, false, false], [(7, 6)]), (6, [true, true, true, true, true, true, false, true, false], [(6, 6)]), (7, [true, true, true, true, true, true, false, true, false], [(6, 7)]), (8, [true, true, true, true, true, true, false, true, false], [(6, 8)]), (6, [true, true, true, true, true, true, true, true, false], [(8, 6)]), (7, [true, true, true, true, true, true, true, true, false], [(8, 7)]), (8, [true, true, true, true, true, true, true, true, false], [(8, 8)]), (6, [true, true, true, true, true, true, true, true, true], []), (7, [true, true, true, true, true, true, true, true, true], []), (8, [true, true, true, true, true, true, true, true, true], [])]
def tab53 : List (Nat × List Bool × List (Nat × Nat)) := [(0, [true, true, true, true, true, true, true, true, false, false, false, false, false], [(8, 0), (9, 0), (10, 0)]), (0, [true, true, true, true, true, true, true, true, false, false, true, false, false], [(8, 0), (9, 0)]), (0, [true, true, true, true, true, true, true, true, true, false, false, false, false], [(9, 0), (10, 0)]), (0, [true, true, true, true, true, true, true, true, false, true, false, false, false], [(8, 0), (10, 0)]), (0, [true, true, true, true, true, true, true, true, true, false, true, false, false], [(9, 0), (11, 0)]), (0, [true, true, true, true, true, true, true, true, false, true, true, false, false], [(8, 0)]), (0, [true, true, true, true, true, true, true, true, true, true, false, false, false], [(10, 0)]), (0, [true, true, true, true, true, true, true, true, true, true, true, false, false], [(11, 0)]), (0, [true, true, true, true, true, true, true, true, true, false, true, true, false], [(9, 0)]), (0, [true, true, true, true, true, true, true, true, true, true, true, true, false], [(12, 0)]), (0, [true, true, true, true, true, true, true, true, true, true, true, true, true], [])]
theorem c53 (n : Net) (i : Int) (keep : Bool) (hl : n.partners.length ≤ 1000) (hml : n.mail.length ≤ 1000) (hp : ∀ p ∈ n.partners, p.sides.length ≤ 1000 ∧ ∀ s ∈ p.sides, hearK s) (hm : ∀ m ∈ n.mail, m.note.length ≤ 100000) :
    AFn Tryd.prog Γ0 53 [.agg (n.ds.map C.d), .c (.d (.int .i64 i)), .c (.d (.bool keep))] [.agg (delN n i keep).ds, .d (.int .i64 (delE n i))] := by
  by_cases hi : 0 ≤ i ∧ i.toNat < n.mail.length
  case neg =>
    have e1 : delE n i = 2 := by unfold delE; rw [dif_neg hi]
    have e2 : delN n i keep = net0 := by unfold delN; rw [dif_neg hi]
    refine AFn.vc [1000007, 1000010] Tryd.func53 rfl Tryd.mixed (by kernel_rfl) Tryd.ntmps53 Tryd.results53 (by simp) ?_
    push_cast
    rw [e1, e2]
    exact ⟨fun a => ⟨fun b => ⟨⟨rfl, rfl⟩, rfl⟩, fun b => absurd ⟨a, by omega⟩ hi⟩, fun a => ⟨⟨rfl, rfl⟩, rfl⟩⟩
  obtain ⟨j, rfl⟩ := Int.eq_ofNat_of_zero_le hi.1
  have hj : j < n.mail.length := by simpa using hi.2
  refine AFn.vc [1000007, 1000010] Tryd.func53 rfl Tryd.mixed (by kernel_rfl) Tryd.ntmps53 Tryd.results53 (by simp) ?_
  push_cast
  refine ⟨⟨fun h => by omega, fun _ => ⟨hj, ?_⟩⟩, fun h => by omega⟩
  have hE : delE n j = if h' : toI n n.mail[j] < n.partners.length then pHearE n.partners[toI n n.mail[j]] n.mail[j] else 9 := by unfold delE; rw [dif_pos hi]; rfl
  have hN : delN n j keep = if h' : toI n n.mail[j] < n.partners.length then (bif decide (pHearE n.partners[toI n n.mail[j]] n.mail[j] = 0) then ⟨n.partners.set (toI n n.mail[j]) (pHearP n.partners[toI n n.mail[j]] n.mail[j]), bif keep then n.mail else n.mail.eraseIdx j⟩ else net0) else net0 := by
    unfold delN; rw [dif_pos hi]; rfl
  have hmn := hm _ (List.getElem_mem hj)
  have htoI : toI n n.mail[j] = n.partners.findIdx fun p => decide (p.id = n.mail[j].dst) := rfl
  revert hE hN hmn htoI
  generalize n.mail[j] = m
  intro hE hN hmn htoI
  refine CallL.q (c87 n.partners (fun p => decide (p.id = m.dst)) (by omega)) ?_ (.cons (ArgOk.bor rfl) (.cons (ArgOk.clo (dss := [m.ds]) (c88 (Γ := []) partner0 msg0).call rfl (fun a r h => by obtain ⟨x, rfl, rfl⟩ := h; exact c88 x _)) .nil))
  rw [fI_findP, ← htoI, Nat.zero_add]
  generalize toI n m = k at *
  by_cases h1 : k < n.partners.length
  case neg =>
    rw [dif_neg h1] at hE hN
    rw [if_neg h1, hE, hN]
    push_cast
    exact ⟨rfl, rfl⟩
  rw [dif_pos h1] at hE hN
  rw [if_pos h1]
  push_cast
  refine ⟨fun h => by omega, ?_⟩
  obtain ⟨hpl, hpk⟩ := hp _ (List.getElem_mem h1)
  refine RegV.preA (E := [1000007, 1000010]) Tryd.mixed 8 [⟨10, 10, 53, [.d (.int .i64 0), .d (.int .i64 0), .d (.raw (.slice none 0 0))]⟩] (by kernel_rfl) (by kernel_rfl) ?_ ?_
  · intro x hx
    simp only [List.mem_cons, List.not_mem_nil, or_false] at hx
    subst hx
    push_cast
  simp only [List.take_succ_cons, List.take_zero]
  push_cast
  refine ⟨h1, CallX.q (c43 n.partners[k] m hpl hpk hmn) ?_⟩
  revert hE hN
  generalize hpR : pHearP n.partners[k] m = pR
  generalize hpE : pHearE n.partners[k] m = pE
  intro hE hN
  push_cast
  refine ⟨fun hA => ⟨h1, CallX.q (c43 n.partners[k] m hpl hpk hmn) ?_⟩, ?_⟩
  · rw [hpR, hpE]
    push_cast
  refine RestA.tab1 (E := [1000007, 1000010]) tab53 [([none, none, none, none, none, none, none, none, some (43, .agg (pR.ds.map C.d)), some (44, .c (.d (.int .i64 pE))), some (10, .c (.loc 3 0)), none, some (11, .c (.d (.int .i64 pE)))], [none, none, none, none, none, none, none, none, none, none, some [.box 67 (n.ds.map C.d), .box 67 [.d (.raw (.slice none 0 0)), .d (.raw (.slice none 0 0))], .box 28 (m.ds.map C.d), .box 53 [.d (.int .i64 0), .d (.int .i64 0), .d (.raw (.slice none 0 0))]], some [.box 67 (n.ds.map C.d), .box 67 [.d (.raw (.slice none 0 0)), .d (.raw (.slice none 0 0))], .box 28 (m.ds.map C.d), .box 53 (pR.ds.map C.d)], none])] (by kernel_rfl) (by kernel_rfl) rfl rfl rfl ?_ ?_
  · push_cast [tab53]
  push_cast
  rw [hN]
  refine ⟨fun h2 => ?_, fun h2 => ?_⟩
  · rw [hE, decide_eq_false h2]
    exact ⟨⟨rfl, rfl⟩, rfl⟩
  have eN : delN n j keep = ⟨n.partners.set k pR, bif keep then n.mail else n.mail.eraseIdx j⟩ := by rw [hE, decide_eq_true h2]; rfl
  rw [h2]
  refine RegV.tabV (E := [1000007, 1000010]) Tryd.mixed tab53b [([some (49, .c (.loc 0 0)), some (50, .c (.d (.lst 3 (n.partners.map Partner.ds)))), none, some (52, .c (.loc 0 1)), some (53, .c (.d (.lst 8 (n.mail.map Msg.ds)))), none, none, none, none], [none, none, none, none, none, none, none, none, none]),
      ([some (49, .c (.loc 0 0)), some (50, .c (.d (.lst 3 (n.partners.map Partner.ds)))), none, some (52, .c (.loc 0 1)), some (53, .c (.d (.lst 8 (n.mail.map Msg.ds)))), none, none, some (12, .c (.loc 4 0)), none], [none, none, none, none, none, none, none, some [.box 67 (n.ds.map C.d), .box 67 [.d (.raw (.slice none 0 0)), .d (.raw (.slice none 0 0))], .box 28 (m.ds.map C.d), .box 53 (pR.ds.map C.d), .box 67 [.d (.raw (.slice none 0 0)), .d (.raw (.slice none 0 0))]], none]),
      ([some (49, .c (.loc 0 0)), some (50, .c (.d (.lst 3 (n.partners.map Partner.ds)))), some (51, .c (.own 4 0)), some (52, .c (.loc 0 1)), some (53, .c (.d (.lst 8 (n.mail.map Msg.ds)))), none, none, none, none], [none, none, some [.box 67 (n.ds.map C.d), .box 67 [.d (.raw (.slice none 0 0)), .d (.raw (.slice none 0 0))], .box 28 (m.ds.map C.d), .box 53 (pR.ds.map C.d), .row 53 3 (n.partners.map Partner.ds) 0], none, none, none, none, none, none]),
      ([some (49, .c (.loc 0 0)), some (50, .c (.d (.lst 3 (n.partners.map Partner.ds)))), some (51, .c (.own 4 0)), some (52, .c (.loc 0 1)), some (53, .c (.d (.lst 8 (n.mail.map Msg.ds)))), none, none, some (12, .c (.loc 5 0)), none], [none, none, some [.box 67 (n.ds.map C.d), .box 67 [.d (.raw (.slice none 0 0)), .d (.raw (.slice none 0 0))], .box 28 (m.ds.map C.d), .box 53 (pR.ds.map C.d), .row 53 3 (n.partners.map Partner.ds) 0, .box 67 [.d (.raw (.slice none 0 0)), .d (.raw (.slice none 0 0))]], none, none, none, none, some [.box 67 (n.ds.map C.d), .box 67 [.d (.raw (.slice none 0 0)), .d (.raw (.slice none 0 0))], .box 28 (m.ds.map C.d), .box 53 (pR.ds.map C.d), .row 53 3 (n.partners.map Partner.ds) 0, .box 67 [.d (.raw (.slice none 0 0)), .d (.raw (.slice none 0 0))]], none]),
      ([some (49, .c (.loc 0 0)), some (50, .c (.d (.lst 3 (n.partners.map Partner.ds)))), some (51, .c (.own 5 0)), some (52, .c (.loc 0 1)), some (53, .c (.d (.lst 8 (n.mail.map Msg.ds)))), none, none, some (12, .c (.loc 4 0)), none], [none, none, some [.box 67 (n.ds.map C.d), .box 67 [.d (.raw (.slice none 0 0)), .d (.raw (.slice none 0 0))], .box 28 (m.ds.map C.d), .box 53 (pR.ds.map C.d), .box 67 [.d (.raw (.slice none 0 0)), .d (.raw (.slice none 0 0))], .row 53 3 (n.partners.map Partner.ds) 0], none, none, none, none, some [.box 67 (n.ds.map C.d), .box 67 [.d (.raw (.slice none 0 0)), .d (.raw (.slice none 0 0))], .box 28 (m.ds.map C.d), .box 53 (pR.ds.map C.d), .box 67 [.d (.raw (.slice none 0 0)), .d (.raw (.slice none 0 0))], .row 53 3 (n.partners.map Partner.ds) 0], none]),
      ([some (49, .c (.loc 0 0)), some (50, .c (.d (.lst 3 (n.partners.map Partner.ds)))), some (51, .c (.own 4 0)), some (52, .c (.loc 0 1)), some (53, .c (.d (.lst 8 (n.mail.map Msg.ds)))), some (54, .c (.own 5 0)), some (55, .agg [.own 4 0, .own 5 0]), none, none], [none, none, some [.box 67 (n.ds.map C.d), .box 67 [.d (.raw (.slice none 0 0)), .d (.raw (.slice none 0 0))], .box 28 (m.ds.map C.d), .box 53 (pR.ds.map C.d), .row 53 3 (n.partners.map Partner.ds) 0, .row 28 8 (n.mail.map Msg.ds) 0], none, none, some [.box 67 (n.ds.map C.d), .box 67 [.d (.raw (.slice none 0 0)), .d (.raw (.slice none 0 0))], .box 28 (m.ds.map C.d), .box 53 (pR.ds.map C.d), .row 53 3 (n.partners.map Partner.ds) 0, .row 28 8 (n.mail.map Msg.ds) 0], none, none, none]),
      ([some (49, .c (.loc 0 0)), some (50, .c (.d (.lst 3 (n.partners.map Partner.ds)))), some (51, .c (.own 4 0)), some (52, .c (.loc 0 1)), some (53, .c (.d (.lst 8 (n.mail.map Msg.ds)))), some (54, .c (.own 5 0)), some (55, .agg [.own 4 0, .own 5 0]), some (12, .c (.loc 6 0)), none], [none, none, some [.box 67 (n.ds.map C.d), .box 67 [.d (.raw (.slice none 0 0)), .d (.raw (.slice none 0 0))], .box 28 (m.ds.map C.d), .box 53 (pR.ds.map C.d), .row 53 3 (n.partners.map Partner.ds) 0, .row 28 8 (n.mail.map Msg.ds) 0, .box 67 [.d (.raw (.slice none 0 0)), .d (.raw (.slice none 0 0))]], none, none, some [.box 67 (n.ds.map C.d), .box 67 [.d (.raw (.slice none 0 0)), .d (.raw (.slice none 0 0))], .box 28 (m.ds.map C.d), .box 53 (pR.ds.map C.d), .row 53 3 (n.partners.map Partner.ds) 0, .row 28 8 (n.mail.map Msg.ds) 0, .box 67 [.d (.raw (.slice none 0 0)), .d (.raw (.slice none 0 0))]], none, some [.box 67 (n.ds.map C.d), .box 67 [.d (.raw (.slice none 0 0)), .d (.raw (.slice none 0 0))], .box 28 (m.ds.map C.d), .box 53 (pR.ds.map C.d), .row 53 3 (n.partners.map Partner.ds) 0, .row 28 8 (n.mail.map Msg.ds) 0, .box 67 [.d (.raw (.slice none 0 0)), .d (.raw (.slice none 0 0))]], some [.box 67 (n.ds.map C.d), .box 67 [.d (.raw (.slice none 0 0)), .d (.raw (.slice none 0 0))], .box 28 (m.ds.map C.d), .box 53 (pR.ds.map C.d), .row 53 3 (n.partners.map Partner.ds) 0, .row 28 8 (n.mail.map Msg.ds) 0, .box 67 [.own 4 0, .own 5 0]]]),
      ([some (49, .c (.loc 0 0)), some (50, .c (.d (.lst 3 (n.partners.map Partner.ds)))), some (51, .c (.own 4 0)), some (52, .c (.loc 0 1)), some (53, .c (.d (.lst 8 (n.mail.map Msg.ds)))), some (54, .c (.own 6 0)), some (55, .agg [.own 4 0, .own 6 0]), some (12, .c (.loc 5 0)), none], [none, none, some [.box 67 (n.ds.map C.d), .box 67 [.d (.raw (.slice none 0 0)), .d (.raw (.slice none 0 0))], .box 28 (m.ds.map C.d), .box 53 (pR.ds.map C.d), .row 53 3 (n.partners.map Partner.ds) 0, .box 67 [.d (.raw (.slice none 0 0)), .d (.raw (.slice none 0 0))], .row 28 8 (n.mail.map Msg.ds) 0], none, none, some [.box 67 (n.ds.map C.d), .box 67 [.d (.raw (.slice none 0 0)), .d (.raw (.slice none 0 0))], .box 28 (m.ds.map C.d), .box 53 (pR.ds.map C.d), .row 53 3 (n.partners.map Partner.ds) 0, .box 67 [.d (.raw (.slice none 0 0)), .d (.raw (.slice none 0 0))], .row 28 8 (n.mail.map Msg.ds) 0], none, some [.box 67 (n.ds.map C.d), .box 67 [.d (.raw (.slice none 0 0)), .d (.raw (.slice none 0 0))], .box 28 (m.ds.map C.d), .box 53 (pR.ds.map C.d), .row 53 3 (n.partners.map Partner.ds) 0, .box 67 [.d (.raw (.slice none 0 0)), .d (.raw (.slice none 0 0))], .row 28 8 (n.mail.map Msg.ds) 0], some [.box 67 (n.ds.map C.d), .box 67 [.d (.raw (.slice none 0 0)), .d (.raw (.slice none 0 0))], .box 28 (m.ds.map C.d), .box 53 (pR.ds.map C.d), .row 53 3 (n.partners.map Partner.ds) 0, .box 67 [.own 4 0, .own 6 0], .row 28 8 (n.mail.map Msg.ds) 0]]),
      ([some (49, .c (.loc 0 0)), some (50, .c (.d (.lst 3 (n.partners.map Partner.ds)))), some (51, .c (.own 5 0)), some (52, .c (.loc 0 1)), some (53, .c (.d (.lst 8 (n.mail.map Msg.ds)))), some (54, .c (.own 6 0)), some (55, .agg [.own 5 0, .own 6 0]), some (12, .c (.loc 4 0)), none], [none, none, some [.box 67 (n.ds.map C.d), .box 67 [.d (.raw (.slice none 0 0)), .d (.raw (.slice none 0 0))], .box 28 (m.ds.map C.d), .box 53 (pR.ds.map C.d), .box 67 [.d (.raw (.slice none 0 0)), .d (.raw (.slice none 0 0))], .row 53 3 (n.partners.map Partner.ds) 0, .row 28 8 (n.mail.map Msg.ds) 0], none, none, some [.box 67 (n.ds.map C.d), .box 67 [.d (.raw (.slice none 0 0)), .d (.raw (.slice none 0 0))], .box 28 (m.ds.map C.d), .box 53 (pR.ds.map C.d), .box 67 [.d (.raw (.slice none 0 0)), .d (.raw (.slice none 0 0))], .row 53 3 (n.partners.map Partner.ds) 0, .row 28 8 (n.mail.map Msg.ds) 0], none, some [.box 67 (n.ds.map C.d), .box 67 [.d (.raw (.slice none 0 0)), .d (.raw (.slice none 0 0))], .box 28 (m.ds.map C.d), .box 53 (pR.ds.map C.d), .box 67 [.d (.raw (.slice none 0 0)), .d (.raw (.slice none 0 0))], .row 53 3 (n.partners.map Partner.ds) 0, .row 28 8 (n.mail.map Msg.ds) 0], some [.box 67 (n.ds.map C.d), .box 67 [.d (.raw (.slice none 0 0)), .d (.raw (.slice none 0 0))], .box 28 (m.ds.map C.d), .box 53 (pR.ds.map C.d), .box 67 [.own 5 0, .own 6 0], .row 53 3 (n.partners.map Partner.ds) 0, .row 28 8 (n.mail.map Msg.ds) 0]])] [6, 7, 8] (by kernel_rfl) (by kernel_rfl) rfl ?_ ?_
  · push_cast [tab53b]
    repeat' (first | refine And.intro ?_ ?_ | (refine CallL.own (c89 n.partners (by omega)) ?_; push_cast) | (refine CallL.own (c74 n.mail (by omega)) ?_; push_cast))
  simp only [allV]
  refine ⟨?_, ?_, ?_, trivial⟩
  all_goals
    rw [eN]
    cases keep
    · push_cast
      refine ⟨by omega, h1, ⟨by omega, by omega⟩, CallL.delete (els := n.mail.map Msg.ds) (p := j) rfl (by simpa using hj) ?_⟩
      push_cast
      exact ⟨by rw [List.map_set]; rfl, by rw [List.eraseIdx_eq_take_drop_succ, List.map_append, List.map_take, List.map_drop]⟩
    · push_cast
      exact ⟨by omega, h1, by rw [List.map_set]; rfl⟩
end Go.Proofs

/- Walks of the chapter on partners, fourteenth part: the reference's Deliver. No condition. -/
namespace Go.Proofs
open Go Go.Ax Go.Tx Go.Il
set_option maxRecDepth 100000
variable {Γ : List (Nat × List D)}
def tab54 : List (Nat × List Bool × List (Nat × Nat)) := [(0, [true, true, true, true, true, true, true, true, false, false, false, false, false], [(8, 0), (9, 0), (10, 0)]), (0, [true, true, true, true, true, true, true, true, false, false, true, false, false], [(8, 0), (9, 0)]), (0, [true, true, true, true, true, true, true, true, true, false, false, false, false], [(9, 0), (10, 0)]), (0, [true, true, true, true, true, true, true, true, false, true, false, false, false], [(8, 0), (10, 0)]), (0, [true, true, true, true, true, true, true, true, true, false, true, false, false], [(9, 0), (11, 0)]), (0, [true, true, true, true, true, true, true, true, false, true, true, false, false], [(8, 0)]), (0, [true, true, true, true, true, true, true, true, true, true, false, false, false], [(10, 0)]), (0, [true, true, true, true, true, true, true, true, true, true, true, false, false], [(11, 0)]), (0, [true, true, true, true, true, true, true, true, true, false, true, true, false], [(9, 0)]), (0, [true, true, true, true, true, true, true, true, true, true, true, true, false], [(12, 0)]), (0, [true, true, true, true, true, true, true, true, true, true, true, true, true], [])]
/-- What is kept of the first messages. -/
def keptL (l : List Msg) (j : Nat) (keep : Bool) (q : Nat) : List Msg := bif keep then l.take q else (l.take q).eraseIdx j
theorem kept_next (l : List Msg) (j : Nat) (keep : Bool) (q : Nat) (h : q < l.length) (hk : q ≠ j ∨ keep = true) : keptL l j keep (q + 1) = keptL l j keep q ++ [l[q]] := by
  unfold keptL
  rw [← take_next l q h _ rfl]
  cases keep with
  | true => rfl
  | false =>
    have hq : q ≠ j := by simpa using hk
    simp only [cond_false]
    rcases Nat.lt_or_ge j q with h1 | h1
    · rw [List.eraseIdx_append_of_lt_length (by rw [List.length_take]; omega)]
    · rw [List.eraseIdx_of_length_le (by rw [List.length_append, List.length_take, List.length_singleton]; omega), List.eraseIdx_of_length_le (by rw [List.length_take]; omega)]
theorem kept_skip (l : List Msg) (j : Nat) (h : j < l.length) : keptL l j false (j + 1) = keptL l j false j := by
  unfold keptL
  rw [← take_next l j h _ rfl]
  simp only [cond_false]
  have e1 : (l.take j).length = j := by rw [List.length_take]; omega
  rw [List.eraseIdx_append_of_length_le (by omega), e1, Nat.sub_self, show [l[j]].eraseIdx 0 = ([] : List Msg) from rfl, List.append_nil, List.eraseIdx_of_length_le (by omega)]
theorem kept_end (l : List Msg) (j : Nat) (keep : Bool) : keptL l j keep l.length = bif keep then l else l.eraseIdx j := by
  unfold keptL; rw [List.take_length]
theorem kept_le (l : List Msg) (j : Nat) (keep : Bool) (q : Nat) : (keptL l j keep q).length ≤ q := by
  unfold keptL
  cases keep with
  | true => simp only [cond_true, List.length_take]; omega
  | false =>
    have := List.length_eraseIdx_le (l.take q) j
    simp only [cond_false]
    rw [List.length_take] at this
    omega
theorem c54 (n : Net) (i : Int) (keep : Bool) (hl : n.partners.length ≤ 1000) (hml : n.mail.length ≤ 1000) (hp : ∀ p ∈ n.partners, p.sides.length ≤ 1000 ∧ (∀ s ∈ p.sides, hearK s) ∧ ∀ s ∈ p.sides, ∀ x ∈ s.early, 1 ≤ x.kind ∧ x.kind ≤ 11) (hm : ∀ m ∈ n.mail, m.note.length ≤ 100000) :
    AFn Tryd.prog Γ 54 [.agg (n.ds.map C.d), .c (.d (.int .i64 i)), .c (.d (.bool keep))] [.agg (delN n i keep).ds, .d (.int .i64 (delE n i))] := by
  by_cases hi : 0 ≤ i ∧ i.toNat < n.mail.length
  case neg =>
    have e1 : delE n i = 2 := by unfold delE; rw [dif_neg hi]
    have e2 : delN n i keep = net0 := by unfold delN; rw [dif_neg hi]
    refine AFn.vc [1000009] Tryd.func54 rfl Tryd.mixed (by kernel_rfl) Tryd.ntmps54 Tryd.results54 (by simp) ?_
    push_cast
    rw [e1, e2]
    exact ⟨fun a => ⟨fun b => ⟨⟨rfl, rfl⟩, rfl⟩, fun b => absurd ⟨a, by omega⟩ hi⟩, fun a => ⟨⟨rfl, rfl⟩, rfl⟩⟩
  obtain ⟨j, rfl⟩ := Int.eq_ofNat_of_zero_le hi.1
  have hj : j < n.mail.length := by simpa using hi.2
  refine AFn.vc [1000009] Tryd.func54 rfl Tryd.mixed (by kernel_rfl) Tryd.ntmps54 Tryd.results54 (by simp) ?_
  push_cast
  refine ⟨⟨fun h => by omega, fun _ => ⟨hj, ?_⟩⟩, fun h => by omega⟩
  have hE : delE n j = if h' : toI n n.mail[j] < n.partners.length then pHearE n.partners[toI n n.mail[j]] n.mail[j] else 9 := by unfold delE; rw [dif_pos hi]; rfl
  have hN : delN n j keep = if h' : toI n n.mail[j] < n.partners.length then (bif decide (pHearE n.partners[toI n n.mail[j]] n.mail[j] = 0) then ⟨n.partners.set (toI n n.mail[j]) (pHearP n.partners[toI n n.mail[j]] n.mail[j]), bif keep then n.mail else n.mail.eraseIdx j⟩ else net0) else net0 := by
    unfold delN; rw [dif_pos hi]; rfl
  have hmn := hm _ (List.getElem_mem hj)
  have htoI : toI n n.mail[j] = n.partners.findIdx fun p => decide (p.id = n.mail[j].dst) := rfl
  revert hE hN hmn htoI
  generalize n.mail[j] = m
  intro hE hN hmn htoI
  refine LoopV.cnt Tryd.mixed [1, 2, 3, 6, 8] n.partners.length (fun k => [(9, .c (.d (.int .i64 k)))]) (fun k => ∀ q (hq : q < n.partners.length), q < k → n.partners[q].id ≠ m.dst) (fun q hq h => by omega) ?_ (by push_cast)
  intro k hk hin
  have hex : (∀ h : k < n.partners.length, n.partners[k].id = m.dst) → toI n m = k := fun h => by
    rw [htoI]
    rcases Nat.lt_or_ge k n.partners.length with h1 | h1
    · rw [List.findIdx_eq h1]
      exact ⟨decide_eq_true (h h1), fun q hq => decide_eq_false (hin q (by omega) hq)⟩
    · have : k = n.partners.length := by omega
      rw [this]
      rw [List.findIdx_eq_length]
      intro x hx
      obtain ⟨q, hq, rfl⟩ := List.getElem_of_mem hx
      exact decide_eq_false (hin q hq (by omega))
  push_cast
  refine ⟨fun h => ⟨by omega, fun h1 => ⟨⟨by omega, by omega⟩, by omega, fun q hq hqk => ?_⟩, fun h1 => ⟨fun h2 => by omega, fun _ => ?_⟩⟩, fun h => ⟨fun _ => ?_, fun h2 => absurd (show (k : Int) = n.partners.length by omega) h2⟩⟩
  · by_cases hqe : q = k
    · subst hqe; exact h1
    · exact hin q hq (by omega)
  rotate_left
  · have ht := hex fun h => by omega
    rw [ht, dif_neg (by omega)] at hE hN
    rw [hE, hN]
    exact ⟨⟨rfl, rfl⟩, rfl⟩
  have hkl : k < n.partners.length := by omega
  have ht := hex fun _ => h1
  rw [ht] at hE hN
  simp only [dif_pos hkl] at hE hN
  obtain ⟨hpl, hpk, hpd⟩ := hp _ (List.getElem_mem hkl)
  clear hex hin htoI ht hi
  refine RegV.preA (E := [1000009]) Tryd.mixed 8 [⟨10, 10, 53, [.d (.int .i64 0), .d (.int .i64 0), .d (.raw (.slice none 0 0))]⟩] (by kernel_rfl) (by kernel_rfl) ?_ ?_
  · intro x hx
    simp only [List.mem_cons, List.not_mem_nil, or_false] at hx
    subst hx
    push_cast
  simp only [List.take_succ_cons, List.take_zero]
  push_cast
  refine ⟨hkl, CallX.q (c44 n.partners[k] m hpl hpk hpd hmn) ?_⟩
  revert hE hN
  generalize hpR : pHearP n.partners[k] m = pR
  generalize hpE : pHearE n.partners[k] m = pE
  intro hN hE
  push_cast
  refine ⟨fun hA => ⟨hkl, CallX.q (c44 n.partners[k] m hpl hpk hpd hmn) ?_⟩, ?_⟩
  · rw [hpR, hpE]
    push_cast
  refine RestA.tab1 (E := [1000009]) tab54 [([none, none, none, none, none, none, none, none, some (62, .agg (pR.ds.map C.d)), some (63, .c (.d (.int .i64 pE))), some (10, .c (.loc 3 0)), none, some (11, .c (.d (.int .i64 pE)))], [none, none, none, none, none, none, none, none, none, none, some [.box 67 (n.ds.map C.d), .box 67 [.d (.raw (.slice none 0 0)), .d (.raw (.slice none 0 0))], .box 28 (m.ds.map C.d), .box 53 [.d (.int .i64 0), .d (.int .i64 0), .d (.raw (.slice none 0 0))]], some [.box 67 (n.ds.map C.d), .box 67 [.d (.raw (.slice none 0 0)), .d (.raw (.slice none 0 0))], .box 28 (m.ds.map C.d), .box 53 (pR.ds.map C.d)], none])] (by kernel_rfl) (by kernel_rfl) rfl rfl rfl ?_ ?_
  · push_cast [tab54]
  push_cast
  rw [hN]
  refine ⟨fun h2 => ?_, fun h2 => ?_⟩
  · rw [hE, decide_eq_false h2]
    exact ⟨⟨rfl, rfl⟩, rfl⟩
  have eN : delN n j keep = ⟨n.partners.set k pR, bif keep then n.mail else n.mail.eraseIdx j⟩ := by rw [hE, decide_eq_true h2]; rfl
  rw [eN, h2]
  obtain ⟨L, hL⟩ : ∃ L, n.partners.set k pR = L := ⟨_, rfl⟩
  have hLl : L.length = n.partners.length := by rw [← hL]; simp
  refine LoopV.nilfield 4 0 67 53 3 ?_
  push_cast
  refine LoopV.nilfield 4 1 67 28 8 ?_
  push_cast
  refine LoopV.cntH Tryd.mixed [1, 2, 3, 6, 9, 10, 12] n.partners.length (fun q => [(13, .c (.d (.int .i64 q)))]) (fun q => [.box 67 (n.ds.map C.d), .box 67 [.d (.raw (.slice none 0 0)), .d (.raw (.slice none 0 0))], .box 28 (m.ds.map C.d), .box 53 (pR.ds.map C.d), .box 67 [.own 5 q, .own 6 0], .row 53 3 ((L.take q).map Partner.ds) q, .row 28 8 [] 0]) (fun _ => True) trivial ?_ (by push_cast)
  intro q hq _
  push_cast
  refine ⟨fun h3 => ⟨fun h4 => ?_, fun h4 => ?_⟩, fun h3 => ?_⟩
  · have hq' : q < L.length := by omega
    refine ⟨⟨by omega, by omega⟩, ⟨by omega, by omega⟩, by omega, ?_⟩
    have e : L[q] = pR := by
      have hqk : q = k := by omega
      subst hqk
      simp only [← hL, List.getElem_set_self]
    rw [← take_next L q hq' pR e, List.map_append]; rfl
  · have hq' : q < L.length := by omega
    have hqn : q < n.partners.length := by omega
    refine ⟨by omega, ⟨by omega, by omega⟩, ⟨by omega, by omega⟩, by omega, ?_⟩
    have e : L[q] = n.partners[q] := by
      simp only [← hL]
      rw [List.getElem_set_ne (by omega)]
    rw [← take_next L q hq' _ e, List.map_append]; rfl
  have hqe : q = n.partners.length := by omega
  rw [List.take_of_length_le (by omega)]
  refine LoopV.cntH Tryd.mixed [1, 2, 3, 6, 12] n.mail.length (fun r => [(14, .c (.d (.int .i64 r)))]) (fun r => [.box 67 (n.ds.map C.d), .box 67 [.d (.raw (.slice none 0 0)), .d (.raw (.slice none 0 0))], .box 28 (m.ds.map C.d), .box 53 (pR.ds.map C.d), .box 67 [.own 5 q, .own 6 (keptL n.mail j keep r).length], .row 53 3 (L.map Partner.ds) q, .row 28 8 ((keptL n.mail j keep r).map Msg.ds) (keptL n.mail j keep r).length]) (fun _ => True) trivial ?_ (by push_cast; unfold keptL; cases keep <;> exact ⟨rfl, rfl, rfl⟩)
  intro r hr _
  push_cast
  have hkl2 := kept_le n.mail j keep r
  refine ⟨fun h3 => ?_, fun h3 => ?_⟩
  · have hr' : r < n.mail.length := by omega
    have happ : r ≠ j ∨ keep = true → (keptL n.mail j keep r).length + 1 = (keptL n.mail j keep (r + 1)).length ∧ List.map Msg.ds (keptL n.mail j keep r) ++ [n.mail[r].ds] = List.map Msg.ds (keptL n.mail j keep (r + 1)) := fun c => by
      rw [kept_next n.mail j keep r hr' c, List.map_append, List.length_append]
      exact ⟨rfl, rfl⟩
    refine ⟨fun h4 => ⟨fun h5 => ?_, fun h5 => ?_⟩, fun h4 => ?_⟩
    · obtain ⟨a1, a2⟩ := happ (.inr h5)
      exact ⟨hr', ⟨by omega, by omega⟩, ⟨by omega, by omega⟩, hr', a1, a2, a1⟩
    · have hrj : r = j := by omega
      subst hrj
      rw [h5, kept_skip _ _ hr']
      exact ⟨⟨by omega, by omega⟩, hr', rfl, rfl, rfl⟩
    · obtain ⟨a1, a2⟩ := happ (.inl (by omega))
      exact ⟨hr', ⟨by omega, by omega⟩, ⟨by omega, by omega⟩, hr', a1, a2, a1⟩
  · obtain rfl : r = n.mail.length := by omega
    rw [kept_end, hL]
    exact ⟨rfl, rfl⟩
theorem delN_ok (n : Net) (i : Int) (keep : Bool) (hv : ∀ p ∈ n.partners, PV p ∧ OkP p) (hm : ∀ m ∈ n.mail, m.note.length ≤ 100) (hl : n.partners.length ≤ 1000) (hml : n.mail.length ≤ 1000) : OkN (delN n i keep) := by
  have h0 : OkN net0 := ⟨Nat.zero_le _, Nat.zero_le _, fun p hp => (List.not_mem_nil hp).elim⟩
  unfold delN
  split
  · next h =>
    split
    · next h' =>
      cases hd : decide (pHearE n.partners[toI n n.mail[i.toNat]] n.mail[i.toNat] = 0) with
      | false => exact h0
      | true =>
        refine ⟨by simpa using hl, ?_, fun p hp => ?_⟩
        · show (bif keep then n.mail else n.mail.eraseIdx i.toNat).length ≤ 1000
          cases keep with
          | true => exact hml
          | false =>
            have := List.length_eraseIdx_le n.mail i.toNat
            simp only [cond_false]; omega
        · rcases List.mem_or_eq_of_mem_set hp with hp | rfl
          · exact (hv p hp).2
          · have hk := hv _ (List.getElem_mem h')
            exact phear_ok hk.1 hk.2 (hm _ (List.getElem_mem h.2))
    · exact h0
  · exact h0
theorem c15 (n : Net) (i : Int) (keep : Bool) : AFn Tryd.prog Γ0 15 [.agg (n.ds.map C.d), .c (.d (.int .i64 i)), .c (.d (.bool keep))] [.d (.bool true)] := by
  refine AFn.vc [] Tryd.func15 rfl Tryd.mixed (by kernel_rfl) Tryd.ntmps15 Tryd.results15 (by simp) ?_
  push_cast
  refine CallL.q c38 ?_
  push_cast
  refine CallL.q (c52 n) ?_
  push_cast
  intro h
  unfold netF at h
  simp only [Bool.and_eq_true, decide_eq_true_eq, List.all_eq_true] at h
  obtain ⟨⟨⟨h1, h2⟩, h3⟩, h4⟩ := h
  have hv : ∀ p ∈ n.partners, PV p ∧ OkP p := fun p hp => by
    have := h3 p hp
    unfold validP at this
    rw [Bool.and_eq_true, decide_eq_true_eq] at this
    have := val_of this.1 this.2
    exact ⟨this.pv, this.ok⟩
  have hm : ∀ m ∈ n.mail, m.note.length ≤ 100 := fun m hm => of_decide_eq_true (h4 m hm)
  refine CallL.q (c53 n i keep (by omega) (by omega) (fun p hp => ⟨(hv p hp).2.len, (hv p hp).1.hearK⟩) fun m h => by have := hm m h; omega) ?_
  push_cast
  refine CallL.q (c54 n i keep (by omega) (by omega) (fun p hp => ⟨(hv p hp).2.len, (hv p hp).1.hearK, (hv p hp).1.kind⟩) fun m h => by have := hm m h; omega) ?_
  push_cast
  refine CallL.q (c55s (delN n i keep) (delN_ok n i keep hv hm (by omega) (by omega))) ?_
  push_cast
end Go.Proofs
