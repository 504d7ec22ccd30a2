/- Part of a proof about this program; no condition of its own. -/
import Derived.Test.YtanbfhnmklhjiaaGreatDoorP35
import Derived.Test.YtanbfhnmklhjiaaGreatDoorP22
import Derived.Test.YtanbfhnmklhjiaaGreatDoorP20
import Derived.Deep.RegionLaw
import Derived.Lib.SliceRun
import Derived.Shelf.Spec.SlicesInsert
import Derived.Lib.AppendZerosOnto
set_option linter.all false
/- SetAbove and Remove. No condition. -/
namespace Go.Proofs
open Go Go.Ax Go.Tx Go.Lib Go.RowKit Go.Fc
set_option maxRecDepth 100000
set_option maxHeartbeats 0
variable {Γ : List (Nat × List D)} {M : Int}
def chkP (l : List Au) : List Au × Int := (if rightP l = 0 then l else [], rightP l)
def placeP (l : List Au) (id : Int) : Int := fI (fun a => decide (a.id = id)) 0 l
def setL (l : List Au) (id : Int) (ab : List Int) : List Au := l.modify (placeP l id).toNat fun a => { a with above := ab }
def setAboveP (l : List Au) (id : Int) (ab : List Int) : List Au × Int := if placeP l id < 0 then ([], 9) else chkP (setL l id ab)
theorem c41 (h2 : (2, firstD) ∈ Γ) (h3 : (3, acceptD) ∈ Γ) (hM : (0, [D.int .i64 M]) ∈ Γ) (l : List Au) (hl : l.length ≤ 2000000) (id : Int) (ab : List Int) (ha : ab.length ≤ 2000000) (hb : 0 ≤ placeP l id → AuB (setL l id ab)) : AFn Tryz.prog Γ 41 [.c (.d (.lst 5 (l.map Au.ds))), .c (.d (.int .i64 id)), .c (.d (.lst 1 (ab.map Fc.iD)))] [.d (.lst 5 ((setAboveP l id ab).1.map Au.ds)), .d (.int .i64 (setAboveP l id ab).2)] := by
  generalize hR : setAboveP l id ab = R
  unfold setAboveP at hR
  have hbd := fI_bd (fun a => decide (a.id = id)) l 0
  refine AFn.vc [] Tryz.func41 rfl Tryz.mixed (by kernel_rfl) Tryz.ntmps41 Tryz.results41 (by simp) ?_
  push_cast
  refine CallL.q (c78 l id hl) ?_
  push_cast
  rw [show fI (fun a => decide (a.id = id)) 0 l = placeP l id from rfl] at *
  refine ⟨fun h => ?_, fun h => ?_⟩
  · rw [if_pos h] at hR
    rw [← hR]
    exact ⟨rfl, rfl⟩
  · rw [if_neg (by omega)] at hR
    have hb := hb h
    refine CallL.own (c88 l hl) ?_
    push_cast
    refine CallL.q (AFn.frz (c93 ab ha)) ?_
    push_cast
    have hlt : (placeP l id).toNat < l.length := by omega
    refine ⟨⟨h, by omega⟩, by simpa using hlt, ?_⟩
    have hset : (l.map Au.ds).set (placeP l id).toNat [.int .i64 l[(placeP l id).toNat].id, .int .i64 l[(placeP l id).toNat].kind, .str l[(placeP l id).toNat].hd, .lst 1 (l[(placeP l id).toNat].see.map Fc.sD), .lst 1 (ab.map Fc.iD)] = (setL l id ab).map Au.ds := by
      apply List.ext_getElem
      · simp [setL]
      · intro j h1 h2
        simp only [setL, List.getElem_set, List.getElem_map, List.getElem_modify]
        by_cases e : (placeP l id).toNat = j
        · subst e
          simp [Au.ds]
        · simp [e]
    rw [hset]
    refine CallL.frm [] [(22, .c (.d (.lst 5 ((setL l id ab).map Au.ds))))] [] ?_ ?_
    · push_cast
    push_cast
    refine CallL.q (c86 h2 h3 hM (setL l id ab) hb) ?_
    push_cast
    rw [← hR]
    exact ⟨rfl, rfl⟩
end Go.Proofs

/- slices.Delete of one element of several cells, of a row of the call's own. No condition. -/
namespace Go.Proofs
open Go Go.Ax Go.RowKit
set_option maxRecDepth 100000
theorem cells_set (P : Program) (g o : Nat) (t : TypeId) (vs : List Value) (cur : Array Value) (w : World) (hg : w.heap[g]? = some (.cells cur t (0, 0))) (hl : o + vs.length ≤ cur.size) (h1 : ∀ v ∈ vs, v.oneCell' = true) :
    w.setCells g o vs = w.setRow g (cur.toList.take o ++ vs ++ cur.toList.drop (o + vs.length)).toArray := by
  have e1 := run_storeCells_cells (P := P) g o vs 0 w (fun j hj => by simp [World.cell?, hg, show o + j < cur.size by omega]) (fun j hj => by simp [World.frozen?, hg]) h1
  have e2 := run_storeCells_at P g o t vs 0 cur w hg (by simpa using hl) h1
  rw [e1] at e2
  simpa using e2
theorem run_clear_one (w : World) (t e ty : TypeId) (z : Value) (ht : Tryz.prog.underlying t = some (.slice e)) (hv : ∀ w, (zeroValue e).run Tryz.prog w = .ok z w) (g o n c : Nat) (cur : Array Value) (et : TypeId) (hg : w.heap[g]? = some (.cells cur et (0, 0)))
    (hn : n = 1) (hl : o + z.cells.size ≤ cur.size) (h1 : ∀ v ∈ z.cells.toList, v.oneCell' = true) :
    (Builtin.clear_ #[t] ty #[.slice (some ⟨g, o, none⟩) n c]).run Tryz.prog w = .ok (.tuple #[]) (w.setRow g (cur.toList.take o ++ z.cells.toList ++ cur.toList.drop (o + z.cells.size)).toArray) := by
  subst hn
  have hzc : (Builtin.zeroCells z.cells 1).toList = z.cells.toList := by
    apply List.ext_getElem
    · simp [Builtin.zeroCells]
    · intro i h1 h2
      have h3 : i < z.cells.size := by simpa using h2
      simp [Builtin.zeroCells, Nat.mod_eq_of_lt h3, getElem!_pos z.cells i h3]
  have hst := run_storeCells_at Tryz.prog g o et z.cells.toList 0 cur w hg (by simpa using hl) h1
  simp only [Nat.add_zero] at hst
  rw [Array.length_toList] at hst
  simp [Builtin.clear_, run_underlying ht, hv, hzc, hst]
set_option maxHeartbeats 4000000 in
theorem del_shift (g n c i : Nat) (cur : Array Value) (w : World) (hi : i < n) (hnc : n ≤ c) (hm : c ≤ maxLen) (hg : w.heap[g]? = some (.cells cur 45 (0, 0))) (hsz : cur.size = c * 5) (h1 : ∀ v ∈ cur.toList.take (n * 5), v.oneCell' = true) :
    Calls Tryz.prog 89 #[.slice (some ⟨g, 0, none⟩) n c, .int .i64 i, .int .i64 ((i : Int) + 1)] w fun e w' =>
      e = .returned (.slice (some ⟨g, 0, none⟩) (n - 1) c) ∧ w.grownBy w' (some g) ∧ ∃ cur', w'.heap[g]? = some (.cells cur' 45 (0, 0)) ∧ cur'.size = c * 5 ∧ cur'.toList.take ((n - 1) * 5) = (cur.toList.take (n * 5)).take (i * 5) ++ (cur.toList.take (n * 5)).drop ((i + 1) * 5) := by
  obtain ⟨hu, hpos, ii, z, hii, hz, hs, hb, hzc⟩ := apT_some Tryz.apT23
  have hzz : (Tryz.prog.info? 45).bind (·.zero) = some (.agg #[.int .i64 0, .int .i64 0, .string ⟨#[]⟩, .slice none 0 0, .slice none 0 0]) := by kernel_rfl
  rw [hii] at hzz
  have hzz : ii.zero = some (.agg #[.int .i64 0, .int .i64 0, .string ⟨#[]⟩, .slice none 0 0, .slice none 0 0]) := hzz
  rw [hz] at hzz
  have hzz := Option.some.inj hzz
  have hz1 : ∀ v ∈ z.cells.toList, v.oneCell' = true := by
    rw [hzz]
    intro v hv
    simp [Value.cells] at hv
    rcases hv with rfl | rfl | rfl <;> rfl
  have hzv : ∀ w, (zeroValue 45).run Tryz.prog w = .ok z w := fun w => by simp [zeroValue, typeInfo, hii, hz]
  have hcl : cur.toList.length = c * 5 := by simpa using hsz
  obtain ⟨X1, hX1⟩ : ∃ X1, X1 = (cur.toList.take (n * 5)).drop ((i + 1) * 5) := ⟨_, rfl⟩
  have hX1l : X1.length = (n - (i + 1)) * 5 := by rw [hX1, List.length_drop, List.length_take, hcl]; omega
  obtain ⟨C1, hC1⟩ : ∃ C1 : Array Value, C1 = (cur.toList.take (i * 5) ++ X1 ++ cur.toList.drop (i * 5 + X1.length)).toArray := ⟨_, rfl⟩
  have hC1l : C1.size = c * 5 := by rw [hC1]; simp [hX1l, hsz]; omega
  obtain ⟨C2, hC2⟩ : ∃ C2 : Array Value, C2 = (C1.toList.take ((i + (n - (i + 1))) * 5) ++ z.cells.toList ++ C1.toList.drop ((i + (n - (i + 1))) * 5 + z.cells.size)).toArray := ⟨_, rfl⟩
  have hX11 : ∀ v ∈ X1, v.oneCell' = true := fun v hv => h1 v (by rw [hX1] at hv; exact List.mem_of_mem_drop hv)
  obtain ⟨A, hA, hsrc⟩ : ∃ A : Addr, (if c = i + 1 then some (⟨g, 0, none⟩ : Addr) else some ⟨g, (i + 1) * 5, none⟩) = some A ∧ Hid (∀ t u, X1[t]? = some u → w.drew.cell? (A.add t) = some u) := by
    by_cases h : c = i + 1
    · refine ⟨⟨g, 0, none⟩, by simp [h], fun t u hu => ?_⟩
      have h0 : X1.length = 0 := by rw [hX1l]; omega
      rw [List.length_eq_zero_iff.1 h0] at hu
      simp at hu
    · refine ⟨⟨g, (i + 1) * 5, none⟩, by simp [h], fun t u hu => ?_⟩
      have e : w.drew.cell? ((⟨g, (i + 1) * 5, none⟩ : Addr).add t) = cur[(i + 1) * 5 + t]? := by
        rw [add_plain]
        show w.cell? _ = _
        simp [World.cell?, hg]
      rw [e]
      rw [hX1, List.getElem?_drop, List.getElem?_take] at hu
      split at hu
      · simpa using hu
      · cases hu
  have s1 : Hid (X1.length = (n - (i + 1)) * 5) := hX1l
  have s2 : Hid (∀ u ∈ X1, u.oneCell' = true) := hX11
  have s3 : Hid (∀ t, t < X1.length → (w.drew.cell? ⟨g, 0 + i * 5 + t, none⟩).isSome = true ∧ w.drew.frozen? ⟨g, 0 + i * 5 + t, none⟩ = false) := by
    intro t ht
    rw [hX1l] at ht
    refine ⟨?_, ?_⟩
    · show (w.cell? _).isSome = true
      simp [World.cell?, hg, show i * 5 + t < cur.size by omega]
    · show w.frozen? _ = false
      simp [World.frozen?, hg]
  obtain ⟨W1, hW1⟩ : ∃ W1, W1 = w.drew.setCells g (0 + i * 5) X1 := ⟨_, rfl⟩
  have hW1' : W1 = w.drew.setRow g C1 := by
    rw [hW1, hC1, Nat.zero_add]
    exact cells_set Tryz.prog g (i * 5) 45 X1 cur w.drew hg (by rw [hX1l]; omega) hX11
  have hg1 : W1.heap[g]? = some (.cells C1 45 (0, 0)) := by rw [hW1']; exact setRow_heap w.drew g _ _ _ _ hg
  have hclr : ∀ ty, (Builtin.clear_ #[23] ty #[.slice (some ⟨g, (i + (n - (i + 1))) * 5, none⟩) (n - (i + (n - (i + 1)))) (c - (i + (n - (i + 1))))]).run Tryz.prog W1 = .ok (.tuple #[]) (W1.setRow g C2) := fun ty => by
    rw [hC2]
    exact run_clear_one W1 23 45 ty z Tryz.underlying23 hzv g _ _ _ C1 45 hg1 (by omega) (by rw [hzc, hC1l]; omega) hz1
  have hW : Hid (W1 = w.drew.setCells g (0 + i * 5) X1) := hW1
  have HH : Hid (W1 = w.drew.setRow g C1 ∧ W1.heap[g]? = some (.cells C1 45 (0, 0)) ∧ C1 = (cur.toList.take (i * 5) ++ X1 ++ cur.toList.drop (i * 5 + X1.length)).toArray ∧ X1 = (cur.toList.take (n * 5)).drop ((i + 1) * 5) ∧ C2 = (C1.toList.take ((i + (n - (i + 1))) * 5) ++ z.cells.toList ++ C1.toList.drop ((i + (n - (i + 1))) * 5 + z.cells.size)).toArray ∧ C1.size = c * 5 ∧ cur.toList.length = c * 5 ∧ z.cells.size = 5) := ⟨hW1', hg1, hC1, hX1, hC2, hC1l, hcl, hzc⟩
  have hlt : g < w.heap.size := (Array.getElem?_eq_some_iff.1 hg).1
  clear hX1l hsz hcl hC1l hC1 hX1 hC2 hW1 hW1' hg1 hzz hz1 hX11 hzc hz hzv hg h1 hpos hb
  have hic : i ≤ c := by omega
  have hjc : i + 1 ≤ c := by omega
  have hin : i ≤ n := by omega
  have hjn : i + 1 ≤ n := by omega
  have hij : i ≤ i + 1 := by omega
  have hne : ¬ ((i : Int) = (i : Int) + 1) := by omega
  have hb1 : (0 : Int) ≤ (i : Int) + 1 := by omega
  have htn : ((i : Int) + 1).toNat = i + 1 := by omega
  have hb2 : (i : Int) ≤ (i : Int) + 1 := by omega
  have hb3 : (i : Int) + 1 ≤ (n : Int) := by omega
  have mixed := Tryz.mixed
  go_enter Tryz.func89, Tryz.ntmps89
  go_wp2_with fail
  go_region_law_o (refine step_append_room rfl (.tmp 22) (.tmp 25) 23 rfl 45 ii 5 hu hii hs g 0 i c (by simp [Act.eval, Act.put]) A (n - (i + 1)) (c - (i + 1)) X1 (by simp [Act.eval, Act.put]) s1.out hsrc.out s2.out (by omega) s3.out ?_; rw [← hW.out])
  go_wp2
  go_ret
  obtain ⟨hW1', hg1, hC1, hX1, hC2, hC1l, hcl, hzc⟩ := HH.out
  have hX1l : X1.length = (n - (i + 1)) * 5 := by rw [hX1, List.length_drop, List.length_take, hcl]; omega
  have hC2l : C2.size = c * 5 := by rw [hC2]; simp [hC1l, hzc]; omega
  have hn1 : n - 1 = i + (n - (i + 1)) := by omega
  refine ⟨by rw [hn1]; rfl, ?_, C2, setRow_heap W1 g _ _ _ _ hg1, hC2l, ?_⟩
  · show w.grownBy (W1.setRow g C2) (some g)
    rw [hW1']
    refine ⟨rfl, rfl, rfl, by simp [World.setRow], fun k hk hne' => ?_⟩
    have hkg : k ≠ g := fun e => hne' (by rw [e])
    rw [setRow_ne _ _ _ _ hkg, setRow_ne _ _ _ _ hkg]; rfl
  · have e1 : C1.toList.take ((i + (n - (i + 1))) * 5) = cur.toList.take (i * 5) ++ X1 := by
      rw [hC1, List.toList_toArray]
      exact List.take_left' (by rw [List.length_append, List.length_take, hX1l, hcl]; omega)
    rw [hC2, List.toList_toArray, hn1, List.append_assoc, List.take_left' (by rw [List.length_take, Array.length_toList, hC1l]; omega), e1, hX1, List.take_take, show min (i * 5) (n * 5) = i * 5 by omega]
theorem del_own (base : Nat) (v : Value) (n i : Nat) (xs : List Value) (w : World) (how : w.ownsRow base 45 5 v n xs) (hi : i < n) (h1 : ∀ v ∈ xs, v.oneCell' = true) :
    Calls Tryz.prog 89 #[v, .int .i64 i, .int .i64 ((i : Int) + 1)] w fun e w' =>
      ∃ v', e = .returned v' ∧ w'.ownsRow base 45 5 v' (n - 1) (xs.take (i * 5) ++ xs.drop ((i + 1) * 5)) ∧ w.grownBy w' v.ownBlock ∧ v'.ownBlock = v.ownBlock := by
  obtain ⟨hl, ⟨rfl, rfl⟩ | ⟨g, c, cur, rfl, hbg, hg, hnc, hcm, hsz, rfl⟩⟩ := how
  · omega
  have hcl : cur.toList.length = c * 5 := by simpa using hsz
  refine (del_shift g n c i cur w hi hnc hcm hg hsz h1).mono fun e w' h => ?_
  obtain ⟨rfl, hgr, cur', hg', hsz', ht⟩ := h
  refine ⟨_, rfl, ⟨?_, .inr ⟨g, c, cur', rfl, hbg, hg', by omega, hcm, hsz', ht⟩⟩, hgr, rfl⟩
  simp only [List.length_append, List.length_take, List.length_drop, hcl]; omega
theorem flat_cut {α : Type} (els : List (List α)) (h : ∀ e ∈ els, e.length = 5) : ∀ p : Nat, (els.take p).flatten = els.flatten.take (p * 5) ∧ (els.drop p).flatten = els.flatten.drop (p * 5) := by
  induction els with
  | nil => intro p; simp
  | cons e r ih =>
    intro p
    cases p with
    | zero => simp
    | succ p =>
      have he := h e (by simp)
      obtain ⟨h1, h2⟩ := ih (fun x hx => h x (by simp [hx])) p
      simp only [List.take_succ_cons, List.drop_succ_cons, List.flatten_cons, h1, h2]
      rw [show (p + 1) * 5 = e.length + p * 5 by omega, List.take_length_add_append, List.drop_length_add_append]
      exact ⟨rfl, rfl⟩
section
variable {pm : Pm} {st : St} {o : Oper} {aas : List AV}
theorem CallL.delete {k : St → Prop} {t : Tok k} {x a1 a2 a3 : Operand} {ts : Array TypeId} {i ver p : Nat} {els : List (List D)} (hi : st.heap[i]? = some (.row 45 5 els ver)) (hp : p < els.length)
    (hk : k (St.put ⟨st.env, st.heap.set i (.row 45 5 (els.take p ++ els.drop (p + 1)) (ver + 1))⟩ o.dst (.c (.own i (ver + 1)))))
    (hop : o.op = .call { callee := .value x, args := #[a1, a2, a3], argTypes := ts } := by rfl) (hx : ev pm.Γ st.env x = .c (.clo 89 []) := by rfl) (h1 : ev pm.Γ st.env a1 = .c (.own i ver) := by rfl) (h2 : ev pm.Γ st.env a2 = .c (.d (.int .i64 p)) := by rfl) (h3 : ev pm.Γ st.env a3 = .c (.d (.int .i64 ((p : Int) + 1))) := by rfl) (hd : dstOk pm.N o.dst := by first | trivial | (show (_ : Nat) < _; exact Nat.le_of_ble_eq_true rfl)) :
    CallL Tryz.prog pm o st (.c (.clo 89 [])) aas k t := by
  refine .inr (.inr fun ops rest K hK => ?_)
  obtain ⟨dst, op, ty, pos, af, gd⟩ := o
  simp only at hop hd
  subst hop
  intro cx G a w Q hpm s hQ
  refine wpList_plain rfl fun K' hK' => ?_
  subst hpm
  obtain ⟨v, xs, hg, how, hob, hdr, hl⟩ := row_at s.h hi
  obtain ⟨_, v0, n', hg', _, hxx⟩ := (h1 ▸ s.ev a1 : Ar G (.c (.own i ver)) (a.eval a1))
  rw [hg] at hg'
  cases hg'
  have e1 := hxx rfl
  have e2 := ar_int (h2 ▸ s.ev a2 : Ar G (.c (.d (.int .i64 p))) (a.eval a2))
  have e3 := ar_int (h3 ▸ s.ev a3 : Ar G (.c (.d (.int .i64 ((p : Int) + 1)))) (a.eval a3))
  have hxv : Ar G (.c (.clo 89 [])) (a.eval x) := hx ▸ s.ev x
  obtain ⟨bs, hxe, hbs⟩ := hxv
  cases hbs
  have hx1 : ∀ v ∈ xs, v.oneCell' = true := fun v hv => by
    obtain ⟨j, hj, e⟩ := List.mem_iff_getElem.1 hv
    obtain ⟨d, _, hd⟩ := hdr.getR j v (by rw [List.getElem?_eq_getElem hj, e])
    exact hd.one
  have hr : (execOp a.eval ⟨dst, .call { callee := .value x, args := #[a1, a2, a3], argTypes := ts }, ty, pos, af, none⟩).run Tryz.prog w = .ok (.enter 89 #[v, .int .i64 p, .int .i64 ((p : Int) + 1)]) w := by
    simp [execOp, resolve, Deferred.ofValue, hxe, invoke, Tryz.call90, e1, e2, e3]
  unfold Oper.wp
  rw [hr]
  refine (del_own cx.w0.heap.size v els.length p xs w how hp hx1).mono fun e w' hafter => ?_
  obtain ⟨v', rfl, how', hgr, hat⟩ := hafter
  have f1 := row_form how
  have f2 := row_form how'
  have hL : ∀ G' : Gh, G'.V = G.V → Lr G' w' cx.w0.heap.size (.row 45 5 (els.take p ++ els.drop (p + 1)) (ver + 1)) (v', ver + 1) := fun G' hV => by
    refine ⟨rfl, xs.take (p * 5) ++ xs.drop ((p + 1) * 5), by
        have e : (els.take p ++ els.drop (p + 1)).length = els.length - 1 := by simp; omega
        rw [e]; exact how', fun b hb => ?_, ?_, fun e he => ?_⟩
    · rw [hV]
      exact hob b (by rw [← hat]; exact hb)
    · obtain ⟨q1, _⟩ := flat_cut els hl p
      obtain ⟨_, q2⟩ := flat_cut els hl (p + 1)
      rw [hV, List.flatten_append, q1, q2]
      exact (hdr.take _).append (hdr.drop _)
    · rcases List.mem_append.1 he with h | h
      · exact hl e (List.mem_of_mem_take h)
      · exact hl e (List.mem_of_mem_drop h)
  obtain ⟨hG, s'⟩ := s.h.move (w' := w') (v' := v') (n' := ver + 1) (lb' := .row 45 5 (els.take p ++ els.drop (p + 1)) (ver + 1)) hi trivial hg (by omega) f1.1 f1.2.1 f2.2.1 hgr (.inl hat) f1.2.2.1 hL
  exact hK' _ _ (hK _ hk cx _ _ w' Q rfl ((s.step hG s').put (α := .c (.own i (ver + 1))) ⟨f2.2.2.2, v', ver + 1, by simp [getElem?_lt hg], Nat.le_refl _, fun _ => rfl⟩ hd) hQ)
end
end Go.Proofs

/- slices.Insert at elements of several cells: room for one more, i < len(s): in place. No condition. -/
namespace Go.Proofs
open Go Go.Ax Go.RowKit
set_option maxRecDepth 100000
theorem run_copy_rowK {P : Program} (w : World) (dT sT ty elem : TypeId) (k g o dLen dCap : Nat) (a : Addr) (sLen sCap : Nat) (cur : Array Value) (t : TypeId) (cs : List Value)
    (hu : P.underlying dT = some (.slice elem)) (hs : (P.info? elem).map (·.size) = some k)
    (hg : w.heap[g]? = some (.cells cur t (0, 0))) (hn : cs.length = Nat.min sLen dLen * k)
    (hsrc : ∀ j v, cs[j]? = some v → w.cell? (a.add j) = some v) (hfit : o + cs.length ≤ cur.size) (h1 : ∀ v ∈ cs, v.oneCell' = true) :
    (Builtin.copy_ #[dT, sT] ty #[.slice (some ⟨g, o, none⟩) dLen dCap, .slice (some a) sLen sCap]).run P w =
      .ok (goInt (Nat.min sLen dLen)) (w.setRow g (cur.toList.take o ++ cs ++ cur.toList.drop (o + cs.length)).toArray) := by
  have hl := run_loadCells_list (P := P) w a cs hsrc
  have hst := run_storeCells_at P g o t cs 0 cur w hg (by simpa using hfit) h1
  cases hq : P.info? elem with
  | none => simp [hq] at hs
  | some i =>
    have hi : i.size = k := by simpa [hq] using hs
    simp [Builtin.copy_, run_underlying hu, Builtin.lenOf, Builtin.firstCells, sizeOf, typeInfo, hq, hi, ← hn, hl, hst]
theorem run_overlaps_own {P : Program} (w : World) (tS tR e : TypeId) (ht : P.underlying tS = some (.slice e)) (size : Nat) (hz : ∀ w, (Go.sizeOf e).run P w = .ok size w)
    (a : Addr) (g o : Nat) (la ca lb cb : Nat) (hne : a.block ≠ g) (ha : ∃ c t fr, w.heap[a.block]? = some (.cells c t fr) ∧ c.size ≠ 0) (cur : Array Value) (t : TypeId) (hg : w.heap[g]? = some (.cells cur t (0, 0))) (hcur : cur.size ≠ 0) :
    (Extern.SlicesOverlaps.overlaps #[tS, tS] #[tR] #[.slice (some a) la ca, .slice (some ⟨g, o, none⟩) lb cb]).run P w = .ok (.bool false) w := by
  obtain ⟨ca', ta, fra, ha, hca⟩ := ha
  have hnb : (a.block != g) = true := by simpa using hne
  have hnb' : (a.block == g) = false := by simpa using hne
  have hfb : ∀ o, w.frozen? ⟨g, o, none⟩ = false := fun o => by simp [World.frozen?, hg]
  have hsb : w.shape? g = some (t, cur.size) := by simp [World.shape?, hg]
  have hsa : w.shape? a.block = some (ta, ca'.size) := by simp [World.shape?, ha]
  change Sem.run P (α := Value) (do
    let some t := (#[tS, tS] : Array TypeId)[0]? | stuck "slices.overlaps: no parameter types"
    let .slice elem ← underlying t | stuck "slices.overlaps: slice type expected"
    let size ← sizeOf elem
    match (some a : Option Addr), (some (⟨g, o, none⟩ : Addr) : Option Addr) with
    | some a, some b =>
      if la = 0 ∨ lb = 0 ∨ size = 0 then pure (Value.bool false)
      else if a.block != b.block && (← frozen a) && (← frozen b) then unsupported .addressObserved
      else do
        if a.block != b.block then do
          noView a; noView b
          if ← mayBeOne a b then return Value.bool ((← choose (.extern "sameAddr.stringBytes" 2)) == 1)
        pure (Value.bool (a.block == b.block && a.off < b.off + lb * size && b.off < a.off + la * size))
    | _, _ => pure (Value.bool false)) w = _
  by_cases h0 : la = 0 ∨ lb = 0 ∨ size = 0
  · simp [run_underlying ht, hz, h0]
  · obtain ⟨q, hq⟩ : ∃ q, cur.size = q + 1 := ⟨cur.size - 1, by omega⟩
    rw [hq] at hsb
    obtain ⟨q', hq'⟩ : ∃ q', ca'.size = q' + 1 := ⟨ca'.size - 1, by omega⟩
    rw [hq'] at hsa
    cases hfa : w.frozen? a <;> cases hfe : w.frozen? { block := a.block, off := q' + 1 } <;>
      simp [run_underlying ht, hz, h0, hnb, hnb', frozen, noView, viewAt, mayBeOne, stringish, shape, Sem.run, hsa, hsb, hfa, hfe, hfb]
theorem ins_list {α : Type} (l ys X : List α) (a b : Nat) (hb : b = a + 5) (hy : ys.length = 5) (hl : b + X.length ≤ l.length) :
    (((l.take b ++ X ++ l.drop (b + X.length)).take a ++ ys ++ (l.take b ++ X ++ l.drop (b + X.length)).drop (a + ys.length)).take (b + X.length)) = l.take a ++ ys ++ X := by
  subst hb
  have e1 : (l.take (a + 5) ++ X ++ l.drop (a + 5 + X.length)).take a = l.take a := by
    rw [List.append_assoc, List.take_append_of_le_length (by rw [List.length_take]; omega), List.take_take]; congr 1; omega
  have e2 : (l.take (a + 5) ++ X ++ l.drop (a + 5 + X.length)).drop (a + 5) = X ++ l.drop (a + 5 + X.length) := by
    rw [List.append_assoc, List.drop_append_of_le_length (by rw [List.length_take]; omega)]
    simp
  rw [hy, e1, e2, ← List.append_assoc]
  refine List.take_left' ?_
  simp only [List.length_append, List.length_take, hy]
  omega
set_option maxHeartbeats 4000000 in
theorem ins_shift (g n c i : Nat) (ad : Addr) (vc : Nat) (cur : Array Value) (ys : List Value) (w : World) (hi : i < n) (hroom : n + 1 ≤ c) (hm : c ≤ maxLen) (hg : w.heap[g]? = some (.cells cur 45 (0, 0))) (hsz : cur.size = c * 5)
    (h1 : ∀ v ∈ cur.toList.take (n * 5), v.oneCell' = true) (hy : ys.length = 5) (hyc : ∀ j u, ys[j]? = some u → w.cell? (ad.add j) = some u) (hy1 : ∀ v ∈ ys, v.oneCell' = true) (hne : ad.block ≠ g) (hab : ∃ c t fr, w.heap[ad.block]? = some (.cells c t fr) ∧ c.size ≠ 0) :
    Calls Tryz.prog 87 #[.slice (some ⟨g, 0, none⟩) n c, .int .i64 i, .slice (some ad) 1 vc] w fun e w' =>
      e = .returned (.slice (some ⟨g, 0, none⟩) (n + 1) c) ∧ w.grownBy w' (some g) ∧ ∃ cur', w'.heap[g]? = some (.cells cur' 45 (0, 0)) ∧ cur'.size = c * 5 ∧ cur'.toList.take ((n + 1) * 5) = (cur.toList.take (n * 5)).take (i * 5) ++ ys ++ (cur.toList.take (n * 5)).drop (i * 5) := by
  have hz2 : ¬ ((i : Int) = (n : Int)) := by omega
  have hov : ∀ lb cb, (callFunc 148 #[.slice (some ad) 1 vc, .slice (some ⟨g, (i + 1) * 5, none⟩) lb cb]).run Tryz.prog w = .ok (.value (.bool false)) w := fun lb cb => by
    rw [run_callFunc_extern Tryz.func148 (by kernel_rfl) (by kernel_rfl) (by kernel_rfl) (e := Extern.SlicesOverlaps.overlaps #[23, 23] #[4]) (by kernel_rfl),
      run_overlaps_own w 23 4 45 Tryz.underlying23 5 (fun _ => Tryz.sizeOf45 _) ad g _ 1 vc lb cb hne hab cur 45 hg (by omega)]
    rfl
  have hw1 : IntKind.i64.wrap ((i : Int) + 1) = (i : Int) + 1 := by rw [IntKind.wrap_i64]; unfold maxLen at hm; omega
  have hw2 : IntKind.i64.wrap ((n : Int) + 1) = (n : Int) + 1 := by rw [IntKind.wrap_i64]; unfold maxLen at hm; omega
  have hb1 : (0 : Int) ≤ (i : Int) + 1 := by omega
  have hin : i ≤ n := by omega
  have htn : ((i : Int) + 1).toNat = i + 1 := by omega
  have htn2 : ((n : Int) + 1).toNat = n + 1 := by omega
  have hb2 : ¬ (c = i + 1) := by omega
  have hb3 : (i : Int) ≤ (n : Int) + 1 := by omega
  have hb4 : ¬ (c = i) := by omega
  have hb5 : ¬ ((c : Int) < (n : Int) + 1) := by omega
  have hsl : (Tryz.prog.info? 45).map (·.size) = some 5 := by kernel_rfl
  have hcl : cur.toList.length = c * 5 := by simpa using hsz
  have hlt : g < w.heap.size := (Array.getElem?_eq_some_iff.1 hg).1
  obtain ⟨X1, hX1⟩ : ∃ X1, X1 = (cur.toList.take (n * 5)).drop (i * 5) := ⟨_, rfl⟩
  have hX1l : X1.length = (n - i) * 5 := by rw [hX1, List.length_drop, List.length_take, hcl]; omega
  obtain ⟨C1, hC1⟩ : ∃ C1 : Array Value, C1 = (cur.toList.take ((i + 1) * 5) ++ X1 ++ cur.toList.drop ((i + 1) * 5 + X1.length)).toArray := ⟨_, rfl⟩
  have hC1l : C1.size = c * 5 := by rw [hC1]; simp [hcl, hX1l, hsz]; omega
  obtain ⟨C2, hC2⟩ : ∃ C2 : Array Value, C2 = (C1.toList.take (i * 5) ++ ys ++ C1.toList.drop (i * 5 + ys.length)).toArray := ⟨_, rfl⟩
  have hcp1 : ∀ ty dc sc, (Builtin.copy_ #[23, 23] ty #[.slice (some ⟨g, (i + 1) * 5, none⟩) (n - i) dc, .slice (some ⟨g, i * 5, none⟩) (n + 1 - i) sc]).run Tryz.prog w.drew = .ok (goInt ((n - i : Nat) : Int)) (w.drew.setRow g C1) := fun ty dc sc => by
    have := run_copy_rowK (P := Tryz.prog) w.drew 23 23 ty 45 5 g ((i + 1) * 5) (n - i) dc ⟨g, i * 5, none⟩ (n + 1 - i) sc cur 45 X1 Tryz.underlying23 hsl hg (by rw [hX1l]; congr 1; simp only [Nat.min_def]; split <;> omega)
      (fun j v hj => by
        have e : w.drew.cell? ((⟨g, i * 5, none⟩ : Addr).add j) = cur[i * 5 + j]? := by
          rw [add_plain]
          show w.cell? _ = _
          simp [World.cell?, hg]
        rw [e]
        rw [hX1, List.getElem?_drop, List.getElem?_take] at hj
        split at hj
        · simpa using hj
        · cases hj)
      (by rw [hX1l, hsz]; omega) (fun v hv => h1 v (by rw [hX1] at hv; exact List.mem_of_mem_drop hv))
    rw [this, ← hC1]
    congr 2
    simp only [Nat.min_def]; split <;> omega
  have hcp2 : ∀ W : World, W.heap = (w.setRow g C1).heap → ∀ ty dc, (Builtin.copy_ #[23, 23] ty #[.slice (some ⟨g, i * 5, none⟩) (n + 1 - i) dc, .slice (some ad) 1 vc]).run Tryz.prog W = .ok (goInt 1) (W.setRow g C2) := fun W hW ty dc => by
    have hgW : W.heap[g]? = some (.cells C1 45 (0, 0)) := by rw [hW]; exact setRow_heap w g _ _ _ _ hg
    have := run_copy_rowK (P := Tryz.prog) W 23 23 ty 45 5 g (i * 5) (n + 1 - i) dc ad 1 vc C1 45 ys Tryz.underlying23 hsl hgW (by rw [hy]; simp only [Nat.min_def]; split <;> omega)
      (fun j v hj => by
        rw [← hyc j v hj]
        refine World.cell?_of_block ?_
        rw [hW, add_block]
        exact setRow_ne _ _ _ _ hne)
      (by rw [hy, hC1l]; omega) hy1
    rw [this, ← hC2]
    congr 2
    simp only [Nat.min_def]; split <;> omega
  have HH : Hid (C1 = (cur.toList.take ((i + 1) * 5) ++ X1 ++ cur.toList.drop ((i + 1) * 5 + X1.length)).toArray ∧ X1 = (cur.toList.take (n * 5)).drop (i * 5) ∧ C2 = (C1.toList.take (i * 5) ++ ys ++ C1.toList.drop (i * 5 + ys.length)).toArray ∧ ys.length = 5 ∧ cur.toList.length = c * 5) := ⟨hC1, hX1, hC2, hy, hcl⟩
  clear hX1l hsz hcl hC1l hC1 hX1 hC2 hy
  have hcp2' := hcp2 (w.drew.setRow g C1) rfl
  clear hcp2
  have mixed := Tryz.mixed
  go_enter Tryz.func87, Tryz.ntmps87
  go_wp2_with (simp only [hov])
  go_region_law_o (refine step_copy_runI rfl _ _ 23 23 rfl _ _ (by simp [Act.eval, Act.put]) (by simp [Act.eval, Act.put]) (hcp1 _ _ _) ?_)
  go_wp2
  go_ret
  obtain ⟨hC1, hX1, hC2, hy, hcl⟩ := HH.out
  have hX1l : X1.length = (n - i) * 5 := by rw [hX1, List.length_drop, List.length_take, hcl]; omega
  have hC1l : C1.size = c * 5 := by rw [hC1]; simp [hX1l]; rw [show cur.size = c * 5 by simpa using hcl]; omega
  have hC2l : C2.size = c * 5 := by rw [hC2]; simp [hC1l, hy]; omega
  refine ⟨rfl, ⟨rfl, rfl, rfl, by simp [World.setRow], fun k hk hne' => ?_⟩, C2, ?_, hC2l, ?_⟩
  · have hkg : k ≠ g := fun e => hne' (by rw [e])
    rw [setRow_ne _ _ _ _ hkg, setRow_ne _ _ _ _ hkg]; rfl
  · exact setRow_heap _ g _ _ _ _ (setRow_heap w.drew g _ _ _ _ hg)
  · have := ins_list cur.toList ys X1 (i * 5) ((i + 1) * 5) (by omega) hy (by rw [hX1l, hcl]; omega)
    rw [hC2, hC1, show (n + 1) * 5 = (i + 1) * 5 + X1.length by rw [hX1l]; omega]
    refine this.trans ?_
    rw [hX1, List.take_take, show min (i * 5) (n * 5) = i * 5 by omega]
end Go.Proofs
