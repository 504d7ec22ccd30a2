/- Part of a proof about this program; no condition of its own. -/
import Derived.Test.YtanbfhnmklhjiaaGreatDoorP36
import Derived.Shelf.Spec.SlicesInsertGrow
set_option linter.all false
/- slices.Insert at elements of several cells: no room, i < len(s): a new row. No condition. -/
namespace Go.Proofs
open Go Go.Ax Go.RowKit
set_option maxRecDepth 100000
theorem zeroCells_size (cs : Array Value) (k : Nat) : (Builtin.zeroCells cs k).size = k * cs.size := by
  simp [Builtin.zeroCells]
set_option maxHeartbeats 4000000 in
theorem ins_grow (g n c i : Nat) (ad : Addr) (vc : Nat) (cur : Array Value) (ys : List Value) (w : World) (hi : i < n) (hnc : n ≤ c) (hroom : c < n + 1) (hbig : (n + 1) * 80 ≤ 140737488355328) (hg : w.heap[g]? = some (.cells cur 45 (0, 0))) (hsz : cur.size = c * 5)
    (h1 : ∀ v ∈ cur.toList.take (n * 5), v.oneCell' = true) (hy : ys.length = 5) (hyc : ∀ j u, ys[j]? = some u → w.cell? (ad.add j) = some u) (hy1 : ∀ v ∈ ys, v.oneCell' = true) :
    Calls Tryz.prog 87 #[.slice (some ⟨g, 0, none⟩) n c, .int .i64 i, .slice (some ad) 1 vc] w fun e w' =>
      ∃ G, e = .returned (.slice (some ⟨w.heap.size, 0, none⟩) (n + 1) G) ∧ w.grownBy w' (some g) ∧ n + 1 ≤ G ∧ G ≤ maxLen ∧ ∃ cur', w'.heap[w.heap.size]? = some (.cells cur' 45 (0, 0)) ∧ cur'.size = G * 5 ∧ cur'.toList.take ((n + 1) * 5) = (cur.toList.take (n * 5)).take (i * 5) ++ ys ++ (cur.toList.take (n * 5)).drop (i * 5) := by
  obtain ⟨hu, hpos, ii, z, hii, hz, hs, hb, hzc⟩ := apT_some Tryz.apT23
  have hz2 : ¬ ((i : Int) = (n : Int)) := by omega
  have hz3 : (c : Int) < (n : Int) + 1 := by omega
  have hcl : cur.toList.length = c * 5 := by simpa using hsz
  have hlt : g < w.heap.size := (Array.getElem?_eq_some_iff.1 hg).1
  have halt : ad.block < w.heap.size := by
    have := World.block_lt_of_cell? w (ad.add 0) (hyc 0 _ (List.getElem?_eq_getElem (by omega)))
    rwa [add_block] at this
  have hsl : (Tryz.prog.info? 45).map (·.size) = some 5 := by rw [hii]; simp [hs]
  have hkk : (n : Int) + 1 - (i : Int) = ((n + 1 - i : Nat) : Int) := by omega
  have hik : i + (n + 1 - i) = n + 1 := by omega
  obtain ⟨X0, hX0⟩ : ∃ X0, X0 = cur.toList.take (i * 5) := ⟨_, rfl⟩
  have hX0l : X0.length = i * 5 := by rw [hX0, List.length_take, hcl]; omega
  obtain ⟨X1, hX1⟩ : ∃ X1, X1 = (cur.toList.take (n * 5)).drop (i * 5) := ⟨_, rfl⟩
  have hX1l : X1.length = (n - i) * 5 := by rw [hX1, List.length_drop, List.length_take, hcl]; omega
  have hold : (Builtin.firstCells ii.size i (.slice (some ⟨g, 0, none⟩) i c)).run Tryz.prog w.drew = .ok X0.toArray w.drew := by
    rw [hs]
    exact run_firstCells_some w.drew 5 i ⟨g, 0, none⟩ i c X0 hX0l (fun j v hj => by
      have e : w.drew.cell? ((⟨g, 0, none⟩ : Addr).add j) = cur[j]? := by
        rw [add_plain]
        show w.cell? _ = _
        simp [World.cell?, hg]
      rw [e]
      rw [hX0, List.getElem?_take] at hj
      split at hj
      · simpa using hj
      · cases hj)
  obtain ⟨G, hG⟩ : ∃ G, G = grownCap w (n + 1) c 45 := ⟨_, rfl⟩
  obtain ⟨ROW, hROW⟩ : ∃ ROW : Array Value, ROW = X0.toArray ++ Builtin.zeroCells z.cells (n + 1 - i) ++ Builtin.zeroCells z.cells (G - (n + 1)) := ⟨_, rfl⟩
  have hrz : ∀ ty, (Builtin.append_ #[23, 3] ty #[.slice (some ⟨g, 0, none⟩) i c, .int .i64 ((n : Int) + 1 - (i : Int))]).run Tryz.prog w =
      .ok (.slice (some ⟨w.heap.size, 0, none⟩) (n + 1) G) (w.drew.alloc (.cells ROW 45)) := fun ty => by
    have h := Lib.run_append_grow_zeros w 23 3 ty 45 ii z .i64 .i64 hu Tryz.underlying3 hii hz (some ⟨g, 0, none⟩) i c X0 hold (n + 1 - i) (by omega) (by omega) (by omega) (by omega) (by rw [hb]; omega) (by rw [hb, hik]; exact growslice_fits hroom hbig)
    rw [hik] at h
    rw [hkk, hROW, hG]
    exact h
  have hGn : n + 1 ≤ G := by rw [hG]; exact grownCap_ge w _ _ _
  have hGm : G ≤ maxLen := by rw [hG]; exact grownCap_le_maxLen w (n + 1) c 45 (by unfold maxLen; omega)
  have hG63 : G ≤ 9223372036854775807 := by unfold maxLen at hGm; omega
  have hRl : ROW.size = G * 5 := by
    rw [hROW]
    simp only [Array.size_append, List.size_toArray, zeroCells_size, hzc, hX0l]
    omega
  obtain ⟨C1, hC1⟩ : ∃ C1 : Array Value, C1 = (ROW.toList.take (i * 5) ++ ys ++ ROW.toList.drop (i * 5 + ys.length)).toArray := ⟨_, rfl⟩
  have hC1l : C1.size = G * 5 := by rw [hC1]; simp [hRl, hy]; omega
  obtain ⟨C2, hC2⟩ : ∃ C2 : Array Value, C2 = (C1.toList.take ((i + 1) * 5) ++ X1 ++ C1.toList.drop ((i + 1) * 5 + X1.length)).toArray := ⟨_, rfl⟩
  have hGi : ¬ (G = i) := by omega
  have hGim : ¬ (G = i + 1) := by omega
  have hci : ¬ (c = i) := by omega
  have hw1 : IntKind.i64.wrap ((i : Int) + 1) = (i : Int) + 1 := by rw [IntKind.wrap_i64]; omega
  have hb1 : (0 : Int) ≤ (i : Int) + 1 := by omega
  have hin : i ≤ n := by omega
  have htn : ((i : Int) + 1).toNat = i + 1 := by omega
  have hb3 : (i : Int) ≤ (n : Int) := by omega
  have hNw : w.heap.size ≠ g := by omega
  have hcpA : ∀ W : World, W.heap = (w.alloc (.cells ROW 45)).heap → ∀ ty dc, (Builtin.copy_ #[23, 23] ty #[.slice (some ⟨w.heap.size, i * 5, none⟩) (n + 1 - i) dc, .slice (some ad) 1 vc]).run Tryz.prog W = .ok (goInt 1) (W.setRow w.heap.size C1) := fun W hW ty dc => by
    have hgW : W.heap[w.heap.size]? = some (.cells ROW 45 (0, 0)) := by rw [hW]; exact heap_alloc_new w _
    have := run_copy_rowK (P := Tryz.prog) W 23 23 ty 45 5 w.heap.size (i * 5) (n + 1 - i) dc ad 1 vc ROW 45 ys Tryz.underlying23 hsl hgW (by rw [hy]; simp only [Nat.min_def]; split <;> omega)
      (fun j v hj => by
        rw [← hyc j v hj]
        refine World.cell?_of_block ?_
        rw [hW, add_block]
        show (w.heap.push _)[_]? = _
        rw [Array.getElem?_push, if_neg (by omega)])
      (by rw [hy, hRl]; omega) hy1
    rw [this, ← hC1]
    congr 2
    simp only [Nat.min_def]; split <;> omega
  have hcpB : ∀ W : World, W.heap = ((w.alloc (.cells ROW 45)).setRow w.heap.size C1).heap → ∀ ty dc sc, (Builtin.copy_ #[23, 23] ty #[.slice (some ⟨w.heap.size, (i + 1) * 5, none⟩) (n - i) dc, .slice (some ⟨g, i * 5, none⟩) (n - i) sc]).run Tryz.prog W = .ok (goInt ((n - i : Nat) : Int)) (W.setRow w.heap.size C2) := fun W hW ty dc sc => by
    have hgW : W.heap[w.heap.size]? = some (.cells C1 45 (0, 0)) := by rw [hW]; exact setRow_heap _ _ ROW _ _ _ (heap_alloc_new w _)
    have := run_copy_rowK (P := Tryz.prog) W 23 23 ty 45 5 w.heap.size ((i + 1) * 5) (n - i) dc ⟨g, i * 5, none⟩ (n - i) sc C1 45 X1 Tryz.underlying23 hsl hgW (by rw [hX1l]; simp)
      (fun j v hj => by
        have e : W.cell? ((⟨g, i * 5, none⟩ : Addr).add j) = cur[i * 5 + j]? := by
          rw [add_plain]
          have e2 : W.heap[g]? = some (.cells cur 45 (0, 0)) := by
            rw [hW, setRow_ne _ _ _ _ (Ne.symm hNw)]
            show (w.heap.push _)[_]? = _
            rw [Array.getElem?_push, if_neg (by omega)]
            exact hg
          simp [World.cell?, e2]
        rw [e]
        rw [hX1, List.getElem?_drop, List.getElem?_take] at hj
        split at hj
        · simpa using hj
        · cases hj)
      (by rw [hX1l, hC1l]; omega) (fun v hv => h1 v (by rw [hX1] at hv; exact List.mem_of_mem_drop hv))
    rw [this, ← hC2]
    congr 2
    simp
  have HH : Hid (C1 = (ROW.toList.take (i * 5) ++ ys ++ ROW.toList.drop (i * 5 + ys.length)).toArray ∧ C2 = (C1.toList.take ((i + 1) * 5) ++ X1 ++ C1.toList.drop ((i + 1) * 5 + X1.length)).toArray ∧ ys.length = 5 ∧ X1.length = (n - i) * 5 ∧ X0.length = i * 5 ∧ ROW.size = G * 5 ∧ C1.size = G * 5 ∧ X0 = cur.toList.take (i * 5) ∧ X1 = (cur.toList.take (n * 5)).drop (i * 5) ∧ ROW = X0.toArray ++ Builtin.zeroCells z.cells (n + 1 - i) ++ Builtin.zeroCells z.cells (G - (n + 1))) := ⟨hC1, hC2, hy, hX1l, hX0l, hRl, hC1l, hX0, hX1, hROW⟩
  clear hX1l hX0l hsz hcl hC1l hC1 hX1 hX0 hC2 hy hRl hROW hG hik hkk hzc hb hs hz hii hu hsl hold
  have hcpA' := hcpA (w.alloc (.cells ROW 45)).drew rfl
  have hcpB' := hcpB ((w.alloc (.cells ROW 45)).drew.setRow w.heap.size C1).drew rfl
  have mixed := Tryz.mixed
  go_enter Tryz.func87, Tryz.ntmps87
  go_wp2_with (at_builtin; refine Lib.wpList_append_run _ rfl _ _ _ _ rfl _ _ rfl rfl _ _ (hrz _) ?_)
  go_region_law_o (refine step_copy_runI rfl _ _ 23 23 rfl _ _ (by simp [Act.eval, Act.put]) (by simp [Act.eval, Act.put]) (hcpB' _ _ _) ?_)
  go_wp2
  go_ret
  obtain ⟨hC1, hC2, hy, hX1l, hX0l, hRl, hC1l, hX0, hX1, hROW⟩ := HH.out
  have hC2l : C2.size = G * 5 := by rw [hC2]; simp [hC1l, hX1l]; omega
  refine ⟨G, rfl, ⟨rfl, rfl, rfl, by
    have e : ∀ (W : World) (k : Nat) (c : Array Value), (W.setRow k c).heap.size = W.heap.size := fun W k c => by simp [World.setRow]
    rw [e]
    show w.heap.size ≤ ((w.alloc (.cells ROW 45)).drew.setRow w.heap.size C1).heap.size
    rw [e]
    show w.heap.size ≤ (w.heap.push _).size
    rw [Array.size_push]; omega, fun k hk hne' => ?_⟩, hGn, hGm, C2, ?_, hC2l, ?_⟩
  · have hkg : k ≠ w.heap.size := by omega
    rw [setRow_ne _ _ _ _ hkg]
    show ((w.alloc (.cells ROW 45)).drew.setRow w.heap.size C1).heap[k]? = _
    rw [setRow_ne _ _ _ _ hkg]
    show (w.heap.push _)[k]? = _
    rw [Array.getElem?_push, if_neg (by omega)]
  · exact setRow_heap _ _ C1 _ _ _ (setRow_heap (w.alloc (.cells ROW 45)).drew _ ROW _ _ _ (heap_alloc_new w _))
  · rw [← hX1, List.take_take, show min (i * 5) (n * 5) = i * 5 by omega, ← hX0]
    have e1 : C1.toList.take ((i + 1) * 5) = X0 ++ ys := by
      have e0 : ROW.toList.take (i * 5) = X0 := by
        rw [hROW, Array.toList_append, Array.toList_append, List.append_assoc]
        exact List.take_left' hX0l
      rw [hC1, List.toList_toArray, e0]
      exact List.take_left' (by rw [List.length_append, hX0l, hy]; omega)
    rw [hC2, List.toList_toArray, e1]
    refine List.take_left' ?_
    simp [hX0l, hX1l, hy]; omega
theorem ins_own (base : Nat) (v : Value) (n i : Nat) (xs : List Value) (ad : Addr) (vc : Nat) (ys : List Value) (w : World) (how : w.ownsRow base 45 5 v n xs) (hi : i < n) (hbig : (n + 1) * 80 ≤ 140737488355328)
    (h1 : ∀ v ∈ xs, v.oneCell' = true) (hy : ys.length = 5) (hyc : ∀ j u, ys[j]? = some u → w.cell? (ad.add j) = some u) (hy1 : ∀ v ∈ ys, v.oneCell' = true) (hne : v.ownBlock ≠ some ad.block) (hbl : base ≤ w.heap.size) :
    Calls Tryz.prog 87 #[v, .int .i64 i, .slice (some ad) 1 vc] w fun e w' =>
      ∃ v', e = .returned v' ∧ w'.ownsRow base 45 5 v' (n + 1) (xs.take (i * 5) ++ ys ++ xs.drop (i * 5)) ∧ w.grownBy w' v.ownBlock ∧ (v'.ownBlock = v.ownBlock ∨ v'.ownBlock = some w.heap.size) := by
  obtain ⟨hl, ⟨rfl, rfl⟩ | ⟨g, c, cur, rfl, hbg, hg, hnc, hcm, hsz, rfl⟩⟩ := how
  · omega
  have hcl : cur.toList.length = c * 5 := by simpa using hsz
  have hll : ((cur.toList.take (n * 5)).take (i * 5) ++ ys ++ (cur.toList.take (n * 5)).drop (i * 5)).length = (n + 1) * 5 := by
    simp only [List.length_append, List.length_take, List.length_drop, hy, hcl]; omega
  by_cases hroom : n + 1 ≤ c
  · have hab : ∃ c t fr, w.heap[ad.block]? = some (.cells c t fr) ∧ c.size ≠ 0 := by
      have h0 := hyc 0 _ (List.getElem?_eq_getElem (by omega))
      rw [← cellIn_world] at h0
      unfold cellIn at h0
      rw [add_block] at h0
      split at h0
      · next cc t fr e =>
        refine ⟨cc, t, fr, e, fun hz => ?_⟩
        split at h0
        · cases h0
        · have : cc[(ad.add 0).off]? = none := by rw [Array.getElem?_eq_none]; omega
          rw [this] at h0; cases h0
      · cases h0
    refine (ins_shift g n c i ad vc cur ys w hi hroom hcm hg hsz h1 hy hyc hy1 (fun e => hne (by simp [Value.ownBlock, e])) hab).mono fun e w' h => ?_
    obtain ⟨rfl, hgr, cur', hg', hsz', ht⟩ := h
    exact ⟨_, rfl, ⟨hll, .inr ⟨g, c, cur', rfl, hbg, hg', hroom, hcm, hsz', ht⟩⟩, hgr, .inl rfl⟩
  · refine (ins_grow g n c i ad vc cur ys w hi hnc (by omega) hbig hg hsz h1 hy hyc hy1).mono fun e w' h => ?_
    obtain ⟨G, rfl, hgr, hG1, hG2, cur', hg', hsz', ht⟩ := h
    exact ⟨_, rfl, ⟨hll, .inr ⟨w.heap.size, G, cur', rfl, hbl, hg', hG1, hG2, hsz', ht⟩⟩, hgr, .inr rfl⟩
end Go.Proofs

/- slices.Insert at elements of several cells: at the end; and as a rule. No condition. -/
namespace Go.Proofs
open Go Go.Ax Go.RowKit
set_option maxRecDepth 100000
set_option maxHeartbeats 4000000 in
theorem ins_end0 (A : Option Addr) (n c : Nat) (ad : Addr) (vc : Nat) (w : World) (hA : A = none → n = 0 ∧ c = 0) (hnc : n ≤ c) (hm : c ≤ maxLen) (v' : Value) (w' : World) (hr : (Builtin.append_ #[23, 23] 23 #[.slice A n c, .slice (some ad) 1 vc]).run Tryz.prog w = .ok v' w') :
    Calls Tryz.prog 87 #[.slice A n c, .int .i64 n, .slice (some ad) 1 vc] w fun e W => e = .returned v' ∧ W = w' := by
  have mixed := Tryz.mixed
  cases A with
  | none =>
    obtain ⟨rfl, rfl⟩ := hA rfl
    clear hA
    go_enter Tryz.func87, Tryz.ntmps87
    go_wp2_with (at_builtin; refine Lib.wpList_append_run _ rfl _ _ _ _ rfl _ _ rfl rfl _ _ hr ?_)
    go_ret
    exact ⟨rfl, rfl⟩
  | some b =>
    clear hA
    by_cases h : c = n
    · subst h
      go_enter Tryz.func87, Tryz.ntmps87
      go_wp2_with (at_builtin; refine Lib.wpList_append_run _ rfl _ _ _ _ rfl _ _ rfl rfl _ _ hr ?_)
      go_ret
      exact ⟨rfl, rfl⟩
    · go_enter Tryz.func87, Tryz.ntmps87
      go_wp2_with (at_builtin; refine Lib.wpList_append_run _ rfl _ _ _ _ rfl _ _ rfl rfl _ _ hr ?_)
      go_ret
      exact ⟨rfl, rfl⟩
theorem ins_all (base : Nat) (v : Value) (n i : Nat) (xs : List Value) (ad : Addr) (vc : Nat) (ys : List Value) (w : World) (how : w.ownsRow base 45 5 v n xs) (hi : i ≤ n) (hbig : (n + 1) * 80 ≤ 140737488355328)
    (h1 : ∀ v ∈ xs, v.oneCell' = true) (hy : ys.length = 5) (hyc : ∀ j u, ys[j]? = some u → w.cell? (ad.add j) = some u) (hy1 : ∀ v ∈ ys, v.oneCell' = true) (hne : v.ownBlock ≠ some ad.block) (hbl : base ≤ w.heap.size) :
    Calls Tryz.prog 87 #[v, .int .i64 i, .slice (some ad) 1 vc] w fun e w' =>
      ∃ v', e = .returned v' ∧ w'.ownsRow base 45 5 v' (n + 1) (xs.take (i * 5) ++ ys ++ xs.drop (i * 5)) ∧ w.grownBy w' v.ownBlock ∧ (v'.ownBlock = v.ownBlock ∨ v'.ownBlock = some w.heap.size) := by
  by_cases h : i < n
  · exact ins_own base v n i xs ad vc ys w how h hbig h1 hy hyc hy1 hne hbl
  · obtain rfl : i = n := by omega
    obtain ⟨hu, hpos, ii, z, hii, hz, hs, hb, hzc⟩ := apT_some Tryz.apT23
    obtain ⟨v', w', q1, q2, q3, _, q5⟩ := run_append_own_at (P := Tryz.prog) w base 23 23 45 ii z 5 80 hu hii hz hs hb hzc hpos v i xs how ad 1 vc ys (by omega) hyc hy1 (by unfold maxLen; omega) hbig hbl
    have e1 : xs.take (i * 5) ++ ys ++ xs.drop (i * 5) = xs ++ ys := by
      rw [List.take_of_length_le (by rw [how.1]; omega), List.drop_eq_nil_of_le (by rw [how.1]; omega), List.append_nil]
    rw [e1]
    obtain ⟨hl, ⟨rfl, rfl⟩ | ⟨g, c, cur, rfl, hbg, hg, hnc, hcm, hsz, rfl⟩⟩ := how
    · exact (ins_end0 none 0 0 ad vc w (fun _ => ⟨rfl, rfl⟩) (Nat.le_refl _) (Nat.zero_le _) v' w' q1).mono fun e W h => by
        obtain ⟨rfl, rfl⟩ := h
        exact ⟨v', rfl, q2, q3, q5⟩
    · exact (ins_end0 (some ⟨g, 0, none⟩) i c ad vc w (fun e => by cases e) hnc hcm v' w' q1).mono fun e W h => by
        obtain ⟨rfl, rfl⟩ := h
        exact ⟨v', rfl, q2, q3, q5⟩
section
variable {pm : Pm} {st : St} {o : Oper} {aas : List AV}
theorem CallL.insert {k : St → Prop} {t : Tok k} {x a1 a2 a3 : Operand} {ts : Array TypeId} {i ver p : Nat} {els : List (List D)} {m : List D} (hi : st.heap[i]? = some (.row 45 5 els ver)) (hp : p ≤ els.length) (hbig : (els.length + 1) * 80 ≤ 140737488355328)
    (hk : k (St.put ⟨st.env, st.heap.set i (.row 45 5 (els.take p ++ [m] ++ els.drop p) (ver + 1))⟩ o.dst (.c (.own i (ver + 1)))))
    (hop : o.op = .call { callee := .value x, args := #[a1, a2, a3], argTypes := ts } := by rfl) (hx : ev pm.Γ st.env x = .c (.clo 87 []) := by rfl) (h1 : ev pm.Γ st.env a1 = .c (.own i ver) := by rfl) (h2 : ev pm.Γ st.env a2 = .c (.d (.int .i64 p)) := by rfl) (h3 : ev pm.Γ st.env a3 = .c (.d (.lst 5 [m])) := by rfl) (hd : dstOk pm.N o.dst := by first | trivial | (show (_ : Nat) < _; exact Nat.le_of_ble_eq_true rfl)) :
    CallL Tryz.prog pm o st (.c (.clo 87 [])) aas k t := by
  refine .inr (.inr fun ops rest K hK => ?_)
  obtain ⟨dst, op, ty, pos, af, gd⟩ := o
  simp only at hop hd
  subst hop
  intro cx G a w Q hpm s hQ
  refine wpList_plain rfl fun K' hK' => ?_
  subst hpm
  obtain ⟨v, xs, hg, how, hob, hdr, hl⟩ := row_at s.h hi
  obtain ⟨_, v0, n', hg', _, hxx⟩ := (h1 ▸ s.ev a1 : Ar G (.c (.own i ver)) (a.eval a1))
  rw [hg] at hg'
  cases hg'
  have e1 := hxx rfl
  have e2 := ar_int (h2 ▸ s.ev a2 : Ar G (.c (.d (.int .i64 p))) (a.eval a2))
  obtain ⟨A, cap, u, e3, hc, hm, hm8, hA, hu⟩ := dr_lst (h3 ▸ s.ev a3 : Ar G (.c (.d (.lst 5 [m]))) (a.eval a3))
  obtain ⟨ad, rfl, hIb, hcell⟩ := hA (by simp)
  have hxv : Ar G (.c (.clo 87 [])) (a.eval x) := hx ▸ s.ev x
  obtain ⟨bs, hxe, hbs⟩ := hxv
  cases hbs
  have hml : m.length = 5 := hm8 m (by simp)
  let ys : List Value := (List.range 5).map fun j => u 0 j
  have hys : ∀ j v, ys[j]? = some v → j < 5 ∧ v = u 0 j := fun j v hj => by
    have hj8 : j < 5 := by have := getElem?_lt hj; simpa [ys] using this
    simp only [ys, List.getElem?_map, List.getElem?_range hj8, Option.map_some, Option.some.injEq] at hj
    exact ⟨hj8, hj.symm⟩
  have hyc : ∀ j v, ys[j]? = some v → w.cell? (ad.add j) = some v := fun j v hj => by
    obtain ⟨hj8, rfl⟩ := hys j v hj
    have := hcell 0 m j m[j] rfl (List.getElem?_eq_getElem (by omega))
    rw [Nat.zero_mul, Nat.zero_add] at this
    exact cell_of_view s.h.view this
  have hyd : All2 (Dr G.V) m ys := All2.of_get (by simp [ys, hml]) fun j c v h1 h2 => by
    obtain ⟨hj8, rfl⟩ := hys j v h2
    exact hu 0 m j c rfl h1
  have hy1 : ∀ v ∈ ys, v.oneCell' = true := fun v hv => by
    obtain ⟨j, hj, e⟩ := List.mem_iff_getElem.1 hv
    obtain ⟨d, _, hd⟩ := hyd.getR j v (by rw [List.getElem?_eq_getElem hj, e])
    exact hd.one
  have hx1 : ∀ v ∈ xs, v.oneCell' = true := fun v hv => by
    obtain ⟨j, hj, e⟩ := List.mem_iff_getElem.1 hv
    obtain ⟨d, _, hd⟩ := hdr.getR j v (by rw [List.getElem?_eq_getElem hj, e])
    exact hd.one
  have hne : v.ownBlock ≠ some ad.block := fun e => by
    have h0 := hob _ e
    have := hcell 0 m 0 m[0] rfl (List.getElem?_eq_getElem (by omega))
    unfold cellIn at this
    rw [add_block, h0] at this
    cases this
  have hr : (execOp a.eval ⟨dst, .call { callee := .value x, args := #[a1, a2, a3], argTypes := ts }, ty, pos, af, none⟩).run Tryz.prog w = .ok (.enter 87 #[v, .int .i64 p, .slice (some ad) 1 cap]) w := by
    simp [execOp, resolve, Deferred.ofValue, hxe, invoke, Tryz.call87, e1, e2, e3]
  unfold Oper.wp
  rw [hr]
  refine (ins_all cx.w0.heap.size v els.length p xs ad cap ys w how hp hbig hx1 (by simp [ys]) hyc hy1 hne s.h.below.size).mono fun e w' hafter => ?_
  obtain ⟨v', rfl, how', hgr, hat⟩ := hafter
  have f1 := row_form how
  have f2 := row_form how'
  have hHnone : G.V.H w.heap.size = none := by
    cases e : G.V.H w.heap.size with
    | none => rfl
    | some o => have := heap_lt (s.h.view _ _ e); omega
  have hL : ∀ G' : Gh, G'.V = G.V → Lr G' w' cx.w0.heap.size (.row 45 5 (els.take p ++ [m] ++ els.drop p) (ver + 1)) (v', ver + 1) := fun G' hV => by
    refine ⟨rfl, xs.take (p * 5) ++ ys ++ xs.drop (p * 5), by
        have e : (els.take p ++ [m] ++ els.drop p).length = els.length + 1 := by simp; omega
        rw [e]; exact how', fun b hb => ?_, ?_, fun e he => ?_⟩
    · rw [hV]
      rcases hat with e | e
      · exact hob b (by rw [← e]; exact hb)
      · simp only at hb
        rw [e] at hb; cases hb; exact hHnone
    · obtain ⟨q1, q2⟩ := flat_cut els hl p
      rw [hV, List.flatten_append, List.flatten_append, q1, q2]
      exact ((hdr.take _).append (by simpa using hyd)).append (hdr.drop _)
    · rcases List.mem_append.1 he with h | h
      · rcases List.mem_append.1 h with h | h
        · exact hl e (List.mem_of_mem_take h)
        · rw [List.mem_singleton.1 h]; exact hml
      · exact hl e (List.mem_of_mem_drop h)
  obtain ⟨hG, s'⟩ := s.h.move (w' := w') (v' := v') (n' := ver + 1) (lb' := .row 45 5 (els.take p ++ [m] ++ els.drop p) (ver + 1)) hi trivial hg (by omega) f1.1 f1.2.1 f2.2.1 hgr hat f1.2.2.1 hL
  exact hK' _ _ (hK _ hk cx _ _ w' Q rfl ((s.step hG s').put (α := .c (.own i (ver + 1))) ⟨f2.2.2.2, v', ver + 1, by simp [getElem?_lt hg], Nat.le_refl _, fun _ => rfl⟩ hd) hQ)
end
end Go.Proofs

/- Remove and Add. No condition. -/
namespace Go.Proofs
open Go Go.Ax Go.Tx Go.Lib Go.RowKit Go.Fc
set_option maxRecDepth 100000
set_option maxHeartbeats 0
variable {Γ : List (Nat × List D)} {M : Int}
def cutL (l : List Au) (p : Nat) : List Au := l.take p ++ l.drop (p + 1)
def removeP (l : List Au) (id : Int) : List Au × Int := if placeP l id < 0 then ([], 9) else if (l.any fun a => decide (id ∈ a.above)) = true then ([], 10) else (cutL l (placeP l id).toNat, 0)
theorem c38 (l : List Au) (hl : l.length ≤ 2000000) (id : Int) (hA : ∀ a ∈ l, a.above.length ≤ 2000000) : AFn Tryz.prog Γ 38 [.c (.d (.lst 5 (l.map Au.ds))), .c (.d (.int .i64 id))] [.d (.lst 5 ((removeP l id).1.map Au.ds)), .d (.int .i64 (removeP l id).2)] := by
  generalize hR : removeP l id = R
  unfold removeP at hR
  have hbd := fI_bd (fun a => decide (a.id = id)) l 0
  refine AFn.vc [] Tryz.func38 rfl Tryz.mixed (by kernel_rfl) Tryz.ntmps38 Tryz.results38 (by simp) ?_
  push_cast
  refine CallL.q (c78 l id hl) ?_
  push_cast
  rw [show fI (fun a => decide (a.id = id)) 0 l = placeP l id from rfl] at *
  refine ⟨fun h => ?_, fun h => ?_⟩
  · rw [if_pos h] at hR
    rw [← hR]
    exact ⟨rfl, rfl⟩
  rw [if_neg (by omega)] at hR
  obtain ⟨p, hp⟩ : ∃ p : Nat, placeP l id = p := ⟨(placeP l id).toNat, by omega⟩
  rw [hp] at hR hbd ⊢
  refine LoopV.cnt Tryz.mixed [0, 1, 6, 14, 15] l.length (fun k => [(16, .c (.d (.int .i64 k)))]) (fun k => (l.any fun a => decide (id ∈ a.above)) = (l.drop k).any fun a => decide (id ∈ a.above)) (by simp) ?_
  intro k hk hinv
  push_cast
  refine ⟨fun h => ?_, fun h => ?_⟩
  · have hlt : k < l.length := by omega
    rw [any_step hlt] at hinv
    refine ⟨hlt, ?_⟩
    refine CallL.q (c85 l[k].above id (hA _ (List.getElem_mem hlt))) ?_
    push_cast
    refine ⟨fun e => ?_, fun e => ⟨by omega, hlt, by rw [hinv, decide_eq_false e, Bool.false_or]⟩⟩
    rw [hinv, decide_eq_true e, Bool.true_or, if_pos rfl] at hR
    rw [← hR]
    exact ⟨rfl, rfl⟩
  · rw [any_end (by omega)] at hinv
    rw [hinv, if_neg (by simp)] at hR
    refine CallL.own (c88 l hl) ?_
    push_cast
    refine ⟨by omega, ?_⟩
    refine CallL.delete (els := l.map Au.ds) (p := p) rfl (by simp; omega) ?_
    push_cast
    rw [← hR]
    exact ⟨by rw [Int.toNat_natCast]; simp [cutL, List.map_take, List.map_drop], rfl⟩
def lowA (l : List Au) (id : Int) : Nat := l.findIdx fun a => decide (id ≤ a.id)
def insL (l : List Au) (a : Au) : List Au := l.take (lowA l a.id) ++ [a] ++ l.drop (lowA l a.id)
def addF (l : List Au) (a : Au) : List Au × Int := if 0 ≤ placeP l a.id then ([], 7) else chkP (insL l a)
theorem low_step (l : List Au) (id : Int) (k : Nat) (h : k < l.length) (hk : ∀ j (hj : j < k) , l[j].id < id) : (id ≤ l[k].id → lowA l id = k) ∧ k ≤ lowA l id := by
  have hge : k ≤ lowA l id := by
    unfold lowA
    rcases Nat.lt_or_ge (l.findIdx fun a => decide (id ≤ a.id)) k with hlt | hge
    · have := List.findIdx_getElem (w := Nat.lt_trans hlt h) (xs := l) (p := fun a => decide (id ≤ a.id))
      have h2 := hk _ hlt
      simp at this
      omega
    · exact hge
  refine ⟨fun e => ?_, hge⟩
  have : lowA l id ≤ k := by
    unfold lowA
    rcases Nat.lt_or_ge k (l.findIdx fun a => decide (id ≤ a.id)) with hlt | hge
    · have := List.not_of_lt_findIdx hlt
      simp at this
      omega
    · exact hge
  omega
end Go.Proofs

/- Add. No condition. -/
namespace Go.Proofs
open Go Go.Ax Go.Tx Go.Lib Go.RowKit Go.Fc
set_option maxRecDepth 100000
set_option maxHeartbeats 0
variable {Γ : List (Nat × List D)} {M : Int}
theorem CallL.insertF {pm : Pm} {st : St} {o : Oper} {aas : List AV} {k : St → Prop} {t : Tok k} {x a1 a2 a3 : Operand} {ts : Array TypeId} {i ver p d : Nat} {els : List (List D)} {m : List D} (hi : st.heap[i]? = some (.row 45 5 els ver)) (hp : p ≤ els.length) (hbig : (els.length + 1) * 80 ≤ 140737488355328)
    (hk : k ⟨pute d (.c (.d (.lst 5 (els.take p ++ [m] ++ els.drop p)))) (pute d (.c (.own i (ver + 1))) st.env), (st.heap.set i (.row 45 5 (els.take p ++ [m] ++ els.drop p) (ver + 1))).set i .dead⟩)
    (hdst : o.dst = some d := by rfl)
    (hop : o.op = .call { callee := .value x, args := #[a1, a2, a3], argTypes := ts } := by rfl) (hx : ev pm.Γ st.env x = .c (.clo 87 []) := by rfl) (h1 : ev pm.Γ st.env a1 = .c (.own i ver) := by rfl) (h2 : ev pm.Γ st.env a2 = .c (.d (.int .i64 p)) := by rfl) (h3 : ev pm.Γ st.env a3 = .c (.d (.lst 5 [m])) := by rfl) (hd : dstOk pm.N o.dst := by first | trivial | (show (_ : Nat) < _; exact Nat.le_of_ble_eq_true rfl)) :
    CallL Tryz.prog pm o st (.c (.clo 87 [])) aas k t := by
  refine .inr (.inr fun ops rest K hK => ?_)
  obtain ⟨dst, op, ty, pos, af, gd⟩ := o
  simp only at hop hd hdst
  subst hop hdst
  have hil := getElem?_lt hi
  have hc := CallL_ok (P := Tryz.prog) (pm := pm) (x := x) («as» := [a1, a2, a3]) (ts := ts) (ty := ty) (p := pos) (af := af) (gd := gd) (st := st) (k := fun st' => ∀ ops rest K, (∀ s, k s → AXl Tryz.prog pm ops rest s K) → AXl Tryz.prog pm ops rest st' K) hd (by
    rw [hx]
    refine CallL.insert (els := els) (m := m) (p := p) hi hp hbig ?_ rfl hx h1 h2 h3 hd
    intro ops rest K hK
    refine AXl.freezeVar d (t := 45) (sz := 5) (ver := ver + 1) (i := i) (els := els.take p ++ [m] ++ els.drop p) ?_ ?_ (hK _ hk)
    · show lk d (pute d _ st.env) = _
      rw [lk_put, if_pos rfl]
    · show (st.heap.set i _)[i]? = _
      simp [hil])
  exact hc ops rest K fun st' h => h ops rest K hK
def tab37 : List (List Bool × List Nat) := [([false, false, false, false, false, false, false, false, false, false, false], [0, 2, 3]), ([true, false, false, false, false, false, false, false, false, false, false], [1, 2, 3]), ([false, false, true, false, false, false, false, false, false, false, false], [0, 3]), ([false, false, false, true, false, false, false, false, false, false, false], [0, 2, 4]), ([true, true, false, false, false, false, false, false, false, false, false], [2, 3]), ([true, false, true, false, false, false, false, false, false, false, false], [1, 3]), ([true, false, false, true, false, false, false, false, false, false, false], [1, 2, 4]), ([false, false, true, true, false, false, false, false, false, false, false], [0, 4]), ([false, false, false, true, true, false, false, false, false, false, false], [0, 2]), ([true, true, true, false, false, false, false, false, false, false, false], [3]), ([true, true, false, true, false, false, false, false, false, false, false], [2, 4]), ([true, false, true, true, false, false, false, false, false, false, false], [1, 4]), ([true, false, false, true, true, false, false, false, false, false, false], [1, 2]), ([false, false, true, true, true, false, false, false, false, false, false], [0]), ([true, true, true, true, false, false, false, false, false, false, false], [4]), ([true, true, false, true, true, false, false, false, false, false, false], [2]), ([true, false, true, true, true, false, false, false, false, false, false], [1]), ([true, true, true, true, true, false, false, false, false, false, false], [5]), ([true, true, true, true, true, true, false, false, false, false, false], [6]), ([true, true, true, true, true, true, true, false, false, false, false], [7, 8]), ([true, true, true, true, true, true, true, true, false, false, false], [8]), ([true, true, true, true, true, true, true, false, true, false, false], [7]), ([true, true, true, true, true, true, true, true, true, false, false], [9]), ([true, true, true, true, true, true, true, true, true, true, false], [10]), ([true, true, true, true, true, true, true, true, true, true, true], [])]
theorem c37 (h2 : (2, firstD) ∈ Γ) (h3 : (3, acceptD) ∈ Γ) (hM : (0, [D.int .i64 M]) ∈ Γ) (l : List Au) (hl : l.length ≤ 2000000) (a : Au) (hb : AuB (insL l a)) : AFn Tryz.prog Γ 37 [.c (.d (.lst 5 (l.map Au.ds))), .agg (a.ds.map C.d)] [.d (.lst 5 ((addF l a).1.map Au.ds)), .d (.int .i64 (addF l a).2)] := by
  generalize hR : addF l a = R
  unfold addF at hR
  refine AFn.vc [29, 1000006] Tryz.func37 rfl Tryz.mixed (by kernel_rfl) Tryz.ntmps37 Tryz.results37 (by simp) ?_
  push_cast
  refine CallL.q (c78 l a.id hl) ?_
  push_cast
  rw [show fI (fun x => decide (x.id = a.id)) 0 l = placeP l a.id from rfl] at *
  refine ⟨fun h => ?_, fun h => ?_⟩
  · rw [if_pos h] at hR
    rw [← hR]
    exact ⟨rfl, rfl⟩
  rw [if_neg (by omega)] at hR
  refine LoopV.cnt Tryz.mixed [0, 3] l.length (fun k => [(6, .c (.d (.int .i64 k)))]) (fun k => ∀ j (hj : j < k) (hjl : j < l.length), l[j].id < a.id) (fun j hj => by omega) ?_
  intro k hk hinv
  push_cast
  have fin : ∀ k : Nat, lowA l a.id = k → k ≤ l.length → (l.map Au.ds).take k ++ [a.ds] ++ (l.map Au.ds).drop k = (insL l a).map Au.ds := fun k h1 _ => by
    unfold insL
    rw [h1]
    simp
  have hR1 : R.1 = (chkP (insL l a)).1 := by rw [hR]
  have hR2 : R.2 = (chkP (insL l a)).2 := by rw [hR]
  refine ⟨fun h4 => ?_, fun h4 => ?_⟩
  · have hlt : k < l.length := by omega
    obtain ⟨k1, k2⟩ := low_step l a.id k hlt fun j hj => hinv j hj (by omega)
    refine ⟨hlt, fun e => ⟨by omega, hlt, fun j hj hjl => ?_⟩, fun e => ?_⟩
    · rcases Nat.lt_or_ge j k with h5 | h5
      · exact hinv j h5 hjl
      · obtain rfl : j = k := by omega
        exact e
    have hins := fin k (k1 e) hk
    refine RegV.tab (E := [29, 1000006]) Tryz.mixed tab37 [some (28, .c (.d (.lst 5 (l.map Au.ds)))), some (29, .c (.own 1 0)), some (30, .c (.d (.int .i64 k))), some (31, .agg (a.ds.map C.d)), some (32, .c (.d (.lst 5 [a.ds]))), some (33, .c (.d (.lst 5 ((insL l a).map Au.ds)))), some (34, .tup [.c (.d (.lst 5 (R.1.map Au.ds))), .c (.d (.int .i64 R.2))]), some (35, .c (.d (.lst 5 (R.1.map Au.ds)))), some (36, .c (.d (.int .i64 R.2))), some (4, .c (.d (.lst 5 (R.1.map Au.ds)))), some (5, .c (.d (.int .i64 R.2)))]
      [none, some [.box 45 (a.ds.map C.d), .row 45 5 (l.map Au.ds) 0], none, none, none, some [.box 45 (a.ds.map C.d), .dead], none, none, none, none, none] (by kernel_rfl) (by kernel_rfl) rfl ?_ ?_
    · push_cast [tab37]
      repeat' (first | refine And.intro ?_ ?_ | (refine CallL.own (c88 l hl) ?_; push_cast; exact rfl) | (refine CallL.insertF (els := l.map Au.ds) (m := a.ds) (p := k) rfl (by simpa using hk) (by rw [List.length_map]; omega) ?_; rw [hins]; push_cast; exact rfl) | (refine CallL.q (c86 h2 h3 hM (insL l a) hb) ?_; push_cast; rw [hR1, hR2]; exact rfl) | exact rfl)
    · push_cast
  · have hkl : k = l.length := by omega
    have hlow : lowA l a.id = k := by
      have h6 : lowA l a.id ≤ l.length := List.findIdx_le_length
      have h7 : ¬ lowA l a.id < l.length := fun hlt => by
        have h8 := List.findIdx_getElem (xs := l) (p := fun x : Au => decide (a.id ≤ x.id)) (w := hlt)
        have h9 := hinv (lowA l a.id) (by omega) hlt
        simp only [decide_eq_true_eq] at h8
        have : a.id ≤ l[lowA l a.id].id := h8
        omega
      omega
    have hins := fin k hlow hk
    refine RegV.tab (E := [29, 1000006]) Tryz.mixed tab37 [some (28, .c (.d (.lst 5 (l.map Au.ds)))), some (29, .c (.own 1 0)), some (30, .c (.d (.int .i64 k))), some (31, .agg (a.ds.map C.d)), some (32, .c (.d (.lst 5 [a.ds]))), some (33, .c (.d (.lst 5 ((insL l a).map Au.ds)))), some (34, .tup [.c (.d (.lst 5 (R.1.map Au.ds))), .c (.d (.int .i64 R.2))]), some (35, .c (.d (.lst 5 (R.1.map Au.ds)))), some (36, .c (.d (.int .i64 R.2))), some (4, .c (.d (.lst 5 (R.1.map Au.ds)))), some (5, .c (.d (.int .i64 R.2)))]
      [none, some [.box 45 (a.ds.map C.d), .row 45 5 (l.map Au.ds) 0], none, none, none, some [.box 45 (a.ds.map C.d), .dead], none, none, none, none, none] (by kernel_rfl) (by kernel_rfl) rfl ?_ ?_
    · push_cast [tab37]
      repeat' (first | refine And.intro ?_ ?_ | (refine CallL.own (c88 l hl) ?_; push_cast; exact rfl) | (refine CallL.insertF (els := l.map Au.ds) (m := a.ds) (p := k) rfl (by simpa using hk) (by rw [List.length_map]; omega) ?_; rw [hins]; push_cast; exact rfl) | (refine CallL.q (c86 h2 h3 hM (insL l a) hb) ?_; push_cast; rw [hR1, hR2]; exact rfl) | exact rfl)
    · push_cast
end Go.Proofs
