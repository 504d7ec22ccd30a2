/- Part of a proof about this program; no condition of its own. -/
import Derived.Test.YticdcapnomageaaDoorIJa
import Derived.Shelf.Spec.SlicesInsertGrow
set_option linter.all false
/- slices.Insert at elements of several cells: no room, i < len(s): a new row. No condition. -/
namespace Go.Proofs
open Go Go.Ax Go.RowKit
set_option maxRecDepth 100000
theorem zeroCells_size (cs : Array Value) (k : Nat) : (Builtin.zeroCells cs k).size = k * cs.size := by
  simp [Builtin.zeroCells]
set_option maxHeartbeats 4000000 in
theorem ins_grow (g n c i : Nat) (ad : Addr) (vc : Nat) (cur : Array Value) (ys : List Value) (w : World) (hi : i < n) (hnc : n ≤ c) (hroom : c < n + 1) (hbig : (n + 1) * 72 ≤ 140737488355328) (hg : w.heap[g]? = some (.cells cur 28 (0, 0))) (hsz : cur.size = c * 8)
    (h1 : ∀ v ∈ cur.toList.take (n * 8), v.oneCell' = true) (hy : ys.length = 8) (hyc : ∀ j u, ys[j]? = some u → w.cell? (ad.add j) = some u) (hy1 : ∀ v ∈ ys, v.oneCell' = true) :
    Calls Tryd.prog 98 #[.slice (some ⟨g, 0, none⟩) n c, .int .i64 i, .slice (some ad) 1 vc] w fun e w' =>
      ∃ G, e = .returned (.slice (some ⟨w.heap.size, 0, none⟩) (n + 1) G) ∧ w.grownBy w' (some g) ∧ n + 1 ≤ G ∧ G ≤ maxLen ∧ ∃ cur', w'.heap[w.heap.size]? = some (.cells cur' 28 (0, 0)) ∧ cur'.size = G * 8 ∧ cur'.toList.take ((n + 1) * 8) = (cur.toList.take (n * 8)).take (i * 8) ++ ys ++ (cur.toList.take (n * 8)).drop (i * 8) := by
  obtain ⟨hu, hpos, ii, z, hii, hz, hs, hb, hzc⟩ := apT_some Tryd.apT24
  have hz2 : ¬ ((i : Int) = (n : Int)) := by omega
  have hz3 : (c : Int) < (n : Int) + 1 := by omega
  have hcl : cur.toList.length = c * 8 := by simpa using hsz
  have hlt : g < w.heap.size := (Array.getElem?_eq_some_iff.1 hg).1
  have halt : ad.block < w.heap.size := by
    have := World.block_lt_of_cell? w (ad.add 0) (hyc 0 _ (List.getElem?_eq_getElem (by omega)))
    rwa [add_block] at this
  have hsl : (Tryd.prog.info? 28).map (·.size) = some 8 := by rw [hii]; simp [hs]
  have hkk : (n : Int) + 1 - (i : Int) = ((n + 1 - i : Nat) : Int) := by omega
  have hik : i + (n + 1 - i) = n + 1 := by omega
  obtain ⟨X0, hX0⟩ : ∃ X0, X0 = cur.toList.take (i * 8) := ⟨_, rfl⟩
  have hX0l : X0.length = i * 8 := by rw [hX0, List.length_take, hcl]; omega
  obtain ⟨X1, hX1⟩ : ∃ X1, X1 = (cur.toList.take (n * 8)).drop (i * 8) := ⟨_, rfl⟩
  have hX1l : X1.length = (n - i) * 8 := by rw [hX1, List.length_drop, List.length_take, hcl]; omega
  have hold : (Builtin.firstCells ii.size i (.slice (some ⟨g, 0, none⟩) i c)).run Tryd.prog w.drew = .ok X0.toArray w.drew := by
    rw [hs]
    exact run_firstCells_some w.drew 8 i ⟨g, 0, none⟩ i c X0 hX0l (fun j v hj => by
      have e : w.drew.cell? ((⟨g, 0, none⟩ : Addr).add j) = cur[j]? := by
        rw [add_plain]
        show w.cell? _ = _
        simp [World.cell?, hg]
      rw [e]
      rw [hX0, List.getElem?_take] at hj
      split at hj
      · simpa using hj
      · cases hj)
  obtain ⟨G, hG⟩ : ∃ G, G = grownCap w (n + 1) c 28 := ⟨_, rfl⟩
  obtain ⟨ROW, hROW⟩ : ∃ ROW : Array Value, ROW = X0.toArray ++ Builtin.zeroCells z.cells (n + 1 - i) ++ Builtin.zeroCells z.cells (G - (n + 1)) := ⟨_, rfl⟩
  have hrz : ∀ ty, (Builtin.append_ #[24, 3] ty #[.slice (some ⟨g, 0, none⟩) i c, .int .i64 ((n : Int) + 1 - (i : Int))]).run Tryd.prog w =
      .ok (.slice (some ⟨w.heap.size, 0, none⟩) (n + 1) G) (w.drew.alloc (.cells ROW 28)) := fun ty => by
    have h := Lib.run_append_grow_zeros w 24 3 ty 28 ii z .i64 .i64 hu Tryd.underlying3 hii hz (some ⟨g, 0, none⟩) i c X0 hold (n + 1 - i) (by omega) (by omega) (by omega) (by omega) (by rw [hb]; omega) (by rw [hb, hik]; exact growslice_fits hroom hbig)
    rw [hik] at h
    rw [hkk, hROW, hG]
    exact h
  have hGn : n + 1 ≤ G := by rw [hG]; exact grownCap_ge w _ _ _
  have hGm : G ≤ maxLen := by rw [hG]; exact grownCap_le_maxLen w (n + 1) c 28 (by unfold maxLen; omega)
  have hG63 : G ≤ 9223372036854775807 := by unfold maxLen at hGm; omega
  have hRl : ROW.size = G * 8 := by
    rw [hROW]
    simp only [Array.size_append, List.size_toArray, zeroCells_size, hzc, hX0l]
    omega
  obtain ⟨C1, hC1⟩ : ∃ C1 : Array Value, C1 = (ROW.toList.take (i * 8) ++ ys ++ ROW.toList.drop (i * 8 + ys.length)).toArray := ⟨_, rfl⟩
  have hC1l : C1.size = G * 8 := by rw [hC1]; simp [hRl, hy]; omega
  obtain ⟨C2, hC2⟩ : ∃ C2 : Array Value, C2 = (C1.toList.take ((i + 1) * 8) ++ X1 ++ C1.toList.drop ((i + 1) * 8 + X1.length)).toArray := ⟨_, rfl⟩
  have hGi : ¬ (G = i) := by omega
  have hGim : ¬ (G = i + 1) := by omega
  have hci : ¬ (c = i) := by omega
  have hw1 : IntKind.i64.wrap ((i : Int) + 1) = (i : Int) + 1 := by rw [IntKind.wrap_i64]; omega
  have hb1 : (0 : Int) ≤ (i : Int) + 1 := by omega
  have hin : i ≤ n := by omega
  have htn : ((i : Int) + 1).toNat = i + 1 := by omega
  have hb3 : (i : Int) ≤ (n : Int) := by omega
  have hNw : w.heap.size ≠ g := by omega
  have hcpA : ∀ W : World, W.heap = (w.alloc (.cells ROW 28)).heap → ∀ ty dc, (Builtin.copy_ #[24, 24] ty #[.slice (some ⟨w.heap.size, i * 8, none⟩) (n + 1 - i) dc, .slice (some ad) 1 vc]).run Tryd.prog W = .ok (goInt 1) (W.setRow w.heap.size C1) := fun W hW ty dc => by
    have hgW : W.heap[w.heap.size]? = some (.cells ROW 28 (0, 0)) := by rw [hW]; exact heap_alloc_new w _
    have := run_copy_rowK (P := Tryd.prog) W 24 24 ty 28 8 w.heap.size (i * 8) (n + 1 - i) dc ad 1 vc ROW 28 ys Tryd.underlying24 hsl hgW (by rw [hy]; simp only [Nat.min_def]; split <;> omega)
      (fun j v hj => by
        rw [← hyc j v hj]
        refine World.cell?_of_block ?_
        rw [hW, add_block]
        show (w.heap.push _)[_]? = _
        rw [Array.getElem?_push, if_neg (by omega)])
      (by rw [hy, hRl]; omega) hy1
    rw [this, ← hC1]
    congr 2
    simp only [Nat.min_def]; split <;> omega
  have hcpB : ∀ W : World, W.heap = ((w.alloc (.cells ROW 28)).setRow w.heap.size C1).heap → ∀ ty dc sc, (Builtin.copy_ #[24, 24] ty #[.slice (some ⟨w.heap.size, (i + 1) * 8, none⟩) (n - i) dc, .slice (some ⟨g, i * 8, none⟩) (n - i) sc]).run Tryd.prog W = .ok (goInt ((n - i : Nat) : Int)) (W.setRow w.heap.size C2) := fun W hW ty dc sc => by
    have hgW : W.heap[w.heap.size]? = some (.cells C1 28 (0, 0)) := by rw [hW]; exact setRow_heap _ _ ROW _ _ _ (heap_alloc_new w _)
    have := run_copy_rowK (P := Tryd.prog) W 24 24 ty 28 8 w.heap.size ((i + 1) * 8) (n - i) dc ⟨g, i * 8, none⟩ (n - i) sc C1 28 X1 Tryd.underlying24 hsl hgW (by rw [hX1l]; simp)
      (fun j v hj => by
        have e : W.cell? ((⟨g, i * 8, none⟩ : Addr).add j) = cur[i * 8 + j]? := by
          rw [add_plain]
          have e2 : W.heap[g]? = some (.cells cur 28 (0, 0)) := by
            rw [hW, setRow_ne _ _ _ _ (Ne.symm hNw)]
            show (w.heap.push _)[_]? = _
            rw [Array.getElem?_push, if_neg (by omega)]
            exact hg
          simp [World.cell?, e2]
        rw [e]
        rw [hX1, List.getElem?_drop, List.getElem?_take] at hj
        split at hj
        · simpa using hj
        · cases hj)
      (by rw [hX1l, hC1l]; omega) (fun v hv => h1 v (by rw [hX1] at hv; exact List.mem_of_mem_drop hv))
    rw [this, ← hC2]
    congr 2
    simp
  have HH : Hid (C1 = (ROW.toList.take (i * 8) ++ ys ++ ROW.toList.drop (i * 8 + ys.length)).toArray ∧ C2 = (C1.toList.take ((i + 1) * 8) ++ X1 ++ C1.toList.drop ((i + 1) * 8 + X1.length)).toArray ∧ ys.length = 8 ∧ X1.length = (n - i) * 8 ∧ X0.length = i * 8 ∧ ROW.size = G * 8 ∧ C1.size = G * 8 ∧ X0 = cur.toList.take (i * 8) ∧ X1 = (cur.toList.take (n * 8)).drop (i * 8) ∧ ROW = X0.toArray ++ Builtin.zeroCells z.cells (n + 1 - i) ++ Builtin.zeroCells z.cells (G - (n + 1))) := ⟨hC1, hC2, hy, hX1l, hX0l, hRl, hC1l, hX0, hX1, hROW⟩
  clear hX1l hX0l hsz hcl hC1l hC1 hX1 hX0 hC2 hy hRl hROW hG hik hkk hzc hb hs hz hii hu hsl hold
  have hcpA' := hcpA (w.alloc (.cells ROW 28)).drew rfl
  have hcpB' := hcpB ((w.alloc (.cells ROW 28)).drew.setRow w.heap.size C1).drew rfl
  have mixed := Tryd.mixed
  go_enter Tryd.func98, Tryd.ntmps98
  go_wp2_with (at_builtin; refine Lib.wpList_append_run _ rfl _ _ _ _ rfl _ _ rfl rfl _ _ (hrz _) ?_)
  go_region_law_o (refine step_copy_runI rfl _ _ 24 24 rfl _ _ (by simp [Act.eval, Act.put]) (by simp [Act.eval, Act.put]) (hcpB' _ _ _) ?_)
  go_wp2
  go_ret
  obtain ⟨hC1, hC2, hy, hX1l, hX0l, hRl, hC1l, hX0, hX1, hROW⟩ := HH.out
  have hC2l : C2.size = G * 8 := by rw [hC2]; simp [hC1l, hX1l]; omega
  refine ⟨G, rfl, ⟨rfl, rfl, rfl, by
    have e : ∀ (W : World) (k : Nat) (c : Array Value), (W.setRow k c).heap.size = W.heap.size := fun W k c => by simp [World.setRow]
    rw [e]
    show w.heap.size ≤ ((w.alloc (.cells ROW 28)).drew.setRow w.heap.size C1).heap.size
    rw [e]
    show w.heap.size ≤ (w.heap.push _).size
    rw [Array.size_push]; omega, fun k hk hne' => ?_⟩, hGn, hGm, C2, ?_, hC2l, ?_⟩
  · have hkg : k ≠ w.heap.size := by omega
    rw [setRow_ne _ _ _ _ hkg]
    show ((w.alloc (.cells ROW 28)).drew.setRow w.heap.size C1).heap[k]? = _
    rw [setRow_ne _ _ _ _ hkg]
    show (w.heap.push _)[k]? = _
    rw [Array.getElem?_push, if_neg (by omega)]
  · exact setRow_heap _ _ C1 _ _ _ (setRow_heap (w.alloc (.cells ROW 28)).drew _ ROW _ _ _ (heap_alloc_new w _))
  · rw [← hX1, List.take_take, show min (i * 8) (n * 8) = i * 8 by omega, ← hX0]
    have e1 : C1.toList.take ((i + 1) * 8) = X0 ++ ys := by
      have e0 : ROW.toList.take (i * 8) = X0 := by
        rw [hROW, Array.toList_append, Array.toList_append, List.append_assoc]
        exact List.take_left' hX0l
      rw [hC1, List.toList_toArray, e0]
      exact List.take_left' (by rw [List.length_append, hX0l, hy]; omega)
    rw [hC2, List.toList_toArray, e1]
    refine List.take_left' ?_
    simp [hX0l, hX1l, hy]; omega
theorem ins_own (base : Nat) (v : Value) (n i : Nat) (xs : List Value) (ad : Addr) (vc : Nat) (ys : List Value) (w : World) (how : w.ownsRow base 28 8 v n xs) (hi : i < n) (hbig : (n + 1) * 72 ≤ 140737488355328)
    (h1 : ∀ v ∈ xs, v.oneCell' = true) (hy : ys.length = 8) (hyc : ∀ j u, ys[j]? = some u → w.cell? (ad.add j) = some u) (hy1 : ∀ v ∈ ys, v.oneCell' = true) (hne : v.ownBlock ≠ some ad.block) (hbl : base ≤ w.heap.size) :
    Calls Tryd.prog 98 #[v, .int .i64 i, .slice (some ad) 1 vc] w fun e w' =>
      ∃ v', e = .returned v' ∧ w'.ownsRow base 28 8 v' (n + 1) (xs.take (i * 8) ++ ys ++ xs.drop (i * 8)) ∧ w.grownBy w' v.ownBlock ∧ (v'.ownBlock = v.ownBlock ∨ v'.ownBlock = some w.heap.size) := by
  obtain ⟨hl, ⟨rfl, rfl⟩ | ⟨g, c, cur, rfl, hbg, hg, hnc, hcm, hsz, rfl⟩⟩ := how
  · omega
  have hcl : cur.toList.length = c * 8 := by simpa using hsz
  have hll : ((cur.toList.take (n * 8)).take (i * 8) ++ ys ++ (cur.toList.take (n * 8)).drop (i * 8)).length = (n + 1) * 8 := by
    simp only [List.length_append, List.length_take, List.length_drop, hy, hcl]; omega
  by_cases hroom : n + 1 ≤ c
  · have hab : ∃ c t fr, w.heap[ad.block]? = some (.cells c t fr) ∧ c.size ≠ 0 := by
      have h0 := hyc 0 _ (List.getElem?_eq_getElem (by omega))
      rw [← cellIn_world] at h0
      unfold cellIn at h0
      rw [add_block] at h0
      split at h0
      · next cc t fr e =>
        refine ⟨cc, t, fr, e, fun hz => ?_⟩
        split at h0
        · cases h0
        · have : cc[(ad.add 0).off]? = none := by rw [Array.getElem?_eq_none]; omega
          rw [this] at h0; cases h0
      · cases h0
    refine (ins_shift g n c i ad vc cur ys w hi hroom hcm hg hsz h1 hy hyc hy1 (fun e => hne (by simp [Value.ownBlock, e])) hab).mono fun e w' h => ?_
    obtain ⟨rfl, hgr, cur', hg', hsz', ht⟩ := h
    exact ⟨_, rfl, ⟨hll, .inr ⟨g, c, cur', rfl, hbg, hg', hroom, hcm, hsz', ht⟩⟩, hgr, .inl rfl⟩
  · refine (ins_grow g n c i ad vc cur ys w hi hnc (by omega) hbig hg hsz h1 hy hyc hy1).mono fun e w' h => ?_
    obtain ⟨G, rfl, hgr, hG1, hG2, cur', hg', hsz', ht⟩ := h
    exact ⟨_, rfl, ⟨hll, .inr ⟨w.heap.size, G, cur', rfl, hbl, hg', hG1, hG2, hsz', ht⟩⟩, hgr, .inr rfl⟩
end Go.Proofs
