/- Part of a proof about this program; no condition of its own. -/
import Derived.Test.YticdcapnomageaaDoorIWh
import Derived.Shelf.Spec.SlicesInsert
import Derived.Lib.AppendZerosOnto
set_option linter.all false
/- slices.Insert at elements of several cells: room for one more, i < len(s): in place. No condition. -/
namespace Go.Proofs
open Go Go.Ax Go.RowKit
set_option maxRecDepth 100000
theorem run_copy_rowK {P : Program} (w : World) (dT sT ty elem : TypeId) (k g o dLen dCap : Nat) (a : Addr) (sLen sCap : Nat) (cur : Array Value) (t : TypeId) (cs : List Value)
    (hu : P.underlying dT = some (.slice elem)) (hs : (P.info? elem).map (·.size) = some k)
    (hg : w.heap[g]? = some (.cells cur t (0, 0))) (hn : cs.length = Nat.min sLen dLen * k)
    (hsrc : ∀ j v, cs[j]? = some v → w.cell? (a.add j) = some v) (hfit : o + cs.length ≤ cur.size) (h1 : ∀ v ∈ cs, v.oneCell' = true) :
    (Builtin.copy_ #[dT, sT] ty #[.slice (some ⟨g, o, none⟩) dLen dCap, .slice (some a) sLen sCap]).run P w =
      .ok (goInt (Nat.min sLen dLen)) (w.setRow g (cur.toList.take o ++ cs ++ cur.toList.drop (o + cs.length)).toArray) := by
  have hl := run_loadCells_list (P := P) w a cs hsrc
  have hst := run_storeCells_at P g o t cs 0 cur w hg (by simpa using hfit) h1
  cases hq : P.info? elem with
  | none => simp [hq] at hs
  | some i =>
    have hi : i.size = k := by simpa [hq] using hs
    simp [Builtin.copy_, run_underlying hu, Builtin.lenOf, Builtin.firstCells, sizeOf, typeInfo, hq, hi, ← hn, hl, hst]
theorem run_overlaps_own {P : Program} (w : World) (tS tR e : TypeId) (ht : P.underlying tS = some (.slice e)) (size : Nat) (hz : ∀ w, (Go.sizeOf e).run P w = .ok size w)
    (a : Addr) (g o : Nat) (la ca lb cb : Nat) (hne : a.block ≠ g) (ha : ∃ c t fr, w.heap[a.block]? = some (.cells c t fr) ∧ c.size ≠ 0) (cur : Array Value) (t : TypeId) (hg : w.heap[g]? = some (.cells cur t (0, 0))) (hcur : cur.size ≠ 0) :
    (Extern.SlicesOverlaps.overlaps #[tS, tS] #[tR] #[.slice (some a) la ca, .slice (some ⟨g, o, none⟩) lb cb]).run P w = .ok (.bool false) w := by
  obtain ⟨ca', ta, fra, ha, hca⟩ := ha
  have hnb : (a.block != g) = true := by simpa using hne
  have hnb' : (a.block == g) = false := by simpa using hne
  have hfb : ∀ o, w.frozen? ⟨g, o, none⟩ = false := fun o => by simp [World.frozen?, hg]
  have hsb : w.shape? g = some (t, cur.size) := by simp [World.shape?, hg]
  have hsa : w.shape? a.block = some (ta, ca'.size) := by simp [World.shape?, ha]
  change Sem.run P (α := Value) (do
    let some t := (#[tS, tS] : Array TypeId)[0]? | stuck "slices.overlaps: no parameter types"
    let .slice elem ← underlying t | stuck "slices.overlaps: slice type expected"
    let size ← sizeOf elem
    match (some a : Option Addr), (some (⟨g, o, none⟩ : Addr) : Option Addr) with
    | some a, some b =>
      if la = 0 ∨ lb = 0 ∨ size = 0 then pure (Value.bool false)
      else if a.block != b.block && (← frozen a) && (← frozen b) then unsupported .addressObserved
      else do
        if a.block != b.block then do
          noView a; noView b
          if ← mayBeOne a b then return Value.bool ((← choose (.extern "sameAddr.stringBytes" 2)) == 1)
        pure (Value.bool (a.block == b.block && a.off < b.off + lb * size && b.off < a.off + la * size))
    | _, _ => pure (Value.bool false)) w = _
  by_cases h0 : la = 0 ∨ lb = 0 ∨ size = 0
  · simp [run_underlying ht, hz, h0]
  · obtain ⟨q, hq⟩ : ∃ q, cur.size = q + 1 := ⟨cur.size - 1, by omega⟩
    rw [hq] at hsb
    obtain ⟨q', hq'⟩ : ∃ q', ca'.size = q' + 1 := ⟨ca'.size - 1, by omega⟩
    rw [hq'] at hsa
    cases hfa : w.frozen? a <;> cases hfe : w.frozen? { block := a.block, off := q' + 1 } <;>
      simp [run_underlying ht, hz, h0, hnb, hnb', frozen, noView, viewAt, mayBeOne, stringish, shape, Sem.run, hsa, hsb, hfa, hfe, hfb]
theorem ins_list {α : Type} (l ys X : List α) (a b : Nat) (hb : b = a + 8) (hy : ys.length = 8) (hl : b + X.length ≤ l.length) :
    (((l.take b ++ X ++ l.drop (b + X.length)).take a ++ ys ++ (l.take b ++ X ++ l.drop (b + X.length)).drop (a + ys.length)).take (b + X.length)) = l.take a ++ ys ++ X := by
  subst hb
  have e1 : (l.take (a + 8) ++ X ++ l.drop (a + 8 + X.length)).take a = l.take a := by
    rw [List.append_assoc, List.take_append_of_le_length (by rw [List.length_take]; omega), List.take_take]; congr 1; omega
  have e2 : (l.take (a + 8) ++ X ++ l.drop (a + 8 + X.length)).drop (a + 8) = X ++ l.drop (a + 8 + X.length) := by
    rw [List.append_assoc, List.drop_append_of_le_length (by rw [List.length_take]; omega)]
    simp
  rw [hy, e1, e2, ← List.append_assoc]
  refine List.take_left' ?_
  simp only [List.length_append, List.length_take, hy]
  omega
set_option maxHeartbeats 4000000 in
theorem ins_shift (g n c i : Nat) (ad : Addr) (vc : Nat) (cur : Array Value) (ys : List Value) (w : World) (hi : i < n) (hroom : n + 1 ≤ c) (hm : c ≤ maxLen) (hg : w.heap[g]? = some (.cells cur 28 (0, 0))) (hsz : cur.size = c * 8)
    (h1 : ∀ v ∈ cur.toList.take (n * 8), v.oneCell' = true) (hy : ys.length = 8) (hyc : ∀ j u, ys[j]? = some u → w.cell? (ad.add j) = some u) (hy1 : ∀ v ∈ ys, v.oneCell' = true) (hne : ad.block ≠ g) (hab : ∃ c t fr, w.heap[ad.block]? = some (.cells c t fr) ∧ c.size ≠ 0) :
    Calls Tryd.prog 98 #[.slice (some ⟨g, 0, none⟩) n c, .int .i64 i, .slice (some ad) 1 vc] w fun e w' =>
      e = .returned (.slice (some ⟨g, 0, none⟩) (n + 1) c) ∧ w.grownBy w' (some g) ∧ ∃ cur', w'.heap[g]? = some (.cells cur' 28 (0, 0)) ∧ cur'.size = c * 8 ∧ cur'.toList.take ((n + 1) * 8) = (cur.toList.take (n * 8)).take (i * 8) ++ ys ++ (cur.toList.take (n * 8)).drop (i * 8) := by
  have hz2 : ¬ ((i : Int) = (n : Int)) := by omega
  have hov : ∀ lb cb, (callFunc 111 #[.slice (some ad) 1 vc, .slice (some ⟨g, (i + 1) * 8, none⟩) lb cb]).run Tryd.prog w = .ok (.value (.bool false)) w := fun lb cb => by
    rw [run_callFunc_extern Tryd.func111 (by kernel_rfl) (by kernel_rfl) (by kernel_rfl) (e := Extern.SlicesOverlaps.overlaps #[24, 24] #[4]) (by kernel_rfl),
      run_overlaps_own w 24 4 28 Tryd.underlying24 8 (fun _ => Tryd.sizeOf28 _) ad g _ 1 vc lb cb hne hab cur 28 hg (by omega)]
    rfl
  have hw1 : IntKind.i64.wrap ((i : Int) + 1) = (i : Int) + 1 := by rw [IntKind.wrap_i64]; unfold maxLen at hm; omega
  have hw2 : IntKind.i64.wrap ((n : Int) + 1) = (n : Int) + 1 := by rw [IntKind.wrap_i64]; unfold maxLen at hm; omega
  have hb1 : (0 : Int) ≤ (i : Int) + 1 := by omega
  have hin : i ≤ n := by omega
  have htn : ((i : Int) + 1).toNat = i + 1 := by omega
  have htn2 : ((n : Int) + 1).toNat = n + 1 := by omega
  have hb2 : ¬ (c = i + 1) := by omega
  have hb3 : (i : Int) ≤ (n : Int) + 1 := by omega
  have hb4 : ¬ (c = i) := by omega
  have hb5 : ¬ ((c : Int) < (n : Int) + 1) := by omega
  have hsl : (Tryd.prog.info? 28).map (·.size) = some 8 := by kernel_rfl
  have hcl : cur.toList.length = c * 8 := by simpa using hsz
  have hlt : g < w.heap.size := (Array.getElem?_eq_some_iff.1 hg).1
  obtain ⟨X1, hX1⟩ : ∃ X1, X1 = (cur.toList.take (n * 8)).drop (i * 8) := ⟨_, rfl⟩
  have hX1l : X1.length = (n - i) * 8 := by rw [hX1, List.length_drop, List.length_take, hcl]; omega
  obtain ⟨C1, hC1⟩ : ∃ C1 : Array Value, C1 = (cur.toList.take ((i + 1) * 8) ++ X1 ++ cur.toList.drop ((i + 1) * 8 + X1.length)).toArray := ⟨_, rfl⟩
  have hC1l : C1.size = c * 8 := by rw [hC1]; simp [hcl, hX1l, hsz]; omega
  obtain ⟨C2, hC2⟩ : ∃ C2 : Array Value, C2 = (C1.toList.take (i * 8) ++ ys ++ C1.toList.drop (i * 8 + ys.length)).toArray := ⟨_, rfl⟩
  have hcp1 : ∀ ty dc sc, (Builtin.copy_ #[24, 24] ty #[.slice (some ⟨g, (i + 1) * 8, none⟩) (n - i) dc, .slice (some ⟨g, i * 8, none⟩) (n + 1 - i) sc]).run Tryd.prog w.drew = .ok (goInt ((n - i : Nat) : Int)) (w.drew.setRow g C1) := fun ty dc sc => by
    have := run_copy_rowK (P := Tryd.prog) w.drew 24 24 ty 28 8 g ((i + 1) * 8) (n - i) dc ⟨g, i * 8, none⟩ (n + 1 - i) sc cur 28 X1 Tryd.underlying24 hsl hg (by rw [hX1l]; congr 1; simp only [Nat.min_def]; split <;> omega)
      (fun j v hj => by
        have e : w.drew.cell? ((⟨g, i * 8, none⟩ : Addr).add j) = cur[i * 8 + j]? := by
          rw [add_plain]
          show w.cell? _ = _
          simp [World.cell?, hg]
        rw [e]
        rw [hX1, List.getElem?_drop, List.getElem?_take] at hj
        split at hj
        · simpa using hj
        · cases hj)
      (by rw [hX1l, hsz]; omega) (fun v hv => h1 v (by rw [hX1] at hv; exact List.mem_of_mem_drop hv))
    rw [this, ← hC1]
    congr 2
    simp only [Nat.min_def]; split <;> omega
  have hcp2 : ∀ W : World, W.heap = (w.setRow g C1).heap → ∀ ty dc, (Builtin.copy_ #[24, 24] ty #[.slice (some ⟨g, i * 8, none⟩) (n + 1 - i) dc, .slice (some ad) 1 vc]).run Tryd.prog W = .ok (goInt 1) (W.setRow g C2) := fun W hW ty dc => by
    have hgW : W.heap[g]? = some (.cells C1 28 (0, 0)) := by rw [hW]; exact setRow_heap w g _ _ _ _ hg
    have := run_copy_rowK (P := Tryd.prog) W 24 24 ty 28 8 g (i * 8) (n + 1 - i) dc ad 1 vc C1 28 ys Tryd.underlying24 hsl hgW (by rw [hy]; simp only [Nat.min_def]; split <;> omega)
      (fun j v hj => by
        rw [← hyc j v hj]
        refine World.cell?_of_block ?_
        rw [hW, add_block]
        exact setRow_ne _ _ _ _ hne)
      (by rw [hy, hC1l]; omega) hy1
    rw [this, ← hC2]
    congr 2
    simp only [Nat.min_def]; split <;> omega
  have HH : Hid (C1 = (cur.toList.take ((i + 1) * 8) ++ X1 ++ cur.toList.drop ((i + 1) * 8 + X1.length)).toArray ∧ X1 = (cur.toList.take (n * 8)).drop (i * 8) ∧ C2 = (C1.toList.take (i * 8) ++ ys ++ C1.toList.drop (i * 8 + ys.length)).toArray ∧ ys.length = 8 ∧ cur.toList.length = c * 8) := ⟨hC1, hX1, hC2, hy, hcl⟩
  clear hX1l hsz hcl hC1l hC1 hX1 hC2 hy
  have hcp2' := hcp2 (w.drew.setRow g C1) rfl
  clear hcp2
  have mixed := Tryd.mixed
  go_enter Tryd.func98, Tryd.ntmps98
  go_wp2_with (simp only [hov])
  go_region_law_o (refine step_copy_runI rfl _ _ 24 24 rfl _ _ (by simp [Act.eval, Act.put]) (by simp [Act.eval, Act.put]) (hcp1 _ _ _) ?_)
  go_wp2
  go_ret
  obtain ⟨hC1, hX1, hC2, hy, hcl⟩ := HH.out
  have hX1l : X1.length = (n - i) * 8 := by rw [hX1, List.length_drop, List.length_take, hcl]; omega
  have hC1l : C1.size = c * 8 := by rw [hC1]; simp [hX1l]; rw [show cur.size = c * 8 by simpa using hcl]; omega
  have hC2l : C2.size = c * 8 := by rw [hC2]; simp [hC1l, hy]; omega
  refine ⟨rfl, ⟨rfl, rfl, rfl, by simp [World.setRow], fun k hk hne' => ?_⟩, C2, ?_, hC2l, ?_⟩
  · have hkg : k ≠ g := fun e => hne' (by rw [e])
    rw [setRow_ne _ _ _ _ hkg, setRow_ne _ _ _ _ hkg]; rfl
  · exact setRow_heap _ g _ _ _ _ (setRow_heap w.drew g _ _ _ _ hg)
  · have := ins_list cur.toList ys X1 (i * 8) ((i + 1) * 8) (by omega) hy (by rw [hX1l, hcl]; omega)
    rw [hC2, hC1, show (n + 1) * 8 = (i + 1) * 8 + X1.length by rw [hX1l]; omega]
    refine this.trans ?_
    rw [hX1, List.take_take, show min (i * 8) (n * 8) = i * 8 by omega]
end Go.Proofs
