/- Part of a proof about this program; no condition of its own. -/
import Derived.Test.YtglonmggpbajgaaDoorGxR
import Derived.Test.YtglonmggpbajgaaDoorSLay
import Derived.Test.YtglonmggpbajgaaDoorGyF
import Derived.Sort.OwnSortedInts
import Derived.Lib.RowBridge
set_option linter.all false
/- slices.Sort and slices.Compact on a row of integers of the call's own. -/
namespace Go.Proofs
open Go Go.Ax Go.Sd Go.Sort
theorem ints_xs {V : Vw} : ∀ {zs : List Int} {xs : List Value}, All2 (Dr V) (zs.map iD).flatten xs → xs = zs.map (Value.int .i64)
  | [], xs, h => by cases h; rfl
  | z :: zs, xs, h => by
    rw [List.map_cons, List.flatten_cons, iD, List.singleton_append] at h
    cases h with
    | cons h1 h2 => rw [dr_int h1, ints_xs h2]; rfl
theorem ints_dr (V : Vw) : ∀ zs : List Int, All2 (Dr V) (zs.map iD).flatten (zs.map (Value.int .i64))
  | [] => .nil
  | z :: zs => .cons (.int _ _) (ints_dr V zs)
theorem Tryd.rowSort (zs : List Int) (hz : zs.length < 4611686018427387904) : RowOp Tryd.prog 48 3 1 (zs.map iD) ((zs.mergeSort fun x y => decide (x ≤ y)).map iD) false := by
  intro V base v xs w how hdr
  have hx := ints_xs hdr
  subst hx
  obtain ⟨hl, ⟨rfl, h0⟩ | ⟨g, cap, cur, rfl, hg, hh, h1, h2, h3, h4⟩⟩ := how
  · have : zs = [] := by cases zs with
      | nil => rfl
      | cons a b => simp at h0
    subst this
    refine (Tryd.slices_Sort_int_none none 0 w).mono fun e w' h => ?_
    obtain ⟨rfl, rfl⟩ := h
    rw [List.mergeSort_nil]
    exact ⟨_, [], rfl, fun _ => rfl, World.ownsRow_nil _ _ _ _, .nil, ⟨rfl, rfl, rfl, Nat.le_refl _, fun _ _ _ => rfl⟩, rfl⟩
  · rw [List.length_map] at h1 h4 ⊢
    rw [Nat.mul_one] at h4
    refine (Tryd.slices_Sort_int g 0 cap zs w (holds_of_blockI hh h4) (heap_lt hh) hz).mono fun e w' h => ?_
    obtain ⟨rfl, n, os, rfl⟩ := h
    have hp := List.mergeSort_perm zs (fun x y => decide (x ≤ y))
    have how' := ownsRow_sortedI (w := w) (n := n) (os := os) (base := base) (ss := zs) (ts := zs.mergeSort fun x y => decide (x ≤ y)) hp.length_eq hg hh h1 h2 h3
    refine ⟨_, _, rfl, fun _ => rfl, ?_, ints_dr V _, grownBy_sortedI _, rfl⟩
    rw [List.length_map, hp.length_eq]
    exact how'
theorem Tryd.rowCompact (zs : List Int) (hz : zs.length ≤ 9223372036854775807) : RowOp Tryd.prog 49 3 1 (zs.map iD) ((Lib.compact zs).map iD) true := by
  intro V base v xs w how hdr
  have hx := ints_xs hdr
  subst hx
  obtain ⟨hl, ⟨rfl, h0⟩ | ⟨g, cap, cur, rfl, hg, hh, h1, h2, h3, h4⟩⟩ := how
  · have : zs = [] := by cases zs with
      | nil => rfl
      | cons a b => simp at h0
    subst this
    refine (Tryd.slices_Compact_int_empty none 0 w).mono fun e w' h => ?_
    obtain ⟨rfl, rfl⟩ := h
    exact ⟨_, [], rfl, fun h => (by cases h), World.ownsRow_nil _ _ _ _, .nil, ⟨rfl, rfl, rfl, Nat.le_refl _, fun _ _ _ => rfl⟩, rfl⟩
  · rw [List.length_map] at h1 h4 ⊢
    rw [Nat.mul_one] at h4
    refine (Tryd.slices_Compact_int g 0 cap zs w (holds_of_blockI hh h4) hz h1).mono fun e w' h => ?_
    obtain ⟨rfl, q, rfl⟩ := h
    have hle := Lib.compact_length_le zs
    obtain ⟨ts, hts⟩ : ∃ ts, ts = Lib.compact zs ++ List.replicate (zs.length - (Lib.compact zs).length) 0 := ⟨_, rfl⟩
    have htl : ts.length = zs.length := by rw [hts, List.length_append, List.length_replicate]; omega
    rw [← hts]
    have e1 : putRow (Value.int .i64) (Sort.ahead w q) g 0 ts.toArray = grow (putRow (Value.int .i64) (Sort.ahead w q) g 0 ts.toArray) #[] := by
      unfold grow
      rw [Array.append_empty]
    rw [e1]
    have hk := take_putCellsI cur ts (by omega)
    refine ⟨_, (Lib.compact zs).map (Value.int .i64), rfl, fun h => (by cases h), ⟨by simp, .inr ⟨g, cap, _, by rw [List.length_map], hg, heap_sortedI _ hh, by rw [List.length_map]; omega, h2, by simp [putCells, h3], ?_⟩⟩, ints_dr V _, grownBy_sortedI _, rfl⟩
    rw [List.length_map, Nat.mul_one]
    have : (putCells (Value.int .i64) 0 ts.toArray cur).toList.take (Lib.compact zs).length = ((putCells (Value.int .i64) 0 ts.toArray cur).toList.take ts.length).take (Lib.compact zs).length := by
      rw [List.take_take, Nat.min_eq_left (by omega)]
    rw [this, hk, hts, List.map_append]
    exact (List.take_append_of_le_length (by simp)).trans (List.take_of_length_le (by simp))
end Go.Proofs
