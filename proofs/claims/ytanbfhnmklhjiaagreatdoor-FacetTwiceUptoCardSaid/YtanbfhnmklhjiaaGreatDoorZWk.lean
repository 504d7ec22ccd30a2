/- Part of a proof about this program; no condition of its own. -/
import Derived.Test.YtanbfhnmklhjiaaGreatDoorGzG
import Derived.Test.YtanbfhnmklhjiaaGreatDoorGxR
import Derived.Sort.OwnSortedInts
import Derived.Lib.RowBridge
set_option linter.all false
/- slices.DeleteFunc, Sort and Compact on rows of strings of the call's own; the values of a facet. No condition. -/
namespace Go.Proofs
open Go Go.Ax Go.Tx Go.Lib Go.Shelf Go.RowKit Go.Fc Go.Sort
variable {Γ : List (Nat × List D)}
theorem strs_xs {V : Vw} : ∀ {zs : List Str} {xs : List Value}, All2 (Dr V) (zs.map Fc.sD).flatten xs → xs = zs.map encStr
  | [], xs, h => by cases h; rfl
  | z :: zs, xs, h => by
    rw [List.map_cons, List.flatten_cons, Fc.sD, List.singleton_append] at h
    cases h with
    | cons h1 h2 => rw [dr_str h1, strs_xs h2]; rfl
theorem strs_dr (V : Vw) : ∀ zs : List Str, All2 (Dr V) (zs.map Fc.sD).flatten (zs.map encStr)
  | [] => .nil
  | z :: zs => .cons (.str _) (strs_dr V zs)
theorem Tryz.rowSort (zs : List Str) (hz : zs.length < 4611686018427387904) : RowOp Tryz.prog 99 9 1 (zs.map Fc.sD) ((Or.sortS zs).map Fc.sD) false := by
  unfold Or.sortS
  intro V base v xs w how hdr
  have hx := strs_xs hdr
  subst hx
  obtain ⟨hl, ⟨rfl, h0⟩ | ⟨g, cap, cur, rfl, hg, hh, h1, h2, h3, h4⟩⟩ := how
  · have : zs = [] := by cases zs with
      | nil => rfl
      | cons a b => simp at h0
    subst this
    refine (Tryz.slices_Sort_string_none none 0 w).mono fun e w' h => ?_
    obtain ⟨rfl, rfl⟩ := h
    rw [List.mergeSort_nil]
    exact ⟨_, [], rfl, fun _ => rfl, World.ownsRow_nil _ _ _ _, .nil, ⟨rfl, rfl, rfl, Nat.le_refl _, fun _ _ _ => rfl⟩, rfl⟩
  · rw [List.length_map] at h1 h4 ⊢
    rw [Nat.mul_one] at h4
    refine (Tryz.slices_Sort_string g 0 cap zs w (holds_of_block hh h4) (heap_lt hh) hz).mono fun e w' h => ?_
    obtain ⟨rfl, n, os, rfl⟩ := h
    have hp := List.mergeSort_perm zs (fun x y => decide (x ≤ y))
    have how' := ownsRow_sorted (w := w) (n := n) (os := os) (base := base) (ss := zs) (ts := zs.mergeSort fun x y => decide (x ≤ y)) hp.length_eq hg hh h1 h2 h3
    refine ⟨_, _, rfl, fun _ => rfl, ?_, strs_dr V _, grownBy_sorted _, rfl⟩
    rw [List.length_map, hp.length_eq]
    exact how'
theorem Tryz.rowCompact (zs : List Str) (hz : zs.length ≤ 9223372036854775807) : RowOp Tryz.prog 100 9 1 (zs.map Fc.sD) ((Lib.compact zs).map Fc.sD) true := by
  intro V base v xs w how hdr
  have hx := strs_xs hdr
  subst hx
  obtain ⟨hl, ⟨rfl, h0⟩ | ⟨g, cap, cur, rfl, hg, hh, h1, h2, h3, h4⟩⟩ := how
  · have : zs = [] := by cases zs with
      | nil => rfl
      | cons a b => simp at h0
    subst this
    refine (Tryz.slices_Compact_string_empty none 0 w).mono fun e w' h => ?_
    obtain ⟨rfl, rfl⟩ := h
    exact ⟨_, [], rfl, fun h => (by cases h), World.ownsRow_nil _ _ _ _, .nil, ⟨rfl, rfl, rfl, Nat.le_refl _, fun _ _ _ => rfl⟩, rfl⟩
  · rw [List.length_map] at h1 h4 ⊢
    rw [Nat.mul_one] at h4
    refine (Tryz.slices_Compact_string g 0 cap zs w (holds_of_block hh h4) hz h1).mono fun e w' h => ?_
    obtain ⟨rfl, q, rfl⟩ := h
    have hle := Lib.compact_length_le zs
    obtain ⟨ts, hts⟩ : ∃ ts, ts = Lib.compact zs ++ List.replicate (zs.length - (Lib.compact zs).length) [] := ⟨_, rfl⟩
    have htl : ts.length = zs.length := by rw [hts, List.length_append, List.length_replicate]; omega
    rw [← hts]
    have e1 : putRow encStr (Sort.ahead w q) g 0 ts.toArray = grow (putRow encStr (Sort.ahead w q) g 0 ts.toArray) #[] := by
      unfold grow
      rw [Array.append_empty]
    rw [e1]
    have hk := take_putCells cur ts (by omega)
    refine ⟨_, (Lib.compact zs).map encStr, rfl, fun h => (by cases h), ⟨by simp, .inr ⟨g, cap, _, by rw [List.length_map], hg, heap_sorted _ hh, by rw [List.length_map]; omega, h2, by simp [putCells, h3], ?_⟩⟩, strs_dr V _, grownBy_sorted _, rfl⟩
    rw [List.length_map, Nat.mul_one]
    have : (putCells encStr 0 ts.toArray cur).toList.take (Lib.compact zs).length = ((putCells encStr 0 ts.toArray cur).toList.take ts.length).take (Lib.compact zs).length := by
      rw [List.take_take, Nat.min_eq_left (by omega)]
    rw [this, hk, hts, List.map_append]
    exact (List.take_append_of_le_length (by simp)).trans (List.take_of_length_le (by simp))
theorem gives98 (W : World) (x : Str) : FnGives Tryz.prog 98 #[] #[encStr x] (.bool (decide (x = []))) W := by
  show Calls Tryz.prog 98 #[encStr x] W _
  go_enter Tryz.func98, Tryz.ntmps98
  go_wp2
  all_goals go_ret
  exact ⟨by cases x <;> rfl, 0, rfl⟩
theorem delete_none (p : Option Addr) (cap : Nat) (fv : Value) (w : World) : Calls Tryz.prog 90 #[.slice p 0 cap, fv] w fun e w' => e = .returned (.slice p 0 cap) ∧ w' = w := by
  have hI := AnyE.slices_IndexFunc_empty (P := Tryz.prog) { Tryz.laysSlH10_f90 with } p cap fv w
  have hI : Calls Tryz.prog 150 #[.slice p 0 cap, fv] w fun e w' => e = .returned (.int .i64 (-1)) ∧ w' = w := hI
  go_enter Tryz.func90, Tryz.ntmps90
  go_wp2_with (go_at_call 150; refine hI.mono ?_; rintro e w' ⟨rfl, rfl⟩)
  all_goals go_ret
  exact ⟨rfl, rfl⟩
theorem Tryz.rowDelete (zs : List Str) (hz : zs.length ≤ 9223372036854775807) : RowOp2 Tryz.prog 90 98 9 1 (zs.map Fc.sD) ((zs.filter fun x => !decide (x = [])).map Fc.sD) true := by
  intro V base v xs w how hdr
  have hx := strs_xs hdr
  subst hx
  obtain ⟨hl, ⟨rfl, h0⟩ | ⟨g, cap, cur, rfl, hg, hh, h1, h2, h3, h4⟩⟩ := how
  · have : zs = [] := by cases zs with
      | nil => rfl
      | cons a b => simp at h0
    subst this
    refine (delete_none none 0 _ w).mono fun e w' h => ?_
    obtain ⟨rfl, rfl⟩ := h
    exact ⟨_, [], rfl, fun h => (by cases h), World.ownsRow_nil _ _ _ _, .nil, ⟨rfl, rfl, rfl, Nat.le_refl _, fun _ _ _ => rfl⟩, rfl⟩
  · rw [List.length_map] at h1 h4 ⊢
    rw [Nat.mul_one] at h4
    have eg : ∀ args w, (callFunc 98 args).run Tryz.prog w = .ok (.enter 98 args) w := fun args w => run_callFunc ⟨⟨_, Tryz.func98, by kernel_rfl, by kernel_rfl⟩⟩ args w
    have hD := Tryz.slices_DeleteFunc_f90 encStr (fun _ => rfl) (fun x => decide (x = [])) 98 #[] eg [] Tryz.zeroValue9 g 0 cap zs.toArray w (fun W x _ => gives98 W x) (fun n os dk x _ => gives98 _ x) (holds_of_block hh h4) hz h1
    simp only [List.size_toArray] at hD
    refine hD.mono fun e w' h => ?_
    obtain ⟨rfl, q, rfl⟩ := h
    generalize hR : (zs.filter fun x => !decide (x = [])) = R
    have hle : R.length ≤ zs.length := by rw [← hR]; exact List.length_filter_le _ _
    obtain ⟨ts, hts⟩ : ∃ ts, ts = R ++ List.replicate (zs.length - R.length) [] := ⟨_, rfl⟩
    have htl : ts.length = zs.length := by rw [hts, List.length_append, List.length_replicate]; omega
    rw [← hts]
    have e1 : putRow encStr (Sort.ahead w q) g 0 ts.toArray = grow (putRow encStr (Sort.ahead w q) g 0 ts.toArray) #[] := by
      unfold grow
      rw [Array.append_empty]
    rw [e1]
    have hk := take_putCells cur ts (by omega)
    refine ⟨_, R.map encStr, rfl, fun h => (by cases h), ⟨by simp, .inr ⟨g, cap, _, by rw [List.length_map], hg, heap_sorted _ hh, by rw [List.length_map]; omega, h2, by simp [putCells, h3], ?_⟩⟩, strs_dr V _, grownBy_sorted _, rfl⟩
    rw [List.length_map, Nat.mul_one]
    have : (putCells encStr 0 ts.toArray cur).toList.take R.length = ((putCells encStr 0 ts.toArray cur).toList.take ts.length).take R.length := by
      rw [List.take_take, Nat.min_eq_left (by omega)]
    rw [this, hk, hts, List.map_append]
    exact (List.take_append_of_le_length (by simp)).trans (List.take_of_length_le (by simp))
theorem values_eq (l : List Str) : Lib.compact (Or.sortS (l.filter fun x => !decide (x = []))) = putsS l := by
  obtain ⟨h1, h2⟩ := Or.compact_spec Or.sto_S _ (Or.sortS_sorted (l.filter fun x => !decide (x = [])))
  obtain ⟨h3, h4⟩ := putsS_spec l
  refine Or.asc_eq Or.sto_S h1 h3 fun v => ?_
  rw [h2, h4]
  unfold Or.sortS
  rw [(List.mergeSort_perm _ _).mem_iff, List.mem_filter]
  simp [and_comm]
theorem sD_len {l : List Str} : ∀ e ∈ l.map Fc.sD, e.length = 1 := fun e he => by
  obtain ⟨x, _, rfl⟩ := List.mem_map.1 he
  rfl
theorem raw_len2 (kind : Int) (r : Rec) (hr : r.fit) : (rawV kind r).length ≤ 2001 := by
  unfold rawV
  split
  · simp
  · split
    · split <;> simp
    · split
      · simp
      · have := raws_len kind r.fields
        have := hr.nf
        omega
theorem c46 (hΓ : (4, powD) ∈ Γ) (kind : Int) (r : Rec) (hr : r.fit) (hc : r.cd) : AFn Tryz.prog Γ 46 [.c (.d (.int .i64 kind)), .agg (r.ds.map C.d)] [.fresh 9 1 ((valuesF kind r).map Fc.sD)] := by
  have hl := raw_len2 kind r hr
  have hv : valuesF kind r = Lib.compact (Or.sortS ((rawV kind r).filter fun x => !decide (x = []))) := (values_eq _).symm
  have c := c97 hΓ kind r hr hc
  rw [hv]
  generalize rawV kind r = l at *
  refine AFn.vc [] Tryz.func46 rfl Tryz.mixed (by kernel_rfl) Tryz.ntmps46 Tryz.results46 (by simp) ?_
  push_cast
  refine CallL.own c ?_
  push_cast
  have hf : (l.filter fun x => !decide (x = [])).length ≤ l.length := List.length_filter_le _ _
  have hl2 : (Or.sortS (l.filter fun x => !decide (x = []))).length = (l.filter fun x => !decide (x = [])).length := (List.mergeSort_perm _ _).length_eq
  refine CallL.row2 (Tryz.rowDelete l (by omega)) sD_len rfl ⟨_, Tryz.func90, by kernel_rfl, by kernel_rfl⟩ ?_
  push_cast
  refine CallL.rowIn (Tryz.rowSort (l.filter fun x => !decide (x = [])) (Nat.lt_of_le_of_lt (List.length_filter_le _ _) (by omega))) sD_len rfl ⟨_, Tryz.func99, by kernel_rfl, by kernel_rfl⟩ ?_
  push_cast
  refine CallL.row (Tryz.rowCompact (Or.sortS (l.filter fun x => !decide (x = []))) (by omega)) sD_len rfl ⟨_, Tryz.func100, by kernel_rfl, by kernel_rfl⟩ ?_
  push_cast
end Go.Proofs
