/- Part of a proof about this program; no condition of its own. -/
import Derived.Test.YtanbfhnmklhjiaaGreatDoorZRk
import Derived.Test.YtanbfhnmklhjiaaGreatDoorZLayB
import Derived.Test.YtanbfhnmklhjiaaGreatDoorZWk
import Derived.Test.YtanbfhnmklhjiaaGreatDoorGzH
import Derived.Test.YtanbfhnmklhjiaaGreatDoorGxR
import Derived.Shelf.SlSortCmp.NoneTotal
set_option linter.all false
/- slices.SortFunc on buckets, by their values. No condition. -/
namespace Go.Proofs
open Go Go.Ax Go.Tx Go.Lib Go.Shelf Go.RowKit Go.Fc Go.Sort
def encBk (b : Bk) : List Value := [encStr b.val, .int .i64 b.cnt]
theorem bks_xs {V : Vw} : ∀ {l : List Bk} {xs : List Value}, All2 (Dr V) (l.map Bk.ds).flatten xs → xs = (l.map encBk).flatten
  | [], xs, h => by cases h; rfl
  | b :: l, xs, h => by
    rw [List.map_cons, List.flatten_cons, Fc.Bk.ds] at h
    cases h with
    | cons h1 h2 =>
      cases h2 with
      | cons h2 h3 => rw [dr_str h1, dr_int h2, bks_xs h3]; rfl
theorem bks_dr (V : Vw) : ∀ l : List Bk, All2 (Dr V) (l.map Bk.ds).flatten (l.map encBk).flatten
  | [] => .nil
  | b :: l => .cons (.str _) (.cons (.int _ _) (bks_dr V l))
theorem cmp_lt : ∀ (a b : Str), decide (Lib.compareBytes a b < 0) = Or.ltS a b
  | [], [] => by simp [Lib.compareBytes, Or.ltS, Op.bytesLess]
  | [], _ :: _ => by simp [Lib.compareBytes, Or.ltS, Op.bytesLess]
  | _ :: _, [] => by simp [Lib.compareBytes, Or.ltS, Op.bytesLess]
  | a :: r, b :: t => by
    have ih := cmp_lt r t
    unfold Or.ltS at *
    unfold Lib.compareBytes Op.bytesLess
    by_cases h1 : a < b
    · simp [h1]
    · by_cases h2 : b < a
      · have h3 : ¬ a = b := fun e => by subst e; exact h1 h2
        simp [h1, h2, h3]
      · have h3 : a = b := UInt8.le_antisymm (UInt8.not_lt.1 h2) (UInt8.not_lt.1 h1)
        subst h3
        simp only [if_neg h1]
        rw [ih]
        simp [h1]
def ltV (x y : Bk) : Bool := ltOf (fun x y : Bk => Lib.compareBytes x.val y.val) x y
theorem ltV_eq (x y : Bk) : ltOf (fun x y : Bk => Lib.compareBytes x.val y.val) x y = Or.ltS x.val y.val := by
  unfold ltOf
  exact cmp_lt _ _
theorem swoV : SWO (ltOf fun x y : Bk => Lib.compareBytes x.val y.val) where
  irrefl x := by rw [ltV_eq]; exact Or.sto_S.irr _
  trans x y z h1 h2 := by rw [ltV_eq] at *; exact Or.sto_S.tr _ _ _ h1 h2
  ntrans x y z h1 h2 := by rw [ltV_eq] at *; exact Or.sto_S.ntr _ _ _ h1 h2
theorem closure107 (x y : Bk) (W : World) : Calls Tryz.prog 107 (#[.agg (encBk x).toArray, .agg (encBk y).toArray] ++ #[]) W fun e w' => e = .returned (.int .i64 (Lib.compareBytes x.val y.val)) ∧ ∃ q os', w' = grow (W.drewN q) os' := by
  have hC := fun W => Tryz.strings_Compare ⟨x.val.toArray⟩ ⟨y.val.toArray⟩ W
  show Calls Tryz.prog 107 #[.agg #[encStr x.val, .int .i64 x.cnt], .agg #[encStr y.val, .int .i64 y.cnt]] W _
  go_enter Tryz.func107, Tryz.ntmps107
  go_wp2_with (go_at_call 108; refine (hC _).mono ?_; rintro e w' ⟨rfl, rfl⟩)
  all_goals go_ret
  exact ⟨rfl, 0, _, by rw [alloc_eq_grow, alloc_eq_grow, grow_grow]; rfl⟩
theorem Tryz.rowSortBk (l s : List Bk) (hl : l.length < 4611686018427387904) (hs : ∀ l' : List Bk, l'.Perm l → l'.Pairwise (fun x y => Or.ltS y.val x.val = false) → l' = s) : RowOp2 Tryz.prog 106 107 79 2 (l.map Bk.ds) (s.map Bk.ds) false := by
  have eg : ∀ args w, (callFunc 107 args).run Tryz.prog w = .ok (.enter 107 args) w := fun args w => run_callFunc ⟨⟨_, Tryz.func107, by kernel_rfl, by kernel_rfl⟩⟩ args w
  refine RowOp2.sort encBk Bk.ds (fun _ => rfl) (fun _ => rfl) (by omega) (ltOf fun x y : Bk => Lib.compareBytes x.val y.val) l s (fun V xs h => bks_xs h) (fun V => bks_dr V s) (fun l' h1 h2 => hs l' h1 (h2.imp fun h => by rwa [ltV_eq] at h)) hl ?_ ?_
  · intro p cap fv w
    exact AnyF.slices_SortFunc_none Tryz.sortBk p cap fv w
  · intro blk cap d w h1 h2 h3
    exact AnyQ.slices_SortFunc Tryz.sortBk 2 Tryz.isAgg79 Tryz.sizeOf79 encBk (fun _ => rfl) (fun x v hv => by simp [encBk] at hv; rcases hv with rfl | rfl <;> rfl) (fun x y : Bk => Lib.compareBytes x.val y.val) swoV 107 #[] blk 0 cap d w eg (fun _ _ _ _ x y => closure107 x y _) h1 h2 h3
end Go.Proofs
