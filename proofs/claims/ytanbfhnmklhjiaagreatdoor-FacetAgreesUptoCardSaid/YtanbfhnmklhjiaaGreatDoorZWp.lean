/- Part of a proof about this program; no condition of its own. -/
import Derived.Test.YtanbfhnmklhjiaaGreatDoorZWo
set_option linter.all false
/- The stable sort of few buckets; Top. No condition. -/
namespace Go.Fc
open Go Go.Ax Go.Or Go.Tx
def sortT (l : List Bk) : List Bk := l.mergeSort fun x y => !ltT y x
def topF (l : List Bk) (n : Int) : List Bk := (sortT l).take (max (min n l.length) 0).toNat
end Go.Fc
namespace Go.Proofs
open Go Go.Ax Go.Tx Go.Lib Go.Shelf Go.RowKit Go.Fc
set_option maxRecDepth 100000
set_option maxHeartbeats 0
variable {Γ : List (Nat × List D)}
theorem c163s (cf : Bk → Bk → Int) (d : Array Bk) (hd : d.size < 20) : RFn Tryz.prog Γ 163 79 2 (d.toList.map Bk.ds) ((Sort.insertionSort (fun x y => decide (cf x y < 0)) d 0 d.size).toList.map Bk.ds) [.c (.d (.int .i64 d.size)), .c (.fn (FnSpec Tryz.prog Γ (cmpBk cf)))] [] := by
  refine RFn.vc [] Tryz.func163 rfl Tryz.mixed (by kernel_rfl) Tryz.ntmps163 Tryz.results163 (by simp) bk_len (bks_scal _) rfl bk_len ?_
  push_cast
  refine LoopV.of Tryz.mixed [0, 1, 2, 6] (S := Unit) (fun _ => [(7, .c (.d (.int .i64 0))), (8, .c (.d (.int .i64 20)))]) (fun _ => [.row 79 2 (d.toList.map Bk.ds) 0]) (fun _ => True) (fun _ => 0) () trivial (by push_cast) ?_
  rintro _ _
  push_cast
  refine ⟨fun h => by omega, fun _ => ?_⟩
  refine CallL.rfn (j := 0) (ver := 0) (c229 cf d 0 d.size (Nat.zero_le _) (Nat.le_refl _) (by omega)) ?_
  push_cast
  generalize Sort.insertionSort (fun x y => decide (cf x y < 0)) d 0 d.size = R
  refine LoopV.of Tryz.mixed [0, 1, 2] (S := Unit) (fun _ => [(6, .c (.d (.int .i64 20)))]) (fun _ => [.row 79 2 (R.toList.map Bk.ds) 0]) (fun _ => True) (fun _ => 0) () trivial (by push_cast) ?_
  rintro _ _
  push_cast
  exact fun h => by omega
theorem c115s (cf : Bk → Bk → Int) (d : Array Bk) (hd : d.size < 20) : RFn Tryz.prog Γ 115 79 2 (d.toList.map Bk.ds) ((Sort.insertionSort (fun x y => decide (cf x y < 0)) d 0 d.size).toList.map Bk.ds) [.c (.fn (FnSpec Tryz.prog Γ (cmpBk cf)))] [] := by
  refine RFn.vc [] Tryz.func115 rfl Tryz.mixed (by kernel_rfl) Tryz.ntmps115 Tryz.results115 (by simp) bk_len (bks_scal _) rfl bk_len ?_
  push_cast
  refine CallL.rfn (j := 0) (ver := 0) (c163s cf d hd) ?_
  push_cast
theorem c114 (l : List Bk) (hl : l.length ≤ 1000000) : AFn Tryz.prog Γ 114 [.c (.bor 2 (l.map Bk.ds))] [.fresh 79 2 (l.map Bk.ds)] := by
  refine AFn.vc [] Tryz.func114 rfl Tryz.mixed (by kernel_rfl) Tryz.ntmps114 Tryz.results114 (by simp) ?_
  push_cast
  exact ⟨fun _ => ⟨by omega, by omega⟩, fun h b => ⟨fun _ => h, fun _ => ⟨by omega, by omega⟩⟩⟩
theorem ins_sort (l : List Bk) : (Sort.insertionSort (fun x y => decide (cfT x y < 0)) l.toArray 0 l.toArray.size).toList = sortT l := by
  obtain ⟨h1, h2⟩ := Sort.insertionSort_holds (lt := ltT) swoT l.toArray 0 l.toArray.size (Nat.zero_le _) (Nat.le_refl _)
  have h3 := Sort.sorted_unique_holds (lt := ltT) swoT (fun x y a b => sto_T.tri x y a b) l.toArray _ h1 h2
  unfold sortT
  exact h3
theorem c55s (l : List Bk) (n : Int) (hl : l.length < 20) : AFn Tryz.prog Γ 55 [.c (.d (.lst 2 (l.map Bk.ds))), .c (.d (.int .i64 n))] [.d (.lst 2 ((topF l n).map Bk.ds))] := by
  have hs := c115s (Γ := Γ) cfT l.toArray (by simpa using hl)
  rw [ins_sort] at hs
  have hsl : (sortT l).length = l.length := (List.mergeSort_perm _ _).length_eq
  unfold topF
  generalize sortT l = s at *
  refine AFn.vc [] Tryz.func55 rfl Tryz.mixed (by kernel_rfl) Tryz.ntmps55 Tryz.results55 (by simp) ?_
  push_cast
  refine CallL.own (c114 l (by omega)) ?_
  push_cast
  refine CallL.rfn (j := 0) (ver := 0) hs ?_ (ha := .cons (ArgR.clo0 (Γ := Γ) (F := cmpBk cfT) (c116 (Γ := []) ⟨[], 0⟩ ⟨[], 0⟩).call (fun a r h => by obtain ⟨x, y, rfl, rfl⟩ := h; exact c116 x y)) .nil)
  push_cast
  rw [show imax (imin n (s.length : Int)) 0 = max (min n l.length) 0 by rw [hsl]; unfold imax imin; omega]
  exact ⟨by omega, by omega, by omega, by rw [List.map_take]⟩
end Go.Proofs
