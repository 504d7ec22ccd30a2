/- Part of a proof about this program; no condition of its own. -/
import Derived.Test.YtglonmggpbajgaaDoorGyB
import Derived.Test.YtglonmggpbajgaaDoorGyF
import Derived.Test.YtglonmggpbajgaaDoorGxR
set_option linter.all false
/- Walks of the chapter on statistics: small functions of the statements. -/
namespace Go.Proofs
open Go Go.Ax Go.Sd
set_option maxRecDepth 100000
set_option maxHeartbeats 0
variable {Γ : List (Nat × List D)}
theorem c25 (l : List (Int × Int)) (v : Int) (hl : l.length ≤ 1000000) : AFn Tryd.prog Γ 25 [.c (.d (.lst 2 (l.map pD))), .c (.d (.int .i64 v))] [.d (.int .i64 (numF l v))] := by
  refine AFn.vc [] Tryd.func25 rfl Tryd.mixed (by kernel_rfl) Tryd.ntmps25 Tryd.results25 (by simp) ?_
  push_cast
  refine LoopV.cnt Tryd.mixed [0, 1] l.length (fun k => [(5, .c (.d (.int .i64 k)))]) (fun k => numF l v = numF (l.drop k) v) (by simp) ?_
  intro k hk hinv
  push_cast
  refine ⟨fun h => ?_, fun h => ?_⟩
  · obtain ⟨hlt, hge⟩ : ∃ hlt : k < l.length, True := ⟨by omega, trivial⟩
    rw [hinv, numF_step hlt]
    exact ⟨hlt, fun e => ⟨hlt, by rw [if_pos e]⟩, fun e => ⟨by omega, hlt, by rw [if_neg e]⟩⟩
  · rw [hinv, numF_end (by omega)]
theorem c26 (l : List Ev) (a b : Int) (hl : l.length ≤ 1000000) : AFn Tryd.prog Γ 26 [.c (.d (.lst 7 (l.map Ev.ds))), .c (.d (.int .i64 a)), .c (.d (.int .i64 b))] [.d (.int .i64 (winF l a b))] := by
  refine AFn.vc [] Tryd.func26 rfl Tryd.mixed (by kernel_rfl) Tryd.ntmps26 Tryd.results26 (by simp) ?_
  push_cast
  refine LoopV.cnt Tryd.mixed [0, 1, 2] l.length (fun k => [(7, .c (.d (.int .i64 ((l.take k).countP (isW a b) : Nat)))), (8, .c (.d (.int .i64 k)))]) (fun k => True) trivial ?_ (by push_cast; rfl)
  intro k hk _
  push_cast
  have hc : (l.take k).countP (isW a b) ≤ k := Nat.le_trans List.countP_le_length (by rw [List.length_take]; omega)
  refine ⟨fun h => ?_, fun h => ?_⟩
  · obtain ⟨hlt, hge⟩ : ∃ hlt : k < l.length, True := ⟨by omega, trivial⟩
    rw [cnt_next _ hlt]
    refine ⟨hlt, fun e => ⟨hlt, fun f => ⟨by omega, by omega, hlt, ?_⟩, fun f => ⟨by omega, hlt, ?_⟩⟩, fun e => ⟨by omega, hlt, ?_⟩⟩
    · rw [if_pos (by unfold isW; simp; omega)]; rfl
    · rw [if_neg (by unfold isW; simp; omega)]; simp
    · rw [if_neg (by unfold isW; simp; omega)]; simp
  · unfold winF; rw [cnt_end _ (by omega)]
theorem c15 (a b : List (Int × Int)) (hl : a.length ≤ 1000000) : AFn Tryd.prog Γ 15 [.c (.d (.lst 2 (a.map pD))), .c (.d (.lst 2 (b.map pD)))] [.d (.bool (decide (a = b)))] := by
  refine AFn.vc [] Tryd.func15 rfl Tryd.mixed (by kernel_rfl) Tryd.ntmps15 Tryd.results15 (by simp) ?_
  push_cast
  refine ⟨fun h => (decide_eq_false fun e => h (by rw [e])).symm, fun h => ?_⟩
  have hlen : a.length = b.length := by omega
  refine LoopV.cnt Tryd.mixed [0, 1] a.length (fun k => [(5, .c (.d (.int .i64 k)))]) (fun k => a = b ↔ a.drop k = b.drop k) (by simp) ?_
  intro k hk hinv
  push_cast
  refine ⟨fun h => ?_, fun h => ?_⟩
  · obtain ⟨hlt, hlt2⟩ : ∃ hlt : k < a.length, k < b.length := ⟨by omega, by omega⟩
    rw [eq_step hlt hlt2] at hinv
    refine ⟨hlt, hlt2, fun e => (decide_eq_false fun f => ?_).symm, fun e => ⟨by omega, hlt, ?_⟩⟩
    · rw [(hinv.1 f).1] at e; simp at e
    · rw [hinv]; simp [Prod.ext_iff, e]
  · exact (decide_eq_true (hinv.2 (eq_end (by omega) hlen))).symm
theorem c20 (a b : List Int) (hl : a.length ≤ 1000000) : AFn Tryd.prog Γ 20 [.c (.d (.lst 1 (a.map iD))), .c (.d (.lst 1 (b.map iD)))] [.d (.bool (decide (a = b)))] := by
  refine AFn.vc [] Tryd.func20 rfl Tryd.mixed (by kernel_rfl) Tryd.ntmps20 Tryd.results20 (by simp) ?_
  push_cast
  refine ⟨fun h => (decide_eq_false fun e => h (by rw [e])).symm, fun h => ?_⟩
  have hlen : a.length = b.length := by omega
  refine LoopV.cnt Tryd.mixed [0, 1] a.length (fun k => [(5, .c (.d (.int .i64 k)))]) (fun k => a = b ↔ a.drop k = b.drop k) (by simp) ?_
  intro k hk hinv
  push_cast
  refine ⟨fun h => ?_, fun h => ?_⟩
  · obtain ⟨hlt, hlt2⟩ : ∃ hlt : k < a.length, k < b.length := ⟨by omega, by omega⟩
    rw [eq_step hlt hlt2] at hinv
    refine ⟨hlt, hlt2, fun e => (decide_eq_false fun f => e (hinv.1 f).1).symm, fun e => ⟨by omega, hlt, ?_⟩⟩
    rw [hinv]; simp [e]
  · exact (decide_eq_true (hinv.2 (eq_end (by omega) hlen))).symm
theorem c22 (a b : List (List UInt8)) (hl : a.length ≤ 1000000) : AFn Tryd.prog Γ 22 [.c (.d (.lst 1 (a.map sD))), .c (.d (.lst 1 (b.map sD)))] [.d (.bool (decide (a = b)))] := by
  refine AFn.vc [] Tryd.func22 rfl Tryd.mixed (by kernel_rfl) Tryd.ntmps22 Tryd.results22 (by simp) ?_
  push_cast
  refine ⟨fun h => (decide_eq_false fun e => h (by rw [e])).symm, fun h => ?_⟩
  have hlen : a.length = b.length := by omega
  refine LoopV.cnt Tryd.mixed [0, 1] a.length (fun k => [(5, .c (.d (.int .i64 k)))]) (fun k => a = b ↔ a.drop k = b.drop k) (by simp) ?_
  intro k hk hinv
  push_cast
  refine ⟨fun h => ?_, fun h => ?_⟩
  · obtain ⟨hlt, hlt2⟩ : ∃ hlt : k < a.length, k < b.length := ⟨by omega, by omega⟩
    rw [eq_step hlt hlt2] at hinv
    refine ⟨hlt, hlt2, fun e => (decide_eq_false fun f => e (hinv.1 f).1).symm, fun e => ⟨by omega, hlt, ?_⟩⟩
    rw [hinv]; simp [e]
  · exact (decide_eq_true (hinv.2 (eq_end (by omega) hlen))).symm
theorem tb_eq (t u : Tb) : (t = u) ↔ (t.rows = u.rows ∧ t.cols = u.cols ∧ t.cells = u.cells) := by
  cases t; cases u; simp
theorem c21 (t u : Tb) (hl : t.cells.length ≤ 1000000) : AFn Tryd.prog Γ 21 [.agg (t.ds.map C.d), .agg (u.ds.map C.d)] [.d (.bool (decide (t = u)))] := by
  refine AFn.vc [] Tryd.func21 rfl Tryd.mixed (by kernel_rfl) Tryd.ntmps21 Tryd.results21 (by simp) ?_
  push_cast
  refine ⟨fun h1 => ⟨fun h2 => ?_, fun h2 => ?_⟩, fun h1 => ?_⟩
  · refine CallL.q (c20 t.cells u.cells hl) ?_
    push_cast
    simp [tb_eq, h1, h2]
  · simp [tb_eq, h2]
  · simp [tb_eq, h1]
theorem c50 (l : List Int) (n : Int) (hl : l.length ≤ 1000000) : AFn Tryd.prog Γ 50 [.c (.d (.lst 1 (l.map iD))), .c (.d (.int .i64 n))] [.d (.lst 1 ((putA l n false).map iD))] := by
  refine AFn.vc [] Tryd.func50 rfl Tryd.mixed (by kernel_rfl) Tryd.ntmps50 Tryd.results50 (by simp) ?_
  push_cast
  refine LoopV.nilrow 5 3 1 ?_
  push_cast
  refine LoopV.of Tryd.mixed [0, 1] (S := Nat × List Int × Bool) (fun s => [(5, .c (.own 0 s.2.1.length)), (6, .c (.d (.bool s.2.2))), (7, .c (.d (.int .i64 s.1)))]) (fun s => [.row 3 1 (s.2.1.map iD) s.2.1.length]) (fun s => s.1 ≤ l.length ∧ s.2.1.length ≤ 2 * s.1 ∧ putA l n false = s.2.1 ++ putA (l.drop s.1) n s.2.2) (fun s => l.length - s.1) (0, [], false) (by simp) (by push_cast) ?_
  rintro ⟨k, o, d⟩ ⟨hk, ho, hinv⟩
  simp only at hk ho hinv
  push_cast
  refine ⟨fun h => ?_, fun h => ?_⟩
  · obtain ⟨hlt, _⟩ : ∃ hlt : k < l.length, True := ⟨by omega, trivial⟩
    rw [putA_step hlt] at hinv
    refine ⟨hlt, fun e => ⟨hlt, by omega, by omega, (k + 1, o ++ [l[k]], true), ⟨⟨by show k + 1 ≤ _; omega, by simp <;> omega, ?_⟩, by show l.length - (k + 1) < _; omega⟩, ⟨by simp, rfl, by push_cast⟩, by simp [iD], by simp⟩, fun e => ⟨fun f => ⟨hlt, fun g => ⟨by omega, hlt, by omega, by omega, (k + 1, o ++ [n, l[k]], true), ⟨⟨by show k + 1 ≤ _; omega, by simp <;> omega, ?_⟩, by show l.length - (k + 1) < _; omega⟩, ⟨by simp, rfl, by push_cast⟩, by simp [iD], by simp⟩, fun g => ⟨hlt, by omega, by omega, (k + 1, o ++ [l[k]], d), ⟨⟨by show k + 1 ≤ _; omega, by simp <;> omega, ?_⟩, by show l.length - (k + 1) < _; omega⟩, ⟨by simp, rfl, by push_cast⟩, by simp [iD], by simp⟩⟩, fun f => ⟨hlt, by omega, by omega, (k + 1, o ++ [l[k]], d), ⟨⟨by show k + 1 ≤ _; omega, by simp <;> omega, ?_⟩, by show l.length - (k + 1) < _; omega⟩, ⟨by simp, rfl, by push_cast⟩, by simp [iD], by simp⟩⟩⟩
    · rw [hinv, if_neg (by simp [e])]; simp [e]
    · rw [hinv, if_pos ⟨f, e, g⟩]; simp
    · rw [hinv, if_neg (by omega)]; simp [f, beq_false_of_ne e]
    · rw [hinv, if_neg (by simp [f])]; simp [e, f]
  · rw [putA_end (by omega)] at hinv
    refine ⟨fun f => ⟨by omega, ?_⟩, fun f => ?_⟩
    · rw [hinv, f]; simp [iD]
    · rw [hinv, f]; simp [iD]
end Go.Proofs

/- Walks of the chapter on statistics: the reference's counting. -/
namespace Go.Proofs
open Go Go.Ax Go.Sd
set_option maxRecDepth 100000
set_option maxHeartbeats 0
variable {Γ : List (Nat × List D)}
theorem c37 (l : List Ev) (f t b : Int) (hl : l.length ≤ 1000) : AFn Tryd.prog Γ 37 [.c (.d (.lst 7 (l.map Ev.ds))), .c (.d (.int .i64 f)), .c (.d (.int .i64 t)), .c (.d (.int .i64 b))] [.d (.lst 1 ((valsF l f t b).map iD))] := by
  refine AFn.vc [] Tryd.func37 rfl Tryd.mixed (by kernel_rfl) Tryd.ntmps37 Tryd.results37 (by simp) ?_
  push_cast
  refine LoopV.cnt Tryd.mixed [0, 1, 2, 3] l.length (fun k => [(9, .c (.d (.lst 1 ((valsF (l.take k) f t b).map iD)))), (10, .c (.d (.int .i64 k)))]) (fun k => True) trivial ?_ (by push_cast; exact valsF_nil f t b)
  intro k hk _
  push_cast
  have hv : (valsF (l.take k) f t b).length ≤ 1000 := Nat.le_trans (valsF_le _ f t b) (by rw [List.length_take]; omega)
  refine ⟨fun h => ?_, fun h => by rw [List.take_of_length_le (by omega)]⟩
  obtain ⟨hlt, _⟩ : ∃ hlt : k < l.length, True := ⟨by omega, trivial⟩
  rw [valsF_next hlt]
  refine ⟨fun b1 => ⟨fun b2 => ⟨hlt, fun d1 => ⟨hlt, fun d2 => ⟨hlt, ?_⟩, fun d2 => ⟨by omega, hlt, by rw [if_neg (by omega)]⟩⟩, fun d1 => ⟨by omega, hlt, by rw [if_neg (by omega)]⟩⟩, fun b2 => ⟨by omega, hlt, by rw [if_neg (by omega)]⟩⟩, fun b1 => ⟨by omega, hlt, by rw [if_neg (by omega)]⟩⟩
  refine CallL.q (c14 l[k] b) ?_
  push_cast
  refine CallL.q (c50 (valsF (l.take k) f t b) (keyF l[k] b) (by omega)) ?_
  push_cast
  exact ⟨by omega, hlt, by rw [if_pos ⟨b1, b2, d1, d2⟩]⟩
end Go.Proofs

/- Walks of the chapter on statistics: the reference's tally. -/
namespace Go.Proofs
open Go Go.Ax Go.Sd
set_option maxRecDepth 100000
set_option maxHeartbeats 0
variable {Γ : List (Nat × List D)}
theorem c17 (l : List Ev) (f t b : Int) (hl : l.length ≤ 1000) : AFn Tryd.prog Γ 17 [.c (.d (.lst 7 (l.map Ev.ds))), .c (.d (.int .i64 f)), .c (.d (.int .i64 t)), .c (.d (.int .i64 b))] [.d (.lst 2 ((tallyF l f t b).map pD))] := by
  refine AFn.vc [] Tryd.func17 rfl Tryd.mixed (by kernel_rfl) Tryd.ntmps17 Tryd.results17 (by simp) ?_
  have hv : (valsF l f t b).length ≤ 1000 := Nat.le_trans (valsF_le _ f t b) (by omega)
  push_cast
  refine CallL.q (c37 l f t b hl) ?_
  push_cast
  refine LoopV.nilrow 9 45 2 ?_
  push_cast
  refine LoopV.cntH Tryd.mixed [0, 1, 2, 3, 10] (valsF l f t b).length (fun k => [(9, .c (.own 0 k)), (11, .c (.d (.int .i64 k)))]) (fun k => [.row 45 2 (((tallyF l f t b).take k).map pD) k]) (fun _ => True) trivial ?_ (by push_cast)
  intro k hk _
  push_cast
  refine ⟨fun h => ?_, fun h => ?_⟩
  · have hlv : k < (valsF l f t b).length := by omega
    refine LoopV.cnt Tryd.mixed [0, 1, 2, 3, 9, 10, 11] l.length (fun j => [(12, .c (.d (.int .i64 ((l.take j).countP (fun x => isW f t x && keyF x b == (valsF l f t b)[k]) : Nat)))), (13, .c (.d (.int .i64 j)))]) (fun k => True) trivial ?_ (by push_cast; rfl)
    intro j hj _
    push_cast
    have hc : (l.take j).countP (fun x => isW f t x && keyF x b == (valsF l f t b)[k]) ≤ j := Nat.le_trans List.countP_le_length (by rw [List.length_take]; omega)
    refine ⟨fun h => ?_, fun h => ?_⟩
    · have hlt : j < l.length := by omega
      refine ⟨hlt, fun d1 => ⟨hlt, fun d2 => ⟨hlt, ?_⟩, fun d2 => ⟨by omega, hlt, ?_⟩⟩, fun d1 => ⟨by omega, hlt, ?_⟩⟩
      · refine CallX.q (c14 l[j] b) ?_
        push_cast
        have hw : isW f t l[j] = true := by simp [isW]; omega
        refine ⟨hlv, fun e => ⟨by omega, by omega, hlt, ?_⟩, fun e => ⟨by omega, hlt, ?_⟩⟩
        · rw [cnt_next _ hlt, if_pos (by simp [hw, e])]; rfl
        · rw [cnt_next _ hlt, if_neg (by simp [e])]; simp
      · rw [cnt_next _ hlt, if_neg (by simp [isW]; omega)]; simp
      · rw [cnt_next _ hlt, if_neg (by simp [isW]; omega)]; simp
    · rw [cnt_end _ (by omega), tally_next hlv]
      have hm : min k (tallyF l f t b).length ≤ k := Nat.min_le_left _ _
      refine ⟨hlv, by omega, by omega, hlv, ?_⟩
      rw [List.map_append]; rfl
  · rw [tally_end (by omega)]
end Go.Proofs

/- Walks of the chapter on statistics: the reference's table. -/
namespace Go.Proofs
open Go Go.Ax Go.Sd
set_option maxRecDepth 100000
set_option maxHeartbeats 0
variable {Γ : List (Nat × List D)}
theorem c19 (l : List Ev) (f t b w : Int) (hl : l.length ≤ 1000) : AFn Tryd.prog Γ 19 [.c (.d (.lst 7 (l.map Ev.ds))), .c (.d (.int .i64 f)), .c (.d (.int .i64 t)), .c (.d (.int .i64 b)), .c (.d (.int .i64 w))] [.d (.lst 1 ((crossF l f t b w).1.map iD)), .d (.lst 1 ((crossF l f t b w).2.1.map iD)), .agg (crossF l f t b w).2.2.ds] := by
  refine AFn.vc [] Tryd.func19 rfl Tryd.mixed (by kernel_rfl) Tryd.ntmps19 Tryd.results19 (by simp) ?_
  have hv : (valsF l f t b).length ≤ 1000 := Nat.le_trans (valsF_le _ f t b) (by omega)
  have hw : (valsF l f t w).length ≤ 1000 := Nat.le_trans (valsF_le _ f t w) (by omega)
  push_cast
  refine CallL.q (c37 l f t b hl) ?_
  push_cast
  refine CallL.q (c37 l f t w hl) ?_
  push_cast
  refine ⟨fun h1 => ⟨fun h2 => ⟨⟨?_, ?_⟩, fun h3 => ?_, fun h3 => ?_⟩, fun h2 => ?_⟩, fun h1 => ?_⟩
  · have := Int.mul_nonneg (a := ((valsF l f t b).length : Int)) (b := ((valsF l f t w).length : Int)) (by omega) (by omega)
    omega
  · have := Nat.mul_le_mul hv hw
    have : ((valsF l f t b).length * (valsF l f t w).length : Nat) ≤ (1000000 : Int) := by omega
    rw [Int.natCast_mul] at this
    omega
  · have e : 64 < (valsF l f t b).length * (valsF l f t w).length := by rw [← Int.natCast_mul] at h3; omega
    rw [crossF, if_pos (.inr (.inr e))]; simp
  · refine LoopV.nilbox 1 2 3 1 35 [.d (.int .i64 (valsF l f t b).length), .d (.int .i64 (valsF l f t w).length), .d (.raw (.slice none 0 0))] ?_
    push_cast
    have hx : crossF l f t b w = (valsF l f t b, valsF l f t w, ⟨(valsF l f t b).length, (valsF l f t w).length, cellsF l f t b w (valsF l f t b) (valsF l f t w)⟩) := by
      rw [crossF, if_neg]
      rw [← Int.natCast_mul] at h3
      omega
    rw [hx]
    clear hx
    generalize valsF l f t b = rows at *
    generalize valsF l f t w = cols at *
    push_cast
    refine LoopV.cntH Tryd.mixed [0, 1, 2, 3, 4, 12, 13, 14, 15] rows.length (fun i => [(16, .c (.d (.int .i64 i)))]) (fun i => [.box 35 [.d (.int .i64 0), .d (.int .i64 0), .d (.raw (.slice none 0 0))], .box 35 [.d (.int .i64 rows.length), .d (.int .i64 cols.length), .own 2 (cellsK l f t b w rows cols i 0).length], .row 3 1 ((cellsK l f t b w rows cols i 0).map iD) (cellsK l f t b w rows cols i 0).length]) (fun _ => True) trivial ?_ (by push_cast [cellsK_0])
    intro i hi _
    push_cast
    refine ⟨fun h4 => ?_, fun h4 => ?_⟩
    · have hi' : i < rows.length := by omega
      refine LoopV.cntH Tryd.mixed [0, 1, 2, 3, 4, 12, 13, 14, 15, 16] cols.length (fun j => [(17, .c (.d (.int .i64 j)))]) (fun j => [.box 35 [.d (.int .i64 0), .d (.int .i64 0), .d (.raw (.slice none 0 0))], .box 35 [.d (.int .i64 rows.length), .d (.int .i64 cols.length), .own 2 (cellsK l f t b w rows cols i j).length], .row 3 1 ((cellsK l f t b w rows cols i j).map iD) (cellsK l f t b w rows cols i j).length]) (fun _ => True) trivial ?_ (by push_cast)
      intro j hj _
      have hlen := cellsK_len (l := l) (f := f) (t := t) (b := b) (w := w) hi hj
      have hle : (i + 1) * cols.length ≤ 1001 * 1000 := Nat.mul_le_mul (by omega) hw
      push_cast
      refine ⟨fun h5 => ?_, fun h5 => ?_⟩
      · have hj' : j < cols.length := by omega
        refine LoopV.cnt Tryd.mixed [0, 1, 2, 3, 4, 12, 13, 14, 15, 16, 17] l.length (fun k => [(18, .c (.d (.int .i64 ((l.take k).countP (fun x => isW f t x && keyF x b == rows[i] && keyF x w == cols[j]) : Nat)))), (19, .c (.d (.int .i64 k)))]) (fun _ => True) trivial ?_ (by push_cast; rfl)
        intro k hk _
        have hc : (l.take k).countP (fun x => isW f t x && keyF x b == rows[i] && keyF x w == cols[j]) ≤ k := Nat.le_trans List.countP_le_length (by rw [List.length_take]; omega)
        push_cast
        refine ⟨fun h6 => ?_, fun h6 => ?_⟩
        · have hlt : k < l.length := by omega
          refine ⟨hlt, fun d1 => ⟨hlt, fun d2 => ⟨hlt, ?_⟩, fun d2 => ⟨by omega, hlt, ?_⟩⟩, fun d1 => ⟨by omega, hlt, ?_⟩⟩
          · refine CallX.q (c14 l[k] b) ?_
            push_cast
            have hw' : isW f t l[k] = true := by simp [isW]; omega
            refine ⟨hi', fun e => ⟨hlt, ?_⟩, fun e => ⟨by omega, hlt, ?_⟩⟩
            · refine CallX.q (c14 l[k] w) ?_
              push_cast
              refine ⟨hj', fun e2 => ⟨by omega, by omega, hlt, ?_⟩, fun e2 => ⟨by omega, hlt, ?_⟩⟩
              · rw [cnt_next _ hlt, if_pos (by simp [hw', e, e2])]; rfl
              · rw [cnt_next _ hlt, if_neg (by simp [hw', e, e2])]; simp
            · rw [cnt_next _ hlt, if_neg (by simp [hw', e])]; simp
          · rw [cnt_next _ hlt, if_neg (by simp [isW]; omega)]; simp
          · rw [cnt_next _ hlt, if_neg (by simp [isW]; omega)]; simp
        · rw [cnt_end _ (by omega), cellsK_next hi' hj']
          exact ⟨by omega, by omega, hj', by simp, by rw [List.map_append]; rfl, by simp⟩
      · obtain rfl : j = cols.length := by omega
        rw [cellsK_row hi']
        exact ⟨by omega, hi', rfl, rfl, rfl⟩
    · rw [cellsK_end (by omega)]
  · rw [crossF, if_pos (.inr (.inl (by omega)))]; simp
  · rw [crossF, if_pos (.inl (by omega))]; simp
end Go.Proofs
