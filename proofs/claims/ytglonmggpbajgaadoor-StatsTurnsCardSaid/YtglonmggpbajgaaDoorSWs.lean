/- Part of a proof about this program; no condition of its own. -/
import Derived.Test.YtglonmggpbajgaaDoorSWr
set_option linter.all false
/- Walks of the chapter on statistics: the statement on sums of rows and columns. -/

namespace Go.Proofs
open Go Go.Ax Go.Sd
set_option maxRecDepth 100000
set_option maxHeartbeats 0
theorem c8 (l : List Ev) (f t b w : Int) (hok : ∀ x ∈ l, x.ok) : AFn Tryd.prog Γ0 8 [.c (.d (.lst 7 (l.map Ev.ds))), .c (.d (.int .i64 f)), .c (.d (.int .i64 t)), .c (.d (.int .i64 b)), .c (.d (.int .i64 w))] [.d (.bool true)] := by
  refine AFn.vc [] Tryd.func8 rfl Tryd.mixed (by kernel_rfl) Tryd.ntmps8 Tryd.results8 (by simp) ?_
  push_cast
  refine CallL.q c10 ?_
  push_cast
  intro h1
  have h18 := c18 (Γ := Γ0) l f t b w (by omega) hok
  rw [cross_eq] at h18
  have hl1 := valsF_le l f t b
  have hl2 := valsF_le l f t w
  have hcl := cells_length (cnt2F l f t b w) (valsF l f t w) (valsF l f t b)
  have hcg := cells_get (cnt2F l f t b w) (valsF l f t w) (valsF l f t b)
  by_cases hz : (valsF l f t b).length = 0 ∨ (valsF l f t w).length = 0 ∨ 64 < (valsF l f t b).length * (valsF l f t w).length
  · rw [crossF, if_pos hz] at h18
    refine CallL.q h18 ?_
    push_cast
  · rw [crossF, if_neg hz] at h18
    simp only [cellsF] at h18
    generalize hC : ((valsF l f t b).flatMap fun u => (valsF l f t w).map (cnt2F l f t b w u)) = cells at *
    have hb : inB b = true := by cases h : inB b with | true => rfl | false => exact absurd (.inl (by unfold valsF; rw [h]; rfl)) hz
    have hw : inB w = true := by cases h : inB w with | true => rfl | false => exact absurd (.inr (.inl (by unfold valsF; rw [h]; rfl))) hz
    have hrow := fun u => row_sum (l := l) (f := f) (t := t) b u hw
    have hcol := fun v => col_sum (l := l) (f := f) (t := t) w v hb
    have hxl := vals_len l f t b
    have hyl := vals_len l f t w
    have hnn : ∀ u v, 0 ≤ cnt2F l f t b w u v := fun u v => by unfold cnt2F; omega
    have hcle : ∀ b v, cntF l f t b v ≤ l.length := fun b v => by
      unfold cntF
      have := List.countP_le_length (p := fun x => isW f t x && keyF x b == v) (l := l)
      omega
    refine CallL.q h18 ?_
    have e1 : (((valsF l f t b).length : Int) = 0) = False := eq_false fun e => hz (.inl (by omega))
    have e2 : (((valsF l f t w).length : Int) = 0) = False := eq_false fun e => hz (.inr (.inl (by omega)))
    have hm : (valsF l f t b).length * (valsF l f t w).length ≤ 64 := by omega
    have e3 : ((cells.length : Int) = ((valsF l f t b).length : Int) * (valsF l f t w).length) = True := eq_true (by rw [← Int.natCast_mul]; omega)
    have e4 : (((tallyF l f t b).length : Int) = (valsF l f t b).length) = True := eq_true (by omega)
    have e5 : (((tallyF l f t w).length : Int) = (valsF l f t w).length) = True := eq_true (by omega)
    push_cast [e1, e2]
    refine CallL.q (c16 l f t b (by omega) hok) ?_
    push_cast
    refine CallL.q (c16 l f t w (by omega) hok) ?_
    rw [tally_eq, tally_eq]
    push_cast [e3, e4, e5]
    have hTb : ∀ i (h : i < (tallyF l f t b).length) (h' : i < (valsF l f t b).length), (tallyF l f t b)[i] = ((valsF l f t b)[i], cntF l f t b (valsF l f t b)[i]) := fun i h h' => by simp [tallyF]
    have hTw : ∀ i (h : i < (tallyF l f t w).length) (h' : i < (valsF l f t w).length), (tallyF l f t w)[i] = ((valsF l f t w)[i], cntF l f t w (valsF l f t w)[i]) := fun i h h' => by simp [tallyF]
    generalize tallyF l f t b = X at *
    generalize tallyF l f t w = Y at *
    generalize valsF l f t b = R at *
    generalize valsF l f t w = C at *
    generalize cnt2F l f t b w = g at *
    refine ⟨by rw [← Int.natCast_mul]; omega, ?_⟩
    have hidx : ∀ i j : Nat, ((i : Int) * C.length + j).toNat = i * C.length + j := fun i j => by rw [← Int.natCast_mul]; omega
    have hbd : ∀ i j : Nat, i < R.length → j < C.length → i * C.length + j < cells.length := fun i j h1 h2 => by
      have h := Nat.mul_le_mul_right C.length h1
      rw [Nat.succ_mul] at h
      omega
    refine LoopV.cnt Tryd.mixed [11, 12, 13, 14, 15] R.length (fun i => [(16, .c (.d (.int .i64 i)))]) (fun _ => True) trivial ?_ (by push_cast)
    intro i hi _
    push_cast
    refine ⟨fun h6 => ?_, fun h6 => ?_⟩
    · have h7 : i < R.length := by omega
      have hsi := fun j => sum_take_le (C.map (g R[i])) j fun x hx => by obtain ⟨v, _, rfl⟩ := List.mem_map.1 hx; exact hnn _ _
      have hri := hrow R[i]
      have hci := hcle b R[i]
      refine LoopV.cnt Tryd.mixed [11, 12, 13, 14, 15, 16] C.length (fun j => [(17, .c (.d (.int .i64 ((C.map (g R[i])).take j).sum))), (18, .c (.d (.int .i64 j)))]) (fun _ => True) trivial ?_ (by push_cast; rfl)
      intro j hj _
      push_cast
      simp only [hidx]
      refine ⟨fun h8 => ?_, fun h8 => ?_⟩
      · have h9 : j < C.length := by omega
        have hx := hbd i j h7 h9
        have hget : cells[i * C.length + j] = g R[i] C[j] := by
          have h := hcg i j h7 h9
          rw [List.getElem?_eq_getElem hx] at h
          exact Option.some.inj h
        have hn := sum_take_next (xs := C.map (g R[i])) (k := j) (by rw [List.length_map]; exact h9)
        rw [List.getElem_map] at hn
        have hs0 := hsi j
        have hs1 := hsi (j + 1)
        have hb0 : 0 ≤ (i : Int) * C.length ∧ (i : Int) * C.length + j < cells.length := by rw [← Int.natCast_mul]; omega
        simp only [hget]
        exact ⟨by omega, by omega, by omega, hx, by omega, by omega, h9, hn⟩
      · obtain rfl : j = C.length := by omega
        rw [List.take_of_length_le (by rw [List.length_map]; exact Nat.le_refl _), hri]
        have hxi : i < X.length := by omega
        simp only [hTb i hxi h7]
        exact ⟨hxi, h7, fun _ => ⟨hxi, fun e => e trivial, fun _ => ⟨by omega, h7⟩⟩, fun e => e trivial⟩
    · refine LoopV.cnt Tryd.mixed [11, 12, 13, 15] C.length (fun j => [(19, .c (.d (.int .i64 j)))]) (fun _ => True) trivial ?_ (by push_cast)
      intro j hj _
      push_cast
      intro h6
      have h7 : j < C.length := by omega
      have hsi := fun i => sum_take_le (R.map fun u => g u C[j]) i fun x hx => by obtain ⟨v, _, rfl⟩ := List.mem_map.1 hx; exact hnn _ _
      have hri := hcol C[j]
      have hci := hcle w C[j]
      refine LoopV.cnt Tryd.mixed [11, 12, 13, 15, 19] R.length (fun i => [(20, .c (.d (.int .i64 ((R.map fun u => g u C[j]).take i).sum))), (21, .c (.d (.int .i64 i)))]) (fun _ => True) trivial ?_ (by push_cast; rfl)
      intro i hi _
      push_cast
      simp only [hidx]
      refine ⟨fun h8 => ?_, fun h8 => ?_⟩
      · have h9 : i < R.length := by omega
        have hx := hbd i j h9 h7
        have hget : cells[i * C.length + j] = g R[i] C[j] := by
          have h := hcg i j h9 h7
          rw [List.getElem?_eq_getElem hx] at h
          exact Option.some.inj h
        have hn := sum_take_next (xs := R.map fun u => g u C[j]) (k := i) (by rw [List.length_map]; exact h9)
        rw [List.getElem_map] at hn
        have hs0 := hsi i
        have hs1 := hsi (i + 1)
        have hb0 : 0 ≤ (i : Int) * C.length ∧ (i : Int) * C.length + j < cells.length := by rw [← Int.natCast_mul]; omega
        simp only [hget]
        exact ⟨by omega, by omega, by omega, hx, by omega, by omega, h9, hn⟩
      · obtain rfl : i = R.length := by omega
        rw [List.take_of_length_le (by rw [List.length_map]; exact Nat.le_refl _), hri]
        have hxj : j < Y.length := by omega
        simp only [hTw j hxj h7]
        exact ⟨hxj, h7, fun _ => ⟨hxj, fun e => e trivial, fun _ => ⟨by omega, h7⟩⟩, fun e => e trivial⟩
end Go.Proofs
