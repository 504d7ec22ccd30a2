/- Part of a proof about this program; no condition of its own. -/
import Derived.Test.YtglonmggpbajgaaDoorSWq
import Derived.Test.YtglonmggpbajgaaDoorSDg
import Derived.Test.YtglonmggpbajgaaDoorGxR
set_option linter.all false
/- Walks of the chapter on statistics: the statement on sums. -/
namespace Go.Proofs
open Go Go.Ax Go.Sd
set_option maxRecDepth 100000
set_option maxHeartbeats 0
theorem c7 (l : List Ev) (f m t b : Int) (hok : ∀ x ∈ l, x.ok) (ht : t ≤ 9223372036854775807) (hf : -9223372036854775808 ≤ f) : AFn Tryd.prog Γ0 7 [.c (.d (.lst 7 (l.map Ev.ds))), .c (.d (.int .i64 f)), .c (.d (.int .i64 m)), .c (.d (.int .i64 t)), .c (.d (.int .i64 b))] [.d (.bool true)] := by
  refine AFn.vc [] Tryd.func7 rfl Tryd.mixed (by kernel_rfl) Tryd.ntmps7 Tryd.results7 (by simp) ?_
  push_cast
  refine CallL.q c10 ?_
  push_cast
  intro h1 h2 h3 h4 h5
  have hb : inB b = true := by unfold inB inR; simp; omega
  obtain ⟨v1, v2⟩ := valsF_spec l f t b hb
  have hlen := valsF_le l f t b
  have hwin := winF_le l f t
  have hsum := tally_sum (l := l) (f := f) (t := t) hb
  have hkn := fun i => sum_take_le ((valsF l f t b).map (cntF l f t b)) i (fun x hx => by obtain ⟨v, _, rfl⟩ := List.mem_map.1 hx; exact cntF_nn ..)
  refine CallL.q (c16 l f t b (by omega) hok) ?_
  push_cast
  refine CallL.q (c16 l f m b (by omega) hok) ?_
  push_cast
  refine ⟨by omega, ?_⟩
  refine CallL.q (c16 l (m + 1) t b (by omega) hok) ?_
  push_cast
  rw [tally_eq, tally_eq, tally_eq]
  refine LoopV.cnt Tryd.mixed [0, 1, 3, 4, 11, 12, 13] (valsF l f t b).length (fun k => [(14, .c (.d (.int .i64 (((valsF l f t b).map (cntF l f t b)).take k).sum))), (15, .c (.d (.int .i64 k)))]) (fun _ => True) trivial ?_ (by push_cast; rfl)
  intro k hk _
  push_cast
  have hTl := vals_len l f t b
  have hTg : ∀ (h : k < (tallyF l f t b).length), (tallyF l f t b)[k] = ((valsF l f t b)[k]'(by omega), cntF l f t b ((valsF l f t b)[k]'(by omega))) := fun h => by simp [tallyF]
  refine ⟨fun h6 => ?_, fun h6 => ?_⟩
  · have h7 : k < (tallyF l f t b).length := by omega
    have h8 : k < (valsF l f t b).length := by omega
    have hg := hTg h7
    have hpos := cntF_pos hb (List.getElem_mem h8)
    have hn := sum_take_next (xs := (valsF l f t b).map (cntF l f t b)) (k := k) (by rw [List.length_map]; exact h8)
    rw [List.getElem_map] at hn
    have hs := hkn (k + 1)
    have hs0 := hkn k
    simp only [hg]
    refine ⟨h7, by omega, h7, fun h9 => ?_, fun h9 => by omega⟩
    have hkk : ((k : Int) - 1).toNat = k - 1 := by omega
    have hla := vals_len l f m b
    have hlb := vals_len l (m + 1) t b
    have hl1 := valsF_le l f m b
    have hl2 := valsF_le l (m + 1) t b
    have hsp := cntF_split l b (valsF l f t b)[k] h4 h5
    have hn1 := numF_tally (l := l) (f := f) (t := m) hb (valsF l f t b)[k]
    have hn2 := numF_tally (l := l) (f := m + 1) (t := t) hb (valsF l f t b)[k]
    have hp1 := cntF_nn l f m b (valsF l f t b)[k]
    have hp2 := cntF_nn l (m + 1) t b (valsF l f t b)[k]
    refine ⟨fun h10 => ?_, fun h10 => ?_⟩
    · simp only [hkk]
      have h11 : k - 1 < (tallyF l f t b).length := by omega
      have hg2 : (tallyF l f t b)[k - 1].fst = (valsF l f t b)[k - 1]'(by omega) := by simp [tallyF]
      have hlt : (valsF l f t b)[k - 1]'(by omega) < (valsF l f t b)[k] := List.pairwise_iff_getElem.1 v1 (k - 1) k (by omega) h8 (by omega)
      simp only [hg2]
      refine ⟨h7, by omega, by omega, h11, fun h12 => ?_, fun h12 => by omega⟩
      refine ⟨h7, h7, ?_⟩
      refine CallX.q (c25 (tallyF l f m b) _ (by omega)) ?_
      push_cast
      refine ⟨h7, ?_⟩
      refine CallX.q (c25 (tallyF l (m + 1) t b) _ (by omega)) ?_
      push_cast
      simp only [hg, hn1, hn2]
      exact ⟨by omega, fun e => e hsp, fun _ => ⟨by omega, h8, hn⟩⟩
    · refine ⟨h7, h7, ?_⟩
      refine CallX.q (c25 (tallyF l f m b) _ (by omega)) ?_
      push_cast
      refine ⟨h7, ?_⟩
      refine CallX.q (c25 (tallyF l (m + 1) t b) _ (by omega)) ?_
      push_cast
      simp only [hg, hn1, hn2]
      exact ⟨by omega, fun e => e hsp, fun _ => ⟨by omega, h8, hn⟩⟩
  · obtain rfl : k = (valsF l f t b).length := by omega
    refine ⟨by omega, ?_⟩
    rw [show (((valsF l f t b).map (cntF l f t b)).take (valsF l f t b).length).sum = winF l f t by rw [List.take_of_length_le (by rw [List.length_map]; exact Nat.le_refl _), hsum]]
    refine LoopV.nilrow 16 23 7 ?_
    push_cast
    refine LoopV.cntH Tryd.mixed [0, 1, 3, 4, 11, 14] l.length (fun i => [(16, .c (.own 0 i)), (17, .c (.d (.int .i64 ((l.length : Int) - 1 - i))))]) (fun i => [.row 23 7 ((l.reverse.take i).map Ev.ds) i]) (fun _ => True) trivial ?_ (by push_cast; omega)
    intro i hi _
    push_cast
    rw [List.length_reverse, Nat.min_eq_left hi]
    refine ⟨fun h7 => ?_, fun h7 => ?_⟩
    · have hi1 : ((l.length : Int) - 1 - i).toNat = l.length - 1 - i := by omega
      simp only [hi1]
      have h8 : i < l.reverse.length := by rw [List.length_reverse]; omega
      refine ⟨h7, by omega, by omega, by omega, by omega, by omega, ?_⟩
      rw [take_next h8, List.map_append, List.getElem_reverse]
      rfl
    · obtain rfl : i = l.length := by omega
      rw [List.take_of_length_le (by rw [List.length_reverse]; exact Nat.le_refl _)]
      refine CallL.frm [0, 1, 3, 4, 11, 14, 131, 132, 133, 134] [(16, .c (.d (.lst 7 (l.reverse.map Ev.ds))))] [] (by push_cast) ?_
      push_cast
      refine CallL.q (c26 l f t (by omega)) ?_
      push_cast
      refine CallL.q (c16 l.reverse f t b (by rw [List.length_reverse]; omega) (fun x hx => hok x (List.mem_reverse.1 hx))) ?_
      push_cast
      have t15 := c15 (Γ := Γ0) (tallyF l f t b) (tallyF l f t b) (by omega)
      rw [decide_eq_true rfl] at t15
      rw [tally_eq, tally_rev]
      refine CallL.q t15 ?_
      push_cast
end Go.Proofs
