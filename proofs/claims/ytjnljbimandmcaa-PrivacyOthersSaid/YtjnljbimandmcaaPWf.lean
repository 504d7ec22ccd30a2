/- Walks of the chapter on privacy, sixth part. -/
import Derived.Test.YtjnljbimandmcaaPWe
set_option linter.all false
namespace Go.Proofs
open Go Go.Ax Go.Pv
set_option maxRecDepth 100000
variable {Γ : List (Nat × List D)}
theorem c27 (R C : Nat) (cs : List Int) (hO : Okn R C cs) : AFn Try.prog Γ 27 [.agg (Tab.cs ⟨R, C, cs⟩)] [.d (.int .i64 (firstF R C cs))] := by
  refine AFn.vc [] Try.func27 rfl Try.mixed (by kernel_rfl) Try.ntmps27 Try.results27 (by simp) ?_
  have hle := hO.le
  push_cast
  refine LoopV.cnt Try.mixed [1, 6, 7] cs.length (fun k => [(8, .c (.d (.int .i64 k)))]) (fun k => firstF R C cs = findN (fun c => cs.getD c 0 == -1 && detF R C cs c) (cs.length - k) k) rfl ?_ (by push_cast)
  intro k hk hinv
  push_cast
  refine ⟨fun h => ?_, fun h => ?_⟩
  · have hk' : k < cs.length := by omega
    rw [findN_step hk'] at hinv
    refine ⟨hk', fun a => ?_, fun a => ?_⟩
    · refine CallL.q (c32 R C cs hO k hk') ?_
      push_cast
      refine ⟨fun b => ?_, fun b => ⟨by omega, hk', ?_⟩⟩
      · rw [hinv, if_pos (by simp [List.getElem?_eq_getElem hk', a, b])]
      · rw [hinv, if_neg (by simp [List.getElem?_eq_getElem hk', a, b])]
    · refine ⟨by omega, hk', ?_⟩
      rw [hinv, if_neg (by simp [List.getElem?_eq_getElem hk', a])]
  · rw [hinv, findN_end (by omega)]
theorem any_hid (cs : List Int) : (cs.any fun x => decide (-1 = x)) = !(cs.all fun v => decide (v ≠ -1)) := by
  rw [List.not_all_eq_any_not]
  congr 1; funext x; simp [eq_comm]
theorem vis_set : ∀ (l : List Int) (i : Nat) (h : i < l.length), l[i] ≠ -1 → (l.set i (-1)).countP (fun v => decide (v ≠ -1)) + 1 = l.countP (fun v => decide (v ≠ -1))
  | [], _, h, _ => by simp at h
  | a :: l, 0, _, hv => by
    have : a ≠ -1 := hv
    simp [List.countP_cons, this]
  | a :: l, i + 1, h, hv => by
    have := vis_set l i (by simpa using h) (by simpa using hv)
    simp only [List.set_cons_succ, List.countP_cons]; omega
theorem c23 (t : Tab) (k : Int) (hl : t.cells.length ≤ 100) : AFn Try.prog Γ 23 [.agg (t.ds.map C.d), .c (.d (.int .i64 k))] [.agg (Tab.ds (hideF t k))] := by
  refine AFn.vc [] Try.func23 rfl Try.mixed (by kernel_rfl) Try.ntmps23 Try.results23 (by simp) ?_
  push_cast
  refine CallL.q (c10 t) ?_
  push_cast
  refine ⟨fun hr => ?_, fun hr => by simp [hideF, hr]⟩
  refine CallL.q (c30 t.cells (-1) (by omega)) ?_
  push_cast
  rw [any_hid]
  rw [show (t.cells.all fun v => decide (v ≠ -1)) = openB t from rfl]
  refine ⟨fun ho => ⟨fun h3 => ⟨fun h4 => by simp [hideF, Int.not_le.2 h4], fun h4 => ?_⟩, fun h3 => by simp [hideF, Int.not_le.2 h3]⟩, fun hn => by
    have h0 : openB t = false := by simpa using hn
    simp [hideF, h0]⟩
  have ho : openB t = true := by simpa using ho
  obtain ⟨R, C, ht, hO⟩ := okn_of hr
  obtain ⟨rows, cols, cs⟩ := t
  cases ht
  dsimp only at h3 h4 hO hl ⊢
  rw [hideF_eq R C cs k hr ho h3 h4]
  refine CallL.own (c31 cs (by omega)) ?_
  push_cast
  refine ⟨by kernel_rfl, ?_⟩
  refine LoopV.cntH Try.mixed [1, 2, 4, 34, 35] cs.length (fun c => [(36, .c (.d (.int .i64 c)))]) (fun c => [.box 24 [.d (.int .i64 R), .d (.int .i64 C), .own 2 0], .box 24 [.d (.int .i64 0), .d (.int .i64 0), .d (.raw (Value.slice none 0 0))], .row 3 1 ((upto (hidV k) c cs).map iD) 0]) (fun _ => True) trivial ?_ (by push_cast; rw [upto_zero])
  intro c hc _
  push_cast
  have hlu := upto_len (hidV k) c cs
  refine ⟨fun h => ?_, fun h => ?_⟩
  · have hk' : c < cs.length := by omega
    have hs := upto_set (hidV k) hk'
    have hg := upto_get (hidV k) hk' (by omega)
    refine ⟨by omega, by omega, fun a => ⟨fun b => ⟨by omega, by omega, ⟨by omega, by omega⟩, hk', ?_⟩, fun b => ⟨⟨by omega, by omega⟩, hk', ?_⟩⟩, fun a => ⟨⟨by omega, by omega⟩, hk', ?_⟩⟩
    · rw [hg] at a b
      rw [← hs, hidV, if_pos ⟨a, b⟩, ← map_set']; rfl
    · rw [hg] at a b
      rw [upto_same (hidV k) hk' (by rw [hidV, if_neg (by omega)])]
    · rw [hg] at a
      rw [upto_same (hidV k) hk' (by rw [hidV, if_neg (by omega)])]
  obtain rfl : c = cs.length := by omega
  have e0 : upto (hidV k) cs.length cs = hide0 cs k := by rw [upto_end _ (Nat.le_refl _)]; rfl
  rw [e0]
  have hl0 : (hide0 cs k).length = cs.length := by simp [hide0]
  refine LoopV.of Try.mixed [2, 4] (S := List Int) (fun _ => []) (fun cu => [.box 24 [.d (.int .i64 R), .d (.int .i64 C), .own 2 0], .box 24 [.d (.int .i64 0), .d (.int .i64 0), .d (.raw (Value.slice none 0 0))], .row 3 1 (cu.map iD) 0]) (fun cu => cu.length = cs.length ∧ ∃ m, hideLoop R C cs.length (hide0 cs k) = hideLoop R C m cu ∧ cu.countP (fun v => decide (v ≠ -1)) ≤ m) (fun cu => cu.countP (fun v => decide (v ≠ -1))) (hide0 cs k) ⟨hl0, cs.length, rfl, by rw [← hl0]; exact List.countP_le_length⟩ (by push_cast) ?_
  intro cu hcu
  obtain ⟨hlen, m, hm, hvm⟩ := hcu
  have hOu : Okn R C cu := Okn.of_len hO hlen
  push_cast
  refine LoopV.cntH Try.mixed [2, 4, 54, 55] cu.length (fun i => [(56, .c (.d (.int .i64 i)))]) (fun _ => [.box 24 [.d (.int .i64 R), .d (.int .i64 C), .own 2 0], .box 24 [.d (.int .i64 0), .d (.int .i64 0), .d (.raw (Value.slice none 0 0))], .row 3 1 (cu.map iD) 0]) (fun i => firstF R C cu = findN (fun c => cu.getD c 0 == -1 && detF R C cu c) (cu.length - i) i) rfl ?_ (by push_cast)
  intro i hi hinv
  push_cast
  refine ⟨fun h => ?_, fun h => ?_⟩
  · have hi' : i < cu.length := by omega
    rw [findN_step hi'] at hinv
    refine ⟨by omega, hi', fun a => ?_, fun a => ?_⟩
    · refine CallL.q (c32 R C cu hOu i hi') ?_
      push_cast
      refine ⟨fun b => ⟨by omega, hi', ?_⟩, fun b => ?_⟩
      · rw [hinv, if_neg (by simp [List.getElem?_eq_getElem hi', a, b])]
      · rw [if_pos (by simp [List.getElem?_eq_getElem hi', a, b])] at hinv
        have hn := next_ok R C cu hOu (by omega) (by omega) (by omega)
        have hnx := hideLoop_next R C cu (m - 1) (by omega)
        rw [hinv, Int.toNat_natCast] at hn hnx
        have hb := next_bd R C cu hOu i hi'
        refine CallL.q (c33 R C cu hOu i hi') ?_
        push_cast
        generalize nextF R C cu i = y at *
        obtain ⟨y, rfl⟩ := Int.eq_ofNat_of_zero_le hn
        rw [Int.toNat_natCast] at *
        have hy : y < cu.length := by omega
        have hv : cu[y] ≠ -1 := by have := hb.2.2 hn; simpa [List.getElem?_eq_getElem hy] using this
        have hc2 := vis_set cu y hy hv
        have hm1 : m - 1 + 1 = m := by omega
        rw [hm1] at hnx
        simp only [ne_eq] at hc2 hvm
        refine ⟨fun h => by omega, fun _ => ⟨⟨by omega, by omega⟩, hy, cu.set y (-1), ⟨⟨by simp [hlen], m - 1, by rw [hm, hnx], by omega⟩, by omega⟩, ?_⟩⟩
        rw [← map_set']; rfl
    · refine ⟨by omega, hi', ?_⟩
      rw [hinv, if_neg (by simp [List.getElem?_eq_getElem hi', a])]
  · rw [hm, hideLoop_stop R C cu m]
    rw [hinv, findN_end (by omega)]; omega
end Go.Proofs
