/- Part of a proof about this program; no condition of its own. -/
import Derived.Test.YtanbfhnmklhjiaaGreatDoorGzC
import Derived.Test.YtanbfhnmklhjiaaGreatDoorFcH
import Derived.Test.YtanbfhnmklhjiaaGreatDoorGzK
set_option linter.all false
/- The statement on narrowing twice and on Top. No condition. -/
namespace Go.Proofs
open Go Go.Ax Go.Tx Go.Lib Go.Shelf Go.RowKit Go.Fc
set_option maxRecDepth 100000
set_option maxHeartbeats 0
theorem Bk.eq_iff' (a b : Bk) : (a.val = b.val ∧ a.cnt = b.cnt) ↔ a = b := by
  cases a; cases b; simp
theorem count_step {L : List Bk} (v : Bk) {y : Nat} (h : y < L.length) : (L.take (y + 1)).count v = (L.take y).count v + (if L[y] = v then 1 else 0) := by
  rw [List.take_succ_eq_append_getElem h, List.count_append]
  congr 1
  by_cases e : L[y] = v
  · simp [e]
  · simp [e]
theorem ne_bk {a b : Bk} (g : ¬a.val = b.val ∨ ¬a.cnt = b.cnt) : a ≠ b := fun e => by
  subst e
  rcases g with g | g <;> exact g rfl
variable {Γ : List (Nat × List D)}
theorem c14 (hΓ : (4, powD) ∈ Γ) (l : List Rec) (ids : List Int) (k0 k1 : Int) (b : List Bk) (n : Int) (hs : ∀ r ∈ l, r.sm) (hc : ∀ r ∈ l, r.cd) (hn : 0 ≤ n) (hm : n ≤ 255) :
    AFn Tryz.prog Γ 14 [.c (.d (.lst 5 (l.map Rec.ds))), .c (.d (.lst 1 (ids.map Fc.iD))), .agg [.d (.int .i64 k0), .d (.int .i64 k1)], .c (.d (.lst 2 (b.map Bk.ds))), .c (.d (.int .u8 n))] [.d (.bool true)] := by
  refine AFn.vc [] Tryz.func14 rfl Tryz.mixed (by kernel_rfl) Tryz.ntmps14 Tryz.results14 (by simp) ?_
  push_cast
  refine CallL.q (c43 hΓ) ?_
  push_cast
  refine CallL.q (c44 l ids hs) ?_
  push_cast
  intro e
  obtain ⟨h1, h2, h3⟩ := few_ok e hc
  refine CallL.q (c54 b) ?_
  push_cast
  intro e2
  have hb : b.length ≤ 30 := by
    unfold shortF at e2
    simp only [Bool.and_eq_true, decide_eq_true_eq] at e2
    exact e2.2
  refine CallL.q (c49 hΓ l ids k0 (by omega) (by omega) h3) ?_
  push_cast
  refine CallL.q (c49 hΓ l ids k1 (by omega) (by omega) h3) ?_
  push_cast
  generalize countF l ids k0 = V
  generalize countF l ids k1 = W
  refine LoopV.cntH Tryz.mixed [0, 1, 3, 4, 7, 11, 12] (min V.length 4) (fun k => [(13, .c (.d (.int .i64 k)))]) (fun k => [.box 80 [.d (.int .i64 k0), .d (.int .i64 k1)]]) (fun _ => True) trivial ?_ (by push_cast)
  intro i hi _
  push_cast
  refine ⟨fun q => ⟨fun q2 => ?_, fun q2 => ?_⟩, fun q => ?_⟩
  · have hiV : i < V.length := by omega
    refine LoopV.cntH Tryz.mixed [0, 1, 3, 4, 7, 11, 12, 13] (min W.length 4) (fun k => [(14, .c (.d (.int .i64 k)))]) (fun k => [.box 80 [.d (.int .i64 k0), .d (.int .i64 k1)]]) (fun _ => True) trivial ?_ (by push_cast)
    intro j hj _
    push_cast
    refine ⟨fun q3 => ⟨fun q4 => ?_, fun q4 => ⟨by omega, by omega⟩⟩, fun q3 => ⟨by omega, by omega⟩⟩
    have hjW : j < W.length := by omega
    have n1 := narrow_bd l k0 V[i].val ids
    have n2 := narrow_bd l k1 W[j].val ids
    refine ⟨hiV, ?_⟩
    refine CallX.q (c52 hΓ l ids k0 V[i].val (by omega) (by omega) h3) ?_
    push_cast
    refine ⟨hjW, ?_⟩
    refine CallX.q (c52 hΓ l (narrowF l ids k0 V[i].val) k1 W[j].val (by omega) (by omega) h3) ?_
    push_cast
    refine ⟨hjW, ?_⟩
    refine CallX.q (c52 hΓ l ids k1 W[j].val (by omega) (by omega) h3) ?_
    push_cast
    refine ⟨hiV, ?_⟩
    refine CallX.q (c52 hΓ l (narrowF l ids k1 W[j].val) k0 V[i].val (by omega) (by omega) h3) ?_
    push_cast
    have n3 := narrow_bd l k1 W[j].val (narrowF l ids k0 V[i].val)
    rw [narrow_twice l k1 k0 W[j].val V[i].val ids]
    refine CallL.q (c51 (narrowF l (narrowF l ids k0 V[i].val) k1 W[j].val) (narrowF l (narrowF l ids k0 V[i].val) k1 W[j].val) (by omega)) ?_
    push_cast
    exact ⟨⟨by omega, by omega⟩, by omega⟩
  all_goals
    have lt1 := sortT_len b
    have srt := sortT_sorted b
    have prm := sortT_perm b
    refine CallL.q (c55 b b.length hb) ?_
    rw [top_all]
    push_cast
    have t1 := top_top b n
    rw [top_all] at t1
    refine ⟨fun _ => ⟨⟨by omega, by omega⟩, ?_⟩, fun h => absurd (show ((sortT b).length : Int) = b.length by omega) h⟩
    refine CallL.q (c55 (sortT b) n (by omega)) ?_
    push_cast
    refine ⟨⟨by omega, by omega⟩, ?_⟩
    refine CallL.q (c55 b n hb) ?_
    push_cast
    rw [t1]
    refine CallL.q (c48 (topF b n) (topF b n) (by unfold topF; rw [List.length_take]; omega)) ?_
    push_cast
    generalize hS : sortT b = S at *
    refine LoopV.cnt Tryz.mixed [3, 17] b.length (fun k => [(18, .c (.d (.int .i64 k)))]) (fun _ => True) trivial ?_ (by push_cast)
    intro x hx _
    push_cast
    intro q5
    have hxb : x < b.length := by omega
    have hcnt := prm.count_eq b[x]
    refine LoopV.cnt Tryz.mixed [3, 17, 18] b.length (fun k => [(19, .c (.d (.int .i64 ((b.take k).count b[x] : Nat)))), (20, .c (.d (.int .i64 ((S.take k).count b[x] : Nat)))), (21, .c (.d (.int .i64 k)))]) (fun _ => True) trivial ?_ (by push_cast; simp)
    intro y hy _
    have y1 := List.count_le_length (a := b[x]) (l := b.take y)
    have y2 := List.count_le_length (a := b[x]) (l := S.take y)
    rw [List.length_take] at y1 y2
    push_cast
    refine ⟨fun q6 => ?_, fun q6 => ⟨fun _ => ⟨fun q7 => ?_, fun q7 => ⟨⟨by omega, by omega⟩, by omega⟩⟩, fun h => ?_⟩⟩
    · have hyb : y < b.length := by omega
      have hyS : y < S.length := by omega
      have s1 := count_step b[x] hyb
      have s2 := count_step b[x] hyS
      have e1 := Bk.eq_iff' b[y] b[x]
      have e2 := Bk.eq_iff' S[y] b[x]
      refine ⟨hyb, hxb, fun g => ?_, fun g => ?_⟩
      · rw [if_pos (e1.mp g)] at s1
        refine ⟨⟨by omega, by omega⟩, hyS, hxb, fun k => ?_, fun k => ?_⟩
        · rw [if_pos (e2.mp k)] at s2
          exact ⟨⟨by omega, by omega⟩, ⟨by omega, by omega⟩, hyb, by omega, by omega⟩
        · rw [if_neg (ne_bk k)] at s2
          exact ⟨⟨by omega, by omega⟩, hyb, by omega, by omega⟩
      · rw [if_neg (ne_bk g)] at s1
        refine ⟨hyS, hxb, fun k => ?_, fun k => ?_⟩
        · rw [if_pos (e2.mp k)] at s2
          exact ⟨⟨by omega, by omega⟩, ⟨by omega, by omega⟩, hyb, by omega, by omega⟩
        · rw [if_neg (ne_bk k)] at s2
          exact ⟨⟨by omega, by omega⟩, hyb, by omega, by omega⟩
    · have hxS : x < S.length := by omega
      have hpS : ((x : Int) - 1).toNat < S.length := by omega
      have asc := List.pairwise_iff_getElem.mp srt ((x : Int) - 1).toNat x hpS hxS (by omega)
      rw [ltT_eq] at asc
      simp only [Bool.or_eq_false_iff, decide_eq_false_iff_not, Bool.and_eq_false_iff, decide_eq_true_eq] at asc
      refine ⟨hxS, ⟨by omega, by omega⟩, by omega, hpS, fun u => ⟨hxS, ⟨by omega, by omega⟩, by omega, hpS, fun w => ⟨hxS, ⟨by omega, by omega⟩, by omega, hpS, fun z => ?_, fun _ => ⟨⟨by omega, by omega⟩, hxb⟩⟩, fun _ => ⟨⟨by omega, by omega⟩, hxb⟩⟩, fun u => ?_⟩
      · rcases asc.2 with a | a
        · exact absurd w a
        · have := z.symm.trans a
          cases this
      · exact asc.1 u
    · have f1 : b.take y = b := List.take_of_length_le (by omega)
      have f2 : S.take y = S := List.take_of_length_le (by omega)
      rw [f1, f2] at h
      exact h (by rw [hcnt])
end Go.Proofs
