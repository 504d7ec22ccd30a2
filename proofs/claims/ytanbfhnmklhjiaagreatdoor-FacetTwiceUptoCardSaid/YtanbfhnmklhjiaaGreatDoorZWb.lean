/- Part of a proof about this program; no condition of its own. -/
import Derived.Test.YtanbfhnmklhjiaaGreatDoorZWa
set_option linter.all false
/- Walks: lists and fields (reference). -/
namespace Go.Proofs
open Go Go.Ax Go.Tx Go.Fc
set_option maxRecDepth 100000
set_option maxHeartbeats 0
variable {Γ : List (Nat × List D)}
theorem c109 (l : List Int) (n : Int) (hl : l.length ≤ 2000000) : AFn Tryz.prog Γ 109 [.c (.d (.lst 1 (l.map iD))), .c (.d (.int .i64 n))] [.d (.bool (decide (n ∈ l)))] := by
  refine AFn.vc [] Tryz.func109 rfl Tryz.mixed (by kernel_rfl) Tryz.ntmps109 Tryz.results109 (by simp) ?_
  push_cast
  refine LoopV.cnt Tryz.mixed [0, 1] l.length (fun k => [(5, .c (.d (.int .i64 k)))]) (fun k => n ∈ l ↔ n ∈ l.drop k) (by simp) ?_
  intro k hk hinv
  push_cast
  refine ⟨fun h => ?_, fun h => ?_⟩
  · have hlt : k < l.length := by omega
    rw [mem_step hlt] at hinv
    refine ⟨hlt, fun e => (decide_eq_true (hinv.2 (.inl e))).symm, fun e => ⟨by omega, hlt, ?_⟩⟩
    rw [hinv]; exact ⟨fun h => h.resolve_left e, .inr⟩
  · exact (decide_eq_false fun hm => mem_end (by omega) (hinv.1 hm)).symm
theorem c110 (l : List Str) (n : Str) (hl : l.length ≤ 2000000) : AFn Tryz.prog Γ 110 [.c (.d (.lst 1 (l.map Fc.sD))), .c (.d (.str n))] [.d (.bool (decide (n ∈ l)))] := by
  refine AFn.vc [] Tryz.func110 rfl Tryz.mixed (by kernel_rfl) Tryz.ntmps110 Tryz.results110 (by simp) ?_
  push_cast
  refine LoopV.cnt Tryz.mixed [0, 1] l.length (fun k => [(5, .c (.d (.int .i64 k)))]) (fun k => n ∈ l ↔ n ∈ l.drop k) (by simp) ?_
  intro k hk hinv
  push_cast
  refine ⟨fun h => ?_, fun h => ?_⟩
  · have hlt : k < l.length := by omega
    rw [mem_step hlt] at hinv
    refine ⟨hlt, fun e => (decide_eq_true (hinv.2 (.inl e))).symm, fun e => ⟨by omega, hlt, ?_⟩⟩
    rw [hinv]; exact ⟨fun h => h.resolve_left e, .inr⟩
  · exact (decide_eq_false fun hm => mem_end (by omega) (hinv.1 hm)).symm
theorem c51 (a b : List Int) (hl : a.length ≤ 2000000) : AFn Tryz.prog Γ 51 [.c (.d (.lst 1 (a.map iD))), .c (.d (.lst 1 (b.map iD)))] [.d (.bool (decide (a = b)))] := by
  refine AFn.vc [] Tryz.func51 rfl Tryz.mixed (by kernel_rfl) Tryz.ntmps51 Tryz.results51 (by simp) ?_
  push_cast
  refine ⟨fun h => (decide_eq_false fun e => h (by rw [e])).symm, fun h => ?_⟩
  have hlen : a.length = b.length := by omega
  refine LoopV.cnt Tryz.mixed [0, 1] a.length (fun k => [(5, .c (.d (.int .i64 k)))]) (fun k => a = b ↔ a.drop k = b.drop k) (by simp) ?_
  intro k hk hinv
  push_cast
  refine ⟨fun h => ?_, fun h => ?_⟩
  · obtain ⟨hlt, hlt2⟩ : ∃ hlt : k < a.length, k < b.length := ⟨by omega, by omega⟩
    rw [Fc.eq_step hlt hlt2] at hinv
    refine ⟨hlt, hlt2, fun e => (decide_eq_false fun f => e (hinv.1 f).1).symm, fun e => ⟨by omega, hlt, ?_⟩⟩
    rw [hinv]; simp [e]
  · exact (decide_eq_true (hinv.2 (Fc.eq_end (by omega) hlen))).symm
theorem c45 (a b : List Str) (hl : a.length ≤ 2000000) : AFn Tryz.prog Γ 45 [.c (.d (.lst 1 (a.map Fc.sD))), .c (.d (.lst 1 (b.map Fc.sD)))] [.d (.bool (decide (a = b)))] := by
  refine AFn.vc [] Tryz.func45 rfl Tryz.mixed (by kernel_rfl) Tryz.ntmps45 Tryz.results45 (by simp) ?_
  push_cast
  refine ⟨fun h => (decide_eq_false fun e => h (by rw [e])).symm, fun h => ?_⟩
  have hlen : a.length = b.length := by omega
  refine LoopV.cnt Tryz.mixed [0, 1] a.length (fun k => [(5, .c (.d (.int .i64 k)))]) (fun k => a = b ↔ a.drop k = b.drop k) (by simp) ?_
  intro k hk hinv
  push_cast
  refine ⟨fun h => ?_, fun h => ?_⟩
  · obtain ⟨hlt, hlt2⟩ : ∃ hlt : k < a.length, k < b.length := ⟨by omega, by omega⟩
    rw [Fc.eq_step hlt hlt2] at hinv
    refine ⟨hlt, hlt2, fun e => (decide_eq_false fun f => e (hinv.1 f).1).symm, fun e => ⟨by omega, hlt, ?_⟩⟩
    rw [hinv]; simp [e]
  · exact (decide_eq_true (hinv.2 (Fc.eq_end (by omega) hlen))).symm
theorem c48 (a b : List Bk) (hl : a.length ≤ 2000000) : AFn Tryz.prog Γ 48 [.c (.d (.lst 2 (a.map Bk.ds))), .c (.d (.lst 2 (b.map Bk.ds)))] [.d (.bool (decide (a = b)))] := by
  refine AFn.vc [] Tryz.func48 rfl Tryz.mixed (by kernel_rfl) Tryz.ntmps48 Tryz.results48 (by simp) ?_
  push_cast
  refine ⟨fun h => (decide_eq_false fun e => h (by rw [e])).symm, fun h => ?_⟩
  have hlen : a.length = b.length := by omega
  refine LoopV.cnt Tryz.mixed [0, 1] a.length (fun k => [(5, .c (.d (.int .i64 k)))]) (fun k => a = b ↔ a.drop k = b.drop k) (by simp) ?_
  intro k hk hinv
  push_cast
  refine ⟨fun h => ?_, fun h => ?_⟩
  · obtain ⟨hlt, hlt2⟩ : ∃ hlt : k < a.length, k < b.length := ⟨by omega, by omega⟩
    rw [Fc.eq_step hlt hlt2] at hinv
    have he : a[k] = b[k] ↔ (a[k].val = b[k].val ∧ a[k].cnt = b[k].cnt) := by
      constructor
      · intro e; rw [e]; exact ⟨rfl, rfl⟩
      · intro e; cases h1 : a[k]; cases h2 : b[k]; simp [h1, h2] at e ⊢; exact e
    refine ⟨hlt, hlt2, fun e => (decide_eq_false fun f => ?_).symm, fun e => ⟨by omega, hlt, ?_⟩⟩
    · have := he.1 (hinv.1 f).1
      simp [this] at e
    · rw [hinv, he]; simp [e]
  · exact (decide_eq_true (hinv.2 (Fc.eq_end (by omega) hlen))).symm
theorem c167 (c : Int) : AFn Tryz.prog Γ 167 [.c (.d (.int .u8 c))] [.d (.bool (digI c))] := by
  refine AFn.vc [] Tryz.func167 rfl Tryz.mixed (by kernel_rfl) Tryz.ntmps167 Tryz.results167 (by simp) ?_
  push_cast
  unfold digI
  exact ⟨fun h => decide_eq_decide.2 (by omega), fun h => (decide_eq_false (by omega)).symm⟩
theorem c189 (c : Int) (codes : Str) (hl : codes.length ≤ 2000000) : AFn Tryz.prog Γ 189 [.c (.d (.int .u8 c)), .c (.d (.str codes))] [.d (.bool (inCodes codes c))] := by
  refine AFn.vc [] Tryz.func189 rfl Tryz.mixed (by kernel_rfl) Tryz.ntmps189 Tryz.results189 (by simp) ?_
  push_cast
  refine LoopV.cnt Tryz.mixed [0, 1] codes.length (fun k => [(5, .c (.d (.int .i64 k)))]) (fun k => anyIs codes c = anyIs (codes.drop k) c) (by simp) ?_
  intro k hk hinv
  push_cast
  refine ⟨fun h => ?_, fun h => ?_⟩
  · have hlt : k < codes.length := by omega
    rw [anyIs_step hlt] at hinv
    refine ⟨hlt, fun e => ?_, fun e => ⟨by omega, hlt, ?_⟩⟩
    · rw [decide_eq_true e, Bool.true_or] at hinv
      unfold inCodes
      rw [show codes.any (fun x => decide ((x.toNat : Int) = c)) = true from hinv, Bool.or_true]
    · rw [hinv, decide_eq_false e, Bool.false_or]
  · rw [anyIs_end (by omega)] at hinv
    unfold inCodes
    rw [show codes.any (fun x => decide ((x.toNat : Int) = c)) = false from hinv, Bool.or_false]
    cases codes <;> rfl
theorem c104 (f : Fld) (c : Int) (hl : f.subs.length ≤ 2000000) : AFn Tryz.prog Γ 104 [.agg (f.ds.map C.d), .c (.d (.int .u8 c))] [.d (.str (getS f.subs c).1), .d (.bool (getS f.subs c).2)] := by
  refine AFn.vc [] Tryz.func104 rfl Tryz.mixed (by kernel_rfl) Tryz.ntmps104 Tryz.results104 (by simp) ?_
  push_cast
  refine LoopV.cnt Tryz.mixed [1, 2] f.subs.length (fun k => [(6, .c (.d (.int .i64 k)))]) (fun k => getS f.subs c = getS (f.subs.drop k) c) (by simp) ?_
  intro k hk hinv
  push_cast
  refine ⟨fun h => ?_, fun h => ?_⟩
  · have hlt : k < f.subs.length := by omega
    rw [getS_step hlt] at hinv
    refine ⟨hlt, fun e => ?_, fun e => ⟨by omega, hlt, ?_⟩⟩
    · rw [hinv, if_pos e]; exact ⟨hlt, rfl, rfl⟩
    · rw [hinv, if_neg e]
  · rw [hinv, getS_end (by omega)]; exact ⟨rfl, rfl⟩
theorem c129 (f : Fld) (codes : Str) (hl : f.subs.length ≤ 2000000) (hc : codes.length ≤ 2000000) : AFn Tryz.prog Γ 129 [.agg (f.ds.map C.d), .c (.d (.str codes))] [.d (.lst 1 ((allS f.subs codes).map Fc.sD))] := by
  refine AFn.vc [] Tryz.func129 rfl Tryz.mixed (by kernel_rfl) Tryz.ntmps129 Tryz.results129 (by simp) ?_
  push_cast
  refine LoopV.nilrow 5 9 1 ?_
  push_cast
  refine LoopV.cntH Tryz.mixed [1, 2] f.subs.length (fun k => [(5, .c (.own 1 (allS (f.subs.take k) codes).length)), (6, .c (.d (.int .i64 k)))]) (fun k => [.box 88 (f.ds.map C.d), .row 9 1 ((allS (f.subs.take k) codes).map Fc.sD) (allS (f.subs.take k) codes).length]) (fun _ => True) trivial ?_ (by push_cast; exact ⟨rfl, rfl, rfl⟩)
  intro k hk _
  push_cast
  refine ⟨fun h => ?_, fun h => ?_⟩
  · have hlt : k < f.subs.length := by omega
    refine ⟨hlt, ?_⟩
    refine CallL.q (c189 _ codes hc) ?_
    push_cast
    have hn := allS_next (codes := codes) hlt
    have hb := allS_len (f.subs.take k) codes
    rw [List.length_take] at hb
    refine ⟨fun e => ?_, fun e => ?_⟩
    · rw [if_pos e] at hn
      refine ⟨hlt, by omega, by omega, hlt, by rw [hn]; simp, by rw [hn]; simp [Fc.sD], by rw [hn]; simp⟩
    · rw [if_neg (by rw [e]; simp)] at hn
      refine ⟨by omega, hlt, by rw [hn], by rw [hn], by rw [hn]⟩
  · rw [List.take_of_length_le (by omega)]
theorem join_next {l : List Str} {k : Nat} (sep : Str) (h : k < l.length) : Lib.join (l.take (k + 1)) sep = if k = 0 then l[k] else Lib.join (l.take k) sep ++ sep ++ l[k] := by
  rw [Fc.take_next h]
  generalize hx : l.take k = xs
  have hl : xs.length = k := by rw [← hx, List.length_take]; omega
  cases xs with
  | nil => simp at hl; subst hl; rw [if_pos rfl]; simp [Lib.join_one]
  | cons y r =>
    rw [if_neg (by simp at hl; omega), List.cons_append, Lib.join_cons, Lib.join_cons]
    simp [Lib.joinTail]
theorem join_len_take (l : List Str) (sep : Str) (k : Nat) : (Lib.join (l.take k) sep).length ≤ (Lib.join l sep).length := by
  have key : ∀ (r : List Str) (k : Nat), (Lib.joinTail sep (r.take k)).length ≤ (Lib.joinTail sep r).length := by
    intro r
    induction r with
    | nil => intro k; simp
    | cons x r ih =>
      intro k
      cases k with
      | zero => simp [Lib.joinTail]
      | succ k =>
        have := ih k
        simp only [List.take_succ_cons, Lib.joinTail, List.map_cons, List.flatten_cons, List.length_append] at this ⊢
        omega
  cases l with
  | nil => simp
  | cons x r =>
    cases k with
    | zero => simp [Lib.join_nil]
    | succ k =>
      rw [List.take_succ_cons, Lib.join_cons, Lib.join_cons, List.length_append, List.length_append]
      have := key r k
      omega
theorem c135 (l : List Str) (sep : Str) (hl : l.length ≤ 2000000) (hlen : (Lib.join l sep).length ≤ 1000000000) : AFn Tryz.prog Γ 135 [.c (.d (.lst 1 (l.map Fc.sD))), .c (.d (.str sep))] [.d (.str (Lib.join l sep))] := by
  refine AFn.vc [] Tryz.func135 rfl Tryz.mixed (by kernel_rfl) Tryz.ntmps135 Tryz.results135 (by simp) ?_
  push_cast
  refine LoopV.cnt Tryz.mixed [0, 1] l.length (fun k => [(5, .c (.d (.str (Lib.join (l.take k) sep)))), (6, .c (.d (.int .i64 k)))]) (fun k => True) trivial ?_ (by push_cast; rfl)
  intro k hk _
  push_cast
  refine ⟨fun h => ?_, fun h => by rw [List.take_of_length_le (by omega)]⟩
  have hlt : k < l.length := by omega
  have hn := join_next sep hlt
  have h1 := join_len_take l sep (k + 1)
  rw [hn] at h1
  refine ⟨fun h0 => ?_, fun h0 => ?_⟩
  · rw [if_neg (by omega)] at hn h1
    simp only [List.length_append] at h1
    exact ⟨by omega, hlt, by omega, by omega, hlt, hn⟩
  · obtain rfl : k = 0 := by omega
    rw [if_pos rfl] at hn h1
    simp only [List.take_zero, Lib.join_nil, List.length_nil, List.nil_append]
    exact ⟨hlt, by omega, by omega, hlt, hn⟩
theorem c168 (c : Int) : AFn Tryz.prog Γ 168 [.c (.d (.int .u8 c))] [.d (.bool (codeI c))] := by
  refine AFn.vc [] Tryz.func168 rfl Tryz.mixed (by kernel_rfl) Tryz.ntmps168 Tryz.results168 (by simp) ?_
  push_cast
  refine CallL.q (c167 c) ?_
  push_cast
  unfold codeI
  refine ⟨fun h => ?_, fun h => by rw [h]; rfl⟩
  rw [h, Bool.false_or]
  exact ⟨fun h => decide_eq_decide.2 (by omega), fun h => (decide_eq_false (by omega)).symm⟩
theorem digI_b (x : UInt8) : digI (x.toNat : Int) = digB x := by
  unfold digI digB; exact decide_eq_decide.2 (by omega)
theorem c166 (s : Str) : AFn Tryz.prog Γ 166 [.c (.d (.str s))] [.d (.bool (tagB s))] := by
  refine AFn.vc [] Tryz.func166 rfl Tryz.mixed (by kernel_rfl) Tryz.ntmps166 Tryz.results166 (by simp) ?_
  by_cases h3 : s.length = 3
  · obtain ⟨a, b, c, rfl⟩ : ∃ a b c, s = [a, b, c] := by
      match s, h3 with
      | [a, b, c], _ => exact ⟨a, b, c, rfl⟩
    push_cast
    have ht : tagB [a, b, c] = (digI a.toNat && (digI b.toNat && (digI c.toNat && !Op.bytesLess [a, b, c] [48, 49, 48]))) := by
      unfold tagB
      simp only [List.length_cons, List.length_nil, List.all_cons, List.all_nil, digI_b]
      cases digB a <;> cases digB b <;> cases digB c <;> rfl
    rw [ht]
    refine CallL.q (c167 _) ?_
    push_cast
    refine ⟨fun h1 => ?_, fun h1 => by rw [h1]; rfl⟩
    rw [h1, Bool.true_and]
    refine CallL.q (c167 _) ?_
    push_cast
    refine ⟨fun h1 => ?_, fun h1 => by rw [h1]; rfl⟩
    rw [h1, Bool.true_and]
    refine CallL.q (c167 _) ?_
    push_cast
    refine ⟨fun h1 => ?_, fun h1 => by rw [h1]; rfl⟩
    rw [h1, Bool.true_and]
  · push_cast [show ((List.length s : Int) = 3) = False from eq_false (by omega)]
    unfold tagB
    rw [decide_eq_false h3]; rfl
theorem c105 (f : Fld) (codes : Str) (hl : f.subs.length ≤ 2000000) (hc : codes.length ≤ 2000000) (hlen : (Lib.join (allS f.subs codes) [32]).length ≤ 1000000000) : AFn Tryz.prog Γ 105 [.agg (f.ds.map C.d), .c (.d (.str codes))] [.d (.str (Lib.join (allS f.subs codes) [32]))] := by
  refine AFn.vc [] Tryz.func105 rfl Tryz.mixed (by kernel_rfl) Tryz.ntmps105 Tryz.results105 (by simp) ?_
  push_cast
  refine CallL.q (c129 f codes hl hc) ?_
  push_cast
  have hb := allS_len f.subs codes
  refine CallL.q (c135 _ [32] (by omega) hlen) ?_
  push_cast
end Go.Proofs
