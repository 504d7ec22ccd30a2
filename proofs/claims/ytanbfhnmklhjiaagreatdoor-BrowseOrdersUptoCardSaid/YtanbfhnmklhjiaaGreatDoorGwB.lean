/- Part of a proof about this program; no condition of its own. -/
import Derived.Test.YtanbfhnmklhjiaaGreatDoorGwA
import Derived.Test.YtanbfhnmklhjiaaGreatDoorGfA
import Derived.Test.YtanbfhnmklhjiaaGreatDoorGxR
set_option linter.all false
/- Walks: lists and fields (reference). -/
namespace Go.Proofs
open Go Go.Ax Go.Tx Go.Fc
set_option maxRecDepth 100000
set_option maxHeartbeats 0
variable {Γ : List (Nat × List D)}
theorem c109 (l : List Int) (n : Int) (hl : l.length ≤ 2000000) : AFn Tryz.prog Γ 109 [.c (.d (.lst 1 (l.map iD))), .c (.d (.int .i64 n))] [.d (.bool (decide (n ∈ l)))] := by
  refine AFn.vc [] Tryz.func109 rfl Tryz.mixed (by kernel_rfl) Tryz.ntmps109 Tryz.results109 (by simp) ?_
  push_cast
  refine LoopV.cnt Tryz.mixed [0, 1] l.length (fun k => [(5, .c (.d (.int .i64 k)))]) (fun k => n ∈ l ↔ n ∈ l.drop k) (by simp) ?_
  intro k hk hinv
  push_cast
  refine ⟨fun h => ?_, fun h => ?_⟩
  · have hlt : k < l.length := by omega
    rw [mem_step hlt] at hinv
    refine ⟨hlt, fun e => (decide_eq_true (hinv.2 (.inl e))).symm, fun e => ⟨by omega, hlt, ?_⟩⟩
    rw [hinv]; exact ⟨fun h => h.resolve_left e, .inr⟩
  · exact (decide_eq_false fun hm => mem_end (by omega) (hinv.1 hm)).symm
theorem c110 (l : List Str) (n : Str) (hl : l.length ≤ 2000000) : AFn Tryz.prog Γ 110 [.c (.d (.lst 1 (l.map Fc.sD))), .c (.d (.str n))] [.d (.bool (decide (n ∈ l)))] := by
  refine AFn.vc [] Tryz.func110 rfl Tryz.mixed (by kernel_rfl) Tryz.ntmps110 Tryz.results110 (by simp) ?_
  push_cast
  refine LoopV.cnt Tryz.mixed [0, 1] l.length (fun k => [(5, .c (.d (.int .i64 k)))]) (fun k => n ∈ l ↔ n ∈ l.drop k) (by simp) ?_
  intro k hk hinv
  push_cast
  refine ⟨fun h => ?_, fun h => ?_⟩
  · have hlt : k < l.length := by omega
    rw [mem_step hlt] at hinv
    refine ⟨hlt, fun e => (decide_eq_true (hinv.2 (.inl e))).symm, fun e => ⟨by omega, hlt, ?_⟩⟩
    rw [hinv]; exact ⟨fun h => h.resolve_left e, .inr⟩
  · exact (decide_eq_false fun hm => mem_end (by omega) (hinv.1 hm)).symm
theorem c51 (a b : List Int) (hl : a.length ≤ 2000000) : AFn Tryz.prog Γ 51 [.c (.d (.lst 1 (a.map iD))), .c (.d (.lst 1 (b.map iD)))] [.d (.bool (decide (a = b)))] := by
  refine AFn.vc [] Tryz.func51 rfl Tryz.mixed (by kernel_rfl) Tryz.ntmps51 Tryz.results51 (by simp) ?_
  push_cast
  refine ⟨fun h => (decide_eq_false fun e => h (by rw [e])).symm, fun h => ?_⟩
  have hlen : a.length = b.length := by omega
  refine LoopV.cnt Tryz.mixed [0, 1] a.length (fun k => [(5, .c (.d (.int .i64 k)))]) (fun k => a = b ↔ a.drop k = b.drop k) (by simp) ?_
  intro k hk hinv
  push_cast
  refine ⟨fun h => ?_, fun h => ?_⟩
  · obtain ⟨hlt, hlt2⟩ : ∃ hlt : k < a.length, k < b.length := ⟨by omega, by omega⟩
    rw [Fc.eq_step hlt hlt2] at hinv
    refine ⟨hlt, hlt2, fun e => (decide_eq_false fun f => e (hinv.1 f).1).symm, fun e => ⟨by omega, hlt, ?_⟩⟩
    rw [hinv]; simp [e]
  · exact (decide_eq_true (hinv.2 (Fc.eq_end (by omega) hlen))).symm
theorem c45 (a b : List Str) (hl : a.length ≤ 2000000) : AFn Tryz.prog Γ 45 [.c (.d (.lst 1 (a.map Fc.sD))), .c (.d (.lst 1 (b.map Fc.sD)))] [.d (.bool (decide (a = b)))] := by
  refine AFn.vc [] Tryz.func45 rfl Tryz.mixed (by kernel_rfl) Tryz.ntmps45 Tryz.results45 (by simp) ?_
  push_cast
  refine ⟨fun h => (decide_eq_false fun e => h (by rw [e])).symm, fun h => ?_⟩
  have hlen : a.length = b.length := by omega
  refine LoopV.cnt Tryz.mixed [0, 1] a.length (fun k => [(5, .c (.d (.int .i64 k)))]) (fun k => a = b ↔ a.drop k = b.drop k) (by simp) ?_
  intro k hk hinv
  push_cast
  refine ⟨fun h => ?_, fun h => ?_⟩
  · obtain ⟨hlt, hlt2⟩ : ∃ hlt : k < a.length, k < b.length := ⟨by omega, by omega⟩
    rw [Fc.eq_step hlt hlt2] at hinv
    refine ⟨hlt, hlt2, fun e => (decide_eq_false fun f => e (hinv.1 f).1).symm, fun e => ⟨by omega, hlt, ?_⟩⟩
    rw [hinv]; simp [e]
  · exact (decide_eq_true (hinv.2 (Fc.eq_end (by omega) hlen))).symm
theorem c48 (a b : List Bk) (hl : a.length ≤ 2000000) : AFn Tryz.prog Γ 48 [.c (.d (.lst 2 (a.map Bk.ds))), .c (.d (.lst 2 (b.map Bk.ds)))] [.d (.bool (decide (a = b)))] := by
  refine AFn.vc [] Tryz.func48 rfl Tryz.mixed (by kernel_rfl) Tryz.ntmps48 Tryz.results48 (by simp) ?_
  push_cast
  refine ⟨fun h => (decide_eq_false fun e => h (by rw [e])).symm, fun h => ?_⟩
  have hlen : a.length = b.length := by omega
  refine LoopV.cnt Tryz.mixed [0, 1] a.length (fun k => [(5, .c (.d (.int .i64 k)))]) (fun k => a = b ↔ a.drop k = b.drop k) (by simp) ?_
  intro k hk hinv
  push_cast
  refine ⟨fun h => ?_, fun h => ?_⟩
  · obtain ⟨hlt, hlt2⟩ : ∃ hlt : k < a.length, k < b.length := ⟨by omega, by omega⟩
    rw [Fc.eq_step hlt hlt2] at hinv
    have he : a[k] = b[k] ↔ (a[k].val = b[k].val ∧ a[k].cnt = b[k].cnt) := by
      constructor
      · intro e; rw [e]; exact ⟨rfl, rfl⟩
      · intro e; cases h1 : a[k]; cases h2 : b[k]; simp [h1, h2] at e ⊢; exact e
    refine ⟨hlt, hlt2, fun e => (decide_eq_false fun f => ?_).symm, fun e => ⟨by omega, hlt, ?_⟩⟩
    · have := he.1 (hinv.1 f).1
      simp [this] at e
    · rw [hinv, he]; simp [e]
  · exact (decide_eq_true (hinv.2 (Fc.eq_end (by omega) hlen))).symm
theorem c167 (c : Int) : AFn Tryz.prog Γ 167 [.c (.d (.int .u8 c))] [.d (.bool (digI c))] := by
  refine AFn.vc [] Tryz.func167 rfl Tryz.mixed (by kernel_rfl) Tryz.ntmps167 Tryz.results167 (by simp) ?_
  push_cast
  unfold digI
  exact ⟨fun h => decide_eq_decide.2 (by omega), fun h => (decide_eq_false (by omega)).symm⟩
theorem c189 (c : Int) (codes : Str) (hl : codes.length ≤ 2000000) : AFn Tryz.prog Γ 189 [.c (.d (.int .u8 c)), .c (.d (.str codes))] [.d (.bool (inCodes codes c))] := by
  refine AFn.vc [] Tryz.func189 rfl Tryz.mixed (by kernel_rfl) Tryz.ntmps189 Tryz.results189 (by simp) ?_
  push_cast
  refine LoopV.cnt Tryz.mixed [0, 1] codes.length (fun k => [(5, .c (.d (.int .i64 k)))]) (fun k => anyIs codes c = anyIs (codes.drop k) c) (by simp) ?_
  intro k hk hinv
  push_cast
  refine ⟨fun h => ?_, fun h => ?_⟩
  · have hlt : k < codes.length := by omega
    rw [anyIs_step hlt] at hinv
    refine ⟨hlt, fun e => ?_, fun e => ⟨by omega, hlt, ?_⟩⟩
    · rw [decide_eq_true e, Bool.true_or] at hinv
      unfold inCodes
      rw [show codes.any (fun x => decide ((x.toNat : Int) = c)) = true from hinv, Bool.or_true]
    · rw [hinv, decide_eq_false e, Bool.false_or]
  · rw [anyIs_end (by omega)] at hinv
    unfold inCodes
    rw [show codes.any (fun x => decide ((x.toNat : Int) = c)) = false from hinv, Bool.or_false]
    cases codes <;> rfl
theorem c104 (f : Fld) (c : Int) (hl : f.subs.length ≤ 2000000) : AFn Tryz.prog Γ 104 [.agg (f.ds.map C.d), .c (.d (.int .u8 c))] [.d (.str (getS f.subs c).1), .d (.bool (getS f.subs c).2)] := by
  refine AFn.vc [] Tryz.func104 rfl Tryz.mixed (by kernel_rfl) Tryz.ntmps104 Tryz.results104 (by simp) ?_
  push_cast
  refine LoopV.cnt Tryz.mixed [1, 2] f.subs.length (fun k => [(6, .c (.d (.int .i64 k)))]) (fun k => getS f.subs c = getS (f.subs.drop k) c) (by simp) ?_
  intro k hk hinv
  push_cast
  refine ⟨fun h => ?_, fun h => ?_⟩
  · have hlt : k < f.subs.length := by omega
    rw [getS_step hlt] at hinv
    refine ⟨hlt, fun e => ?_, fun e => ⟨by omega, hlt, ?_⟩⟩
    · rw [hinv, if_pos e]; exact ⟨hlt, rfl, rfl⟩
    · rw [hinv, if_neg e]
  · rw [hinv, getS_end (by omega)]; exact ⟨rfl, rfl⟩
theorem c129 (f : Fld) (codes : Str) (hl : f.subs.length ≤ 2000000) (hc : codes.length ≤ 2000000) : AFn Tryz.prog Γ 129 [.agg (f.ds.map C.d), .c (.d (.str codes))] [.d (.lst 1 ((allS f.subs codes).map Fc.sD))] := by
  refine AFn.vc [] Tryz.func129 rfl Tryz.mixed (by kernel_rfl) Tryz.ntmps129 Tryz.results129 (by simp) ?_
  push_cast
  refine LoopV.nilrow 5 9 1 ?_
  push_cast
  refine LoopV.cntH Tryz.mixed [1, 2] f.subs.length (fun k => [(5, .c (.own 1 (allS (f.subs.take k) codes).length)), (6, .c (.d (.int .i64 k)))]) (fun k => [.box 88 (f.ds.map C.d), .row 9 1 ((allS (f.subs.take k) codes).map Fc.sD) (allS (f.subs.take k) codes).length]) (fun _ => True) trivial ?_ (by push_cast; exact ⟨rfl, rfl, rfl⟩)
  intro k hk _
  push_cast
  refine ⟨fun h => ?_, fun h => ?_⟩
  · have hlt : k < f.subs.length := by omega
    refine ⟨hlt, ?_⟩
    refine CallL.q (c189 _ codes hc) ?_
    push_cast
    have hn := allS_next (codes := codes) hlt
    have hb := allS_len (f.subs.take k) codes
    rw [List.length_take] at hb
    refine ⟨fun e => ?_, fun e => ?_⟩
    · rw [if_pos e] at hn
      refine ⟨hlt, by omega, by omega, hlt, by rw [hn]; simp, by rw [hn]; simp [Fc.sD], by rw [hn]; simp⟩
    · rw [if_neg (by rw [e]; simp)] at hn
      refine ⟨by omega, hlt, by rw [hn], by rw [hn], by rw [hn]⟩
  · rw [List.take_of_length_le (by omega)]
theorem join_next {l : List Str} {k : Nat} (sep : Str) (h : k < l.length) : Lib.join (l.take (k + 1)) sep = if k = 0 then l[k] else Lib.join (l.take k) sep ++ sep ++ l[k] := by
  rw [Fc.take_next h]
  generalize hx : l.take k = xs
  have hl : xs.length = k := by rw [← hx, List.length_take]; omega
  cases xs with
  | nil => simp at hl; subst hl; rw [if_pos rfl]; simp [Lib.join_one]
  | cons y r =>
    rw [if_neg (by simp at hl; omega), List.cons_append, Lib.join_cons, Lib.join_cons]
    simp [Lib.joinTail]
theorem join_len_take (l : List Str) (sep : Str) (k : Nat) : (Lib.join (l.take k) sep).length ≤ (Lib.join l sep).length := by
  have key : ∀ (r : List Str) (k : Nat), (Lib.joinTail sep (r.take k)).length ≤ (Lib.joinTail sep r).length := by
    intro r
    induction r with
    | nil => intro k; simp
    | cons x r ih =>
      intro k
      cases k with
      | zero => simp [Lib.joinTail]
      | succ k =>
        have := ih k
        simp only [List.take_succ_cons, Lib.joinTail, List.map_cons, List.flatten_cons, List.length_append] at this ⊢
        omega
  cases l with
  | nil => simp
  | cons x r =>
    cases k with
    | zero => simp [Lib.join_nil]
    | succ k =>
      rw [List.take_succ_cons, Lib.join_cons, Lib.join_cons, List.length_append, List.length_append]
      have := key r k
      omega
theorem c135 (l : List Str) (sep : Str) (hl : l.length ≤ 2000000) (hlen : (Lib.join l sep).length ≤ 1000000000) : AFn Tryz.prog Γ 135 [.c (.d (.lst 1 (l.map Fc.sD))), .c (.d (.str sep))] [.d (.str (Lib.join l sep))] := by
  refine AFn.vc [] Tryz.func135 rfl Tryz.mixed (by kernel_rfl) Tryz.ntmps135 Tryz.results135 (by simp) ?_
  push_cast
  refine LoopV.cnt Tryz.mixed [0, 1] l.length (fun k => [(5, .c (.d (.str (Lib.join (l.take k) sep)))), (6, .c (.d (.int .i64 k)))]) (fun k => True) trivial ?_ (by push_cast; rfl)
  intro k hk _
  push_cast
  refine ⟨fun h => ?_, fun h => by rw [List.take_of_length_le (by omega)]⟩
  have hlt : k < l.length := by omega
  have hn := join_next sep hlt
  have h1 := join_len_take l sep (k + 1)
  rw [hn] at h1
  refine ⟨fun h0 => ?_, fun h0 => ?_⟩
  · rw [if_neg (by omega)] at hn h1
    simp only [List.length_append] at h1
    exact ⟨by omega, hlt, by omega, by omega, hlt, hn⟩
  · obtain rfl : k = 0 := by omega
    rw [if_pos rfl] at hn h1
    simp only [List.take_zero, Lib.join_nil, List.length_nil, List.nil_append]
    exact ⟨hlt, by omega, by omega, hlt, hn⟩
theorem c168 (c : Int) : AFn Tryz.prog Γ 168 [.c (.d (.int .u8 c))] [.d (.bool (codeI c))] := by
  refine AFn.vc [] Tryz.func168 rfl Tryz.mixed (by kernel_rfl) Tryz.ntmps168 Tryz.results168 (by simp) ?_
  push_cast
  refine CallL.q (c167 c) ?_
  push_cast
  unfold codeI
  refine ⟨fun h => ?_, fun h => by rw [h]; rfl⟩
  rw [h, Bool.false_or]
  exact ⟨fun h => decide_eq_decide.2 (by omega), fun h => (decide_eq_false (by omega)).symm⟩
theorem digI_b (x : UInt8) : digI (x.toNat : Int) = digB x := by
  unfold digI digB; exact decide_eq_decide.2 (by omega)
theorem c166 (s : Str) : AFn Tryz.prog Γ 166 [.c (.d (.str s))] [.d (.bool (tagB s))] := by
  refine AFn.vc [] Tryz.func166 rfl Tryz.mixed (by kernel_rfl) Tryz.ntmps166 Tryz.results166 (by simp) ?_
  by_cases h3 : s.length = 3
  · obtain ⟨a, b, c, rfl⟩ : ∃ a b c, s = [a, b, c] := by
      match s, h3 with
      | [a, b, c], _ => exact ⟨a, b, c, rfl⟩
    push_cast
    have ht : tagB [a, b, c] = (digI a.toNat && (digI b.toNat && (digI c.toNat && !Op.bytesLess [a, b, c] [48, 49, 48]))) := by
      unfold tagB
      simp only [List.length_cons, List.length_nil, List.all_cons, List.all_nil, digI_b]
      cases digB a <;> cases digB b <;> cases digB c <;> rfl
    rw [ht]
    refine CallL.q (c167 _) ?_
    push_cast
    refine ⟨fun h1 => ?_, fun h1 => by rw [h1]; rfl⟩
    rw [h1, Bool.true_and]
    refine CallL.q (c167 _) ?_
    push_cast
    refine ⟨fun h1 => ?_, fun h1 => by rw [h1]; rfl⟩
    rw [h1, Bool.true_and]
    refine CallL.q (c167 _) ?_
    push_cast
    refine ⟨fun h1 => ?_, fun h1 => by rw [h1]; rfl⟩
    rw [h1, Bool.true_and]
  · push_cast [show ((List.length s : Int) = 3) = False from eq_false (by omega)]
    unfold tagB
    rw [decide_eq_false h3]; rfl
theorem c105 (f : Fld) (codes : Str) (hl : f.subs.length ≤ 2000000) (hc : codes.length ≤ 2000000) (hlen : (Lib.join (allS f.subs codes) [32]).length ≤ 1000000000) : AFn Tryz.prog Γ 105 [.agg (f.ds.map C.d), .c (.d (.str codes))] [.d (.str (Lib.join (allS f.subs codes) [32]))] := by
  refine AFn.vc [] Tryz.func105 rfl Tryz.mixed (by kernel_rfl) Tryz.ntmps105 Tryz.results105 (by simp) ?_
  push_cast
  refine CallL.q (c129 f codes hl hc) ?_
  push_cast
  have hb := allS_len f.subs codes
  refine CallL.q (c135 _ [32] (by omega) hlen) ?_
  push_cast
end Go.Proofs

/- Walks: validity of fields and records (reference). -/
namespace Go.Proofs
open Go Go.Ax Go.Tx Go.Fc
set_option maxRecDepth 100000
set_option maxHeartbeats 0
variable {Γ : List (Nat × List D)}
theorem c120 (f : Fld) (hs : f.sm) : AFn Tryz.prog Γ 120 [.agg (f.ds.map C.d)] [.d (.int .i64 (rightF f))] := by
  generalize hR : rightF f = R
  have k1 : tagB f.tag = false → R = 6 := fun h => by rw [← hR, rightF, if_pos h]
  have k2 : tagB f.tag = true → indB f.ind = false → R = 3 := fun h h' => by rw [← hR, rightF, if_neg (by rw [h]; simp), if_pos h']
  have k3 : tagB f.tag = true → indB f.ind = true → f.subs.length = 0 → R = 8 := fun h h' h2 => by rw [← hR, rightF, if_neg (by rw [h]; simp), if_neg (by rw [h']; simp), if_pos h2]
  have k4 : tagB f.tag = true → indB f.ind = true → ¬ f.subs.length = 0 → 16 < f.subs.length → R = 4 := fun h h' h2 h3 => by rw [← hR, rightF, if_neg (by rw [h]; simp), if_neg (by rw [h']; simp), if_neg h2, if_pos h3]
  have k5 : tagB f.tag = true → indB f.ind = true → ¬ f.subs.length = 0 → ¬ 16 < f.subs.length → R = if rightSs f.subs = 0 then (if f.auth < 0 ∨ 9999 < f.auth then 2 else 0) else rightSs f.subs := fun h h' h2 h3 => by rw [← hR, rightF, if_neg (by rw [h]; simp), if_neg (by rw [h']; simp), if_neg h2, if_neg h3]
  clear hR
  refine AFn.vc [] Tryz.func120 rfl Tryz.mixed (by kernel_rfl) Tryz.ntmps120 Tryz.results120 (by simp) ?_
  push_cast
  refine CallL.q (c166 f.tag) ?_
  push_cast
  refine ⟨fun h1 => (k1 h1).symm, fun h1 => ?_⟩
  by_cases h2 : f.ind.length = 2
  · obtain ⟨tag, ind, subs, auth⟩ := f
    simp only at h1 h2 k2 k3 k4 k5 ⊢
    obtain ⟨a, b, rfl⟩ : ∃ a b, ind = [a, b] := by
      match ind, h2 with
      | [a, b], _ => exact ⟨a, b, rfl⟩
    have hi : indB [a, b] = ((decide (a.toNat = 32) || digB a) && (decide (b.toNat = 32) || digB b)) := by
      unfold indB
      simp only [List.length_cons, List.length_nil, List.all_cons, List.all_nil]
      simp
    rw [hi] at k2 k3 k4 k5
    have k2 := k2 h1
    have k3 := k3 h1
    have k4 := k4 h1
    have k5 := k5 h1
    have ea : (((a.toNat : Nat) : Int) = 32) = True ∧ decide (a.toNat = 32) = true ∨ (((a.toNat : Nat) : Int) = 32) = False ∧ decide (a.toNat = 32) = false := by
      by_cases h : a.toNat = 32
      · exact .inl ⟨eq_true (by omega), decide_eq_true h⟩
      · exact .inr ⟨eq_false (by omega), decide_eq_false h⟩
    have eb : (((b.toNat : Nat) : Int) = 32) = True ∧ decide (b.toNat = 32) = true ∨ (((b.toNat : Nat) : Int) = 32) = False ∧ decide (b.toNat = 32) = false := by
      by_cases h : b.toNat = 32
      · exact .inl ⟨eq_true (by omega), decide_eq_true h⟩
      · exact .inr ⟨eq_false (by omega), decide_eq_false h⟩
    rcases ea with ⟨ea, ea2⟩ | ⟨ea, ea2⟩ <;> rcases eb with ⟨eb, eb2⟩ | ⟨eb, eb2⟩ <;> cases hda : digB a <;> cases hdb : digB b <;> rw [ea2, eb2, hda, hdb] at k2 k3 k4 k5
    all_goals
      push_cast [ea, eb]
      repeat
        refine CallL.q (c167 _) ?_
        push_cast [ea, eb, digI_b, hda, hdb]
      first
        | exact (k2 rfl).symm
        | (refine ⟨fun h3 => (k3 rfl (by omega)).symm, fun h3 => ⟨fun h4 => (k4 rfl (by omega) (by omega)).symm, fun h4 => ?_⟩⟩
           have k5 := k5 rfl (by omega) (by omega)
           clear k2 k3 k4
           refine LoopV.cntH Tryz.mixed [1] subs.length (fun k => [(3, .c (.d (.int .i64 k)))]) (fun _ => [.box 88 [.d (.str tag), .d (.str [a, b]), .d (.lst 2 (subs.map Sb.ds)), .d (.int .i64 auth)]]) (fun k => rightSs subs = rightSs (subs.drop k)) (by simp) ?_ (by push_cast)
           intro k hk hinv
           push_cast
           refine ⟨fun h6 => ?_, fun h6 => ?_⟩
           · have hlt : k < subs.length := by omega
             have hst := rightSs_step hlt
             rw [← hinv] at hst
             have hr : ∀ n, rightS subs[k] = n → n ≠ 0 → n = R := fun n h h' => by
               rw [h, if_neg h'] at hst
               rw [k5, hst, if_neg h']
             have hv := hs subs[k] (List.getElem_mem hlt)
             refine ⟨hlt, ?_⟩
             refine CallL.q (c168 _) ?_
             push_cast
             refine ⟨fun e1 => hr 1 (by unfold rightS; rw [if_pos e1]) (by omega), fun e1 => ⟨fun e2 => hr 8 (by unfold rightS; rw [if_neg (by rw [e1]; simp), if_pos e2]) (by omega), fun e2 => ?_⟩⟩
             refine CallL.q (c25 _ (Nat.le_trans hv (by decide))) ?_
             push_cast
             refine ⟨fun e3 => hr 3 (by unfold rightS; rw [if_neg (by rw [e1]; simp), if_neg e2, if_pos e3]) (by omega), fun e3 => ⟨fun e4 => hr 4 (by unfold rightS; rw [if_neg (by rw [e1]; simp), if_neg e2, if_neg (by rw [e3]; simp), if_pos (by omega)]) (by omega), fun e4 => ?_⟩⟩
             have hz : rightS subs[k] = 0 := by unfold rightS; rw [if_neg (by rw [e1]; simp), if_neg e2, if_neg (by rw [e3]; simp), if_neg (by omega)]
             rw [if_pos hz] at hst
             exact ⟨by omega, hlt, hst⟩
           · rw [rightSs_end (by omega)] at hinv
             rw [if_pos hinv] at k5
             clear hinv ea eb
             repeat' (first | apply And.intro | intro _)
             all_goals (rw [k5]; split <;> omega))
  · push_cast [show ((List.length f.ind : Int) = 2) = False from eq_false (by omega)]
    exact (k2 h1 (by unfold indB; rw [decide_eq_false h2]; rfl)).symm
end Go.Proofs

/- Walks: validity of records (reference). -/
namespace Go.Proofs
open Go Go.Ax Go.Tx Go.Fc
set_option maxRecDepth 100000
set_option maxHeartbeats 0
variable {Γ : List (Nat × List D)}
theorem c58 (r : Rec) (hs : r.sm) : AFn Tryz.prog Γ 58 [.agg (r.ds.map C.d)] [.d (.int .i64 (rightR r))] := by
  generalize hR : rightR r = R
  obtain ⟨id, ver, kind, lang, fields⟩ := r
  unfold rightR at hR
  simp only at hR
  have k1 : (id < 0 ∨ 9999 < id) → R = 2 := fun h => by rw [← hR, if_pos h]
  have k2 : ¬ (id < 0 ∨ 9999 < id) → (ver < 1 ∨ 3 < ver) → R = 20 := fun h h' => by rw [← hR, if_neg h, if_pos h']
  have k3 : ¬ (id < 0 ∨ 9999 < id) → ¬ (ver < 1 ∨ 3 < ver) → (kind < 1 ∨ 4 < kind) → R = 1 := fun h h' h2 => by rw [← hR, if_neg h, if_neg h', if_pos h2]
  have k4 : ¬ (id < 0 ∨ 9999 < id) → ¬ (ver < 1 ∨ 3 < ver) → ¬ (kind < 1 ∨ 4 < kind) → R = if lang.length = 3 then (if langB lang = false then 3 else if 64 < fields.length then 4 else rightFs fields) else 3 := fun h h' h2 => by rw [← hR, if_neg h, if_neg h', if_neg h2]
  clear hR
  refine AFn.vc [] Tryz.func58 rfl Tryz.mixed (by kernel_rfl) Tryz.ntmps58 Tryz.results58 (by simp) ?_
  push_cast
  refine ⟨fun a1 => ⟨fun a2 => (k1 (by omega)).symm, fun a2 => ⟨fun b1 => ⟨fun b2 => (k2 (by omega) (by omega)).symm, fun b2 => ⟨fun c1 => ⟨fun c2 => (k3 (by omega) (by omega) (by omega)).symm, fun c2 => ?_⟩, fun c1 => (k3 (by omega) (by omega) (by omega)).symm⟩⟩, fun b1 => (k2 (by omega) (by omega)).symm⟩⟩, fun a1 => (k1 (by omega)).symm⟩
  have k4 := k4 (by omega) (by omega) (by omega)
  clear k1 k2 k3
  refine ⟨fun h3 => by rw [k4, if_neg (by omega)], fun h3 => ?_⟩
  rw [if_pos (by omega)] at k4
  refine LoopV.cntH Tryz.mixed [1] 3 (fun k => [(3, .c (.d (.int .i64 k)))]) (fun _ => [.box 64 [.d (.int .i64 id), .d (.int .i64 ver), .d (.int .i64 kind), .d (.str lang), .d (.lst 4 (fields.map Fld.ds))]]) (fun k => langB lang = langB (lang.drop k)) (by simp) ?_ (by push_cast)
  intro k hk hinv
  push_cast
  refine ⟨fun h6 => ?_, fun h6 => ?_⟩
  · have hlt : k < lang.length := by omega
    have hst : langB (lang.drop k) = (decide (97 ≤ lang[k].toNat ∧ lang[k].toNat ≤ 122) && langB (lang.drop (k + 1))) := by rw [Fc.drop_cons hlt]; rfl
    rw [hst] at hinv
    have hbad : ¬ (97 ≤ lang[k].toNat ∧ lang[k].toNat ≤ 122) → 3 = R := fun h => by
      rw [decide_eq_false h, Bool.false_and] at hinv
      rw [k4, if_pos hinv]
    refine ⟨hlt, fun e1 => ⟨hlt, fun e2 => hbad (by omega), fun e2 => ⟨by omega, by omega, ?_⟩⟩, fun e1 => hbad (by omega)⟩
    rw [hinv, decide_eq_true (by omega), Bool.true_and]
  · have hd : langB lang = true := by rw [hinv, List.drop_eq_nil_of_le (by omega)]; rfl
    rw [if_neg (by rw [hd]; simp)] at k4
    clear hinv
    refine ⟨fun h7 => by rw [k4, if_pos (by omega)], fun h7 => ?_⟩
    rw [if_neg (by omega)] at k4
    refine LoopV.cntH Tryz.mixed [1] fields.length (fun k => [(4, .c (.d (.int .i64 k)))]) (fun _ => [.box 64 [.d (.int .i64 id), .d (.int .i64 ver), .d (.int .i64 kind), .d (.str lang), .d (.lst 4 (fields.map Fld.ds))]]) (fun k => rightFs fields = rightFs (fields.drop k)) (by simp) ?_ (by push_cast)
    intro k hk hinv
    push_cast
    refine ⟨fun h6 => ?_, fun h6 => ?_⟩
    · have hlt : k < fields.length := by omega
      have hst := rightFs_step hlt
      rw [← hinv] at hst
      refine ⟨hlt, ?_⟩
      refine CallL.q (c120 fields[k] (hs _ (List.getElem_mem hlt))) ?_
      push_cast
      refine ⟨fun e1 => ?_, fun e1 => ⟨by omega, hlt, by rw [if_pos e1] at hst; exact hst⟩⟩
      rw [if_neg e1] at hst
      rw [k4, hst]
    · rw [k4, hinv, rightFs_end (by omega)]
def fewB (l : List Rec) (n : Nat) : Bool := decide (l.length ≤ 8) && (decide (n ≤ 20) && l.all fun r => decide (r.fields.length ≤ 12) && decide (rightR r = 0))
theorem c44 (l : List Rec) (ids : List Int) (hs : ∀ r ∈ l, r.sm) : AFn Tryz.prog Γ 44 [.c (.d (.lst 5 (l.map Rec.ds))), .c (.d (.lst 1 (ids.map Fc.iD)))] [.d (.bool (fewB l ids.length))] := by
  generalize hR : fewB l ids.length = R
  unfold fewB at hR
  have hst : ∀ k (h : k < l.length), (l.drop k).all (fun r => decide (r.fields.length ≤ 12) && decide (rightR r = 0)) = ((decide (l[k].fields.length ≤ 12) && decide (rightR l[k] = 0)) && (l.drop (k + 1)).all (fun r => decide (r.fields.length ≤ 12) && decide (rightR r = 0))) := fun k h => by rw [Fc.drop_cons h]; rfl
  refine AFn.vc [] Tryz.func44 rfl Tryz.mixed (by kernel_rfl) Tryz.ntmps44 Tryz.results44 (by simp) ?_
  push_cast
  refine ⟨fun h1 => ⟨fun h2 => ?_, fun h2 => ?_⟩, fun h1 => ?_⟩
  · rw [← hR, decide_eq_false (by omega : ¬ ids.length ≤ 20)]; simp
  · rw [decide_eq_true (by omega : ids.length ≤ 20), decide_eq_true (by omega : l.length ≤ 8), Bool.true_and, Bool.true_and] at hR
    refine LoopV.cnt Tryz.mixed [0] l.length (fun k => [(5, .c (.d (.int .i64 k)))]) (fun k => (l.drop k).all (fun r => decide (r.fields.length ≤ 12) && decide (rightR r = 0)) = R) (by simpa using hR) ?_ (by push_cast)
    intro k hk hinv
    push_cast
    refine ⟨fun h6 => ?_, fun h6 => ?_⟩
    · have hlt : k < l.length := by omega
      rw [hst k hlt] at hinv
      refine ⟨hlt, fun e1 => ⟨hlt, ?_⟩, fun e1 => ?_⟩
      · refine CallL.q (c58 l[k] (hs _ (List.getElem_mem hlt))) ?_
        push_cast
        rw [decide_eq_true (by omega : l[k].fields.length ≤ 12), Bool.true_and] at hinv
        refine ⟨fun e2 => ?_, fun e2 => ?_⟩
        · rw [decide_eq_false e2, Bool.false_and] at hinv; exact hinv
        · rw [decide_eq_true e2, Bool.true_and] at hinv
          exact ⟨by omega, hlt, hinv⟩
      · rw [decide_eq_false (by omega : ¬ l[k].fields.length ≤ 12), Bool.false_and, Bool.false_and] at hinv; exact hinv
    · rw [List.drop_eq_nil_of_le (by omega)] at hinv
      exact hinv
  · rw [← hR, decide_eq_false (by omega : ¬ l.length ≤ 8)]; simp
end Go.Proofs

/- Walks: values of facets (reference), first part. -/
namespace Go.Proofs
open Go Go.Ax Go.Tx Go.Fc Go.Or
set_option maxRecDepth 100000
set_option maxHeartbeats 0
variable {Γ : List (Nat × List D)}
theorem c101 (l : List Str) (n : Str) (hl : l.length ≤ 2000000) : AFn Tryz.prog Γ 101 [.c (.d (.lst 1 (l.map Fc.sD))), .c (.d (.str n))] [.d (.lst 1 ((putS l n).map Fc.sD))] := by
  by_cases hn : n = []
  · subst hn
    refine AFn.vc [] Tryz.func101 rfl Tryz.mixed (by kernel_rfl) Tryz.ntmps101 Tryz.results101 (by simp) ?_
    push_cast
    rfl
  rw [show putS l n = Or.put ltS l n false from if_neg hn]
  refine AFn.vc [] Tryz.func101 rfl Tryz.mixed (by kernel_rfl) Tryz.ntmps101 Tryz.results101 (by simp) ?_
  push_cast [show (n = []) = False from eq_false hn]
  refine LoopV.nilrow 5 9 1 ?_
  push_cast
  refine LoopV.of Tryz.mixed [0, 1] (S := Nat × List Str × Bool) (fun s => [(5, .c (.own 0 s.2.1.length)), (6, .c (.d (.bool s.2.2))), (7, .c (.d (.int .i64 s.1)))]) (fun s => [.row 9 1 (s.2.1.map Fc.sD) s.2.1.length]) (fun s => s.1 ≤ l.length ∧ s.2.1.length ≤ 2 * s.1 ∧ Or.put ltS l n false = s.2.1 ++ Or.put ltS (l.drop s.1) n s.2.2) (fun s => l.length - s.1) (0, [], false) (by simp) (by push_cast) ?_
  rintro ⟨k, o, d⟩ ⟨hk, ho, hinv⟩
  simp only at hk ho hinv
  push_cast
  refine ⟨fun h => ?_, fun h => ?_⟩
  · obtain ⟨hlt, _⟩ : ∃ hlt : k < l.length, True := ⟨by omega, trivial⟩
    rw [put_step hlt] at hinv
    refine ⟨hlt, fun e => ⟨hlt, by omega, by omega, (k + 1, o ++ [l[k]], true), ⟨⟨by show k + 1 ≤ _; omega, by simp <;> omega, ?_⟩, by show l.length - (k + 1) < _; omega⟩, ⟨by simp, rfl, by push_cast⟩, by simp [Fc.sD], by simp⟩, fun e => ⟨fun f => ⟨hlt, fun g => ⟨by omega, hlt, by omega, by omega, (k + 1, o ++ [n, l[k]], true), ⟨⟨by show k + 1 ≤ _; omega, by simp <;> omega, ?_⟩, by show l.length - (k + 1) < _; omega⟩, ⟨by simp, rfl, by push_cast⟩, by simp [Fc.sD], by simp⟩, fun g => ⟨hlt, by omega, by omega, (k + 1, o ++ [l[k]], d), ⟨⟨by show k + 1 ≤ _; omega, by simp <;> omega, ?_⟩, by show l.length - (k + 1) < _; omega⟩, ⟨by simp, rfl, by push_cast⟩, by simp [Fc.sD], by simp⟩⟩, fun f => ⟨hlt, by omega, by omega, (k + 1, o ++ [l[k]], d), ⟨⟨by show k + 1 ≤ _; omega, by simp <;> omega, ?_⟩, by show l.length - (k + 1) < _; omega⟩, ⟨by simp, rfl, by push_cast⟩, by simp [Fc.sD], by simp⟩⟩⟩
    · rw [hinv, if_neg (by simp [e])]; simp [e]
    · rw [hinv, if_pos ⟨f, e, g⟩]; simp
    · rw [hinv, if_neg (by intro h; exact absurd h.2.2 (by unfold ltS; rw [g]; simp))]; simp [f, e]
    · rw [hinv, if_neg (by simp [f])]; simp [e, f]
  · rw [put_end (by omega)] at hinv
    refine ⟨fun f => ⟨by omega, ?_⟩, fun f => ?_⟩
    · rw [hinv, f]; simp [Fc.sD]
    · rw [hinv, f]; simp [Fc.sD]
def YI (s : Str) (R : Int) (q : Nat × Int × Int) : Prop := q.1 ≤ s.length + 1 ∧ (q.1 ≤ s.length → yrG (s.drop q.1) q.2.1 q.2.2 = R) ∧ (q.1 = s.length + 1 → R = 0) ∧ (0 ≤ q.2.1 ∧ q.2.1 ≤ 9999) ∧ (0 ≤ q.2.2 ∧ q.2.2 ≤ q.1) ∧ (q.2.2 ≤ 3 → q.2.1 < 1000) ∧ (q.2.2 ≤ 2 → q.2.1 < 100) ∧ (q.2.2 ≤ 1 → q.2.1 < 10) ∧ (q.2.2 = 0 → q.2.1 = 0)
theorem c159 (s : Str) (hs : s.length ≤ 2000000) : AFn Tryz.prog Γ 159 [.c (.d (.str s))] [.d (.int .i64 (yearS s))] := by
  generalize hR : yearS s = R
  refine AFn.vc [] Tryz.func159 rfl Tryz.mixed (by kernel_rfl) Tryz.ntmps159 Tryz.results159 (by simp) ?_
  push_cast
  refine LoopV.of0 Tryz.mixed [0] (S := Nat × Int × Int) (fun q => [(3, .c (.d (.int .i64 q.2.1))), (4, .c (.d (.int .i64 q.2.2))), (5, .c (.d (.int .i64 q.1)))]) (YI s R) (fun q => s.length + 1 - q.1) (0, 0, 0) ⟨Nat.zero_le _, fun _ => by simpa [yearS] using hR, by simp, by simp, by simp, by simp, by simp, by simp, by simp⟩ ?_ (by push_cast)
  rintro ⟨k, n, g⟩ ⟨hk, hi, hz, hn, hg, a1, a2, a3, a4⟩
  simp only at hk hi hz hn hg a1 a2 a3 a4
  push_cast
  have fin : ∀ n' g', YI s R (k + 1, n', g') → k ≤ s.length → ∃ s' : Nat × Int × Int, (YI s R s' ∧ s.length + 1 - s'.1 < s.length + 1 - k) ∧ s'.2.1 = n' ∧ s'.2.2 = g' ∧ (s'.1 : Int) = k + 1 := fun n' g' h hk => ⟨(k + 1, n', g'), ⟨h, by show s.length + 1 - (k + 1) < _; omega⟩, rfl, rfl, rfl⟩
  have zz : ((k + 1 ≤ s.length → yrG (s.drop (k + 1)) 0 0 = R) ∧ (k = s.length → R = 0)) → k ≤ s.length → YI s R (k + 1, 0, 0) := fun h h2 => ⟨by show k + 1 ≤ _; omega, h.1, fun e => h.2 (by simp only at e; omega), by simp, by simp; omega, by simp, by simp, by simp, by simp⟩
  refine ⟨fun h1 => ⟨fun h2 => ⟨by omega, fun h3 => ⟨by omega, fun h4 => ?_, fun h4 => ?_⟩, fun h3 => ?_⟩, fun h2 => ?_⟩, fun h1 => (hz (by omega)).symm⟩
  · have hlt : k < s.length := by omega
    have hi := hi (by omega)
    rw [Fc.drop_cons hlt] at hi
    unfold yrG at hi
    rw [if_pos (by unfold digB; simp; omega)] at hi
    refine ⟨by omega, fun h5 => ⟨by omega, hlt, by omega, by omega, by omega, by omega, fin _ _ ⟨by show k + 1 ≤ _; omega, fun _ => by rw [if_pos h5] at hi; exact hi, fun e => by simp only at e; omega, by show 0 ≤ n * 10 + ((s[k].toNat : Int) - 48) ∧ n * 10 + ((s[k].toNat : Int) - 48) ≤ 9999; omega, by show 0 ≤ g + 1 ∧ g + 1 ≤ ((k + 1 : Nat) : Int); omega, by show g + 1 ≤ 3 → n * 10 + _ < (1000 : Int); omega, by show g + 1 ≤ 2 → n * 10 + _ < (100 : Int); omega, by show g + 1 ≤ 1 → n * 10 + _ < (10 : Int); omega, by show g + 1 = 0 → n * 10 + _ = (0 : Int); omega⟩ (by omega)⟩, fun h5 => ⟨by omega, fin _ _ ⟨by show k + 1 ≤ _; omega, fun _ => by rw [if_neg (by omega)] at hi; exact hi, fun e => by simp only at e; omega, hn, by show 0 ≤ g + 1 ∧ g + 1 ≤ ((k + 1 : Nat) : Int); omega, by show g + 1 ≤ 3 → n < (1000 : Int); omega, by show g + 1 ≤ 2 → n < (100 : Int); omega, by show g + 1 ≤ 1 → n < (10 : Int); omega, by show g + 1 = 0 → n = (0 : Int); omega⟩ (by omega)⟩⟩
  · have hlt : k < s.length := by omega
    have hi := hi (by omega)
    rw [Fc.drop_cons hlt] at hi
    unfold yrG at hi
    rw [if_neg (by unfold digB; simp; omega)] at hi
    refine ⟨fun c1 => ⟨fun c2 => ⟨fun c3 => by rw [if_pos ⟨c1, c2, c3⟩] at hi; exact hi, fun c3 => ⟨by omega, fin 0 0 (zz ⟨fun _ => by rw [if_neg (by omega)] at hi; exact hi, fun e => by omega⟩ (by omega)) (by omega)⟩⟩, fun c2 => ⟨by omega, fin 0 0 (zz ⟨fun _ => by rw [if_neg (by omega)] at hi; exact hi, fun e => by omega⟩ (by omega)) (by omega)⟩⟩, fun c1 => ⟨by omega, fin 0 0 (zz ⟨fun _ => by rw [if_neg (by omega)] at hi; exact hi, fun e => by omega⟩ (by omega)) (by omega)⟩⟩
  · have hlt : k < s.length := by omega
    have hi := hi (by omega)
    rw [Fc.drop_cons hlt] at hi
    unfold yrG at hi
    rw [if_neg (by unfold digB; simp; omega)] at hi
    refine ⟨fun c1 => ⟨fun c2 => ⟨fun c3 => by rw [if_pos ⟨c1, c2, c3⟩] at hi; exact hi, fun c3 => ⟨by omega, fin 0 0 (zz ⟨fun _ => by rw [if_neg (by omega)] at hi; exact hi, fun e => by omega⟩ (by omega)) (by omega)⟩⟩, fun c2 => ⟨by omega, fin 0 0 (zz ⟨fun _ => by rw [if_neg (by omega)] at hi; exact hi, fun e => by omega⟩ (by omega)) (by omega)⟩⟩, fun c1 => ⟨by omega, fin 0 0 (zz ⟨fun _ => by rw [if_neg (by omega)] at hi; exact hi, fun e => by omega⟩ (by omega)) (by omega)⟩⟩
  · have hi := hi (by omega)
    rw [List.drop_eq_nil_of_le (by omega)] at hi
    unfold yrG at hi
    refine ⟨fun c1 => ⟨fun c2 => ⟨fun c3 => by rw [if_pos ⟨c1, c2, c3⟩] at hi; exact hi, fun c3 => ⟨by omega, fin 0 0 (zz ⟨fun e => by omega, fun _ => by rw [if_neg (by omega)] at hi; exact hi.symm⟩ (by omega)) (by omega)⟩⟩, fun c2 => ⟨by omega, fin 0 0 (zz ⟨fun e => by omega, fun _ => by rw [if_neg (by omega)] at hi; exact hi.symm⟩ (by omega)) (by omega)⟩⟩, fun c1 => ⟨by omega, fin 0 0 (zz ⟨fun e => by omega, fun _ => by rw [if_neg (by omega)] at hi; exact hi.symm⟩ (by omega)) (by omega)⟩⟩
theorem c102 (r : Rec) (hs : r.sm) (hf : r.fields.length ≤ 2000) (hu : ∀ f ∈ r.fields, f.subs.length ≤ 2000) : AFn Tryz.prog Γ 102 [.agg (r.ds.map C.d)] [.d (.int .i64 (yearFs r.fields))] := by
  generalize hR : yearFs r.fields = R
  obtain ⟨id, ver, kind, lang, fields⟩ := r
  simp only at hf hu hR
  refine AFn.vc [] Tryz.func102 rfl Tryz.mixed (by kernel_rfl) Tryz.ntmps102 Tryz.results102 (by simp) ?_
  push_cast
  refine LoopV.cntH Tryz.mixed [1] fields.length (fun k => [(3, .c (.d (.int .i64 k)))]) (fun _ => [.box 64 [.d (.int .i64 id), .d (.int .i64 ver), .d (.int .i64 kind), .d (.str lang), .d (.lst 4 (fields.map Fld.ds))]]) (fun k => yearFs (fields.drop k) = R) (by simpa using hR) ?_ (by push_cast)
  intro k hk hinv
  push_cast
  have hst : ∀ h : k < fields.length, _ := fun h => yearFs_step h
  refine ⟨fun h => ?_, fun h => by rw [yearFs_end (by omega)] at hinv; exact hinv⟩
  have hlt : k < fields.length := by omega
  have hst := hst hlt
  rw [hinv] at hst
  have hno : isYT fields[k].tag = false → yearFs (fields.drop (k + 1)) = R := fun h => by rw [h, if_neg (by simp)] at hst; exact hst.symm
  refine ⟨hlt, fun e1 => ⟨hlt, fun e2 => ⟨by omega, hlt, hno (by unfold isYT; simp [e1, e2])⟩, fun e2 => ⟨hlt, ?_⟩⟩, fun e1 => ⟨hlt, ?_⟩⟩
  all_goals
    have hy : isYT fields[k].tag = true := by unfold isYT; simp [*]
    clear hno
    have hu1 := hu _ (List.getElem_mem hlt)
    have hs1 : ∀ s ∈ fields[k].subs, s.val.length ≤ 2000000 := hs _ (List.getElem_mem hlt)
    refine CallL.q (c129 fields[k] [99] (by omega) (by simp)) ?_
    push_cast
    have hlen := allS_len fields[k].subs [99]
    have hmem : ∀ v ∈ allS fields[k].subs [99], v.length ≤ 2000000 := fun v hv => by
      obtain ⟨s, h1, rfl⟩ := allS_mem hv
      exact hs1 s h1
    generalize allS fields[k].subs [99] = vs at *
    refine LoopV.cntH Tryz.mixed [1, 3, 4] vs.length (fun j => [(5, .c (.d (.int .i64 j)))]) (fun _ => [.box 64 [.d (.int .i64 id), .d (.int .i64 ver), .d (.int .i64 kind), .d (.str lang), .d (.lst 4 (fields.map Fld.ds))]]) (fun j => yearSs (vs.drop j) = yearSs vs) (by simp) ?_ (by push_cast)
    intro j hj hjv
    push_cast
    refine ⟨fun h5 => ?_, fun h5 => ?_⟩
    · have hjl : j < vs.length := by omega
      rw [yearSs_step hjl] at hjv
      refine ⟨hjl, ?_⟩
      refine CallL.q (c159 vs[j] (hmem _ (List.getElem_mem hjl))) ?_
      push_cast
      refine ⟨fun e => ?_, fun e => ⟨by omega, hjl, by rw [if_neg (by omega)] at hjv; exact hjv⟩⟩
      rw [if_pos e] at hjv
      rw [if_pos ⟨hy, by rw [← hjv]; exact e⟩, ← hjv] at hst
      exact hst.symm
    · rw [yearSs_end (by omega)] at hjv
      rw [if_neg (by rw [← hjv]; simp)] at hst
      exact ⟨by omega, hlt, hst.symm⟩
end Go.Proofs

/- Walks: values of facets (reference), second part. -/
namespace Go.Proofs
open Go Go.Ax Go.Tx Go.Fc Go.Or Go.Lib
set_option maxRecDepth 100000
set_option maxHeartbeats 0
variable {Γ : List (Nat × List D)}
theorem c103 (n : Nat) (w : Nat) (hw : w ≤ (decDigits n).length) (hn : (n : Int) ≤ 9223372036854775807) : AFn Tryz.prog Γ 103 [.c (.d (.int .i64 n)), .c (.d (.int .i64 w))] [.d (.str (decDigits n))] := by
  refine AFn.vc [] Tryz.func103 rfl Tryz.mixed (by kernel_rfl) Tryz.ntmps103 Tryz.results103 (by simp) ?_
  push_cast
  refine LoopV.of Tryz.mixed [1, 5] (S := Nat × List UInt8) (fun s => [(0, .c (.d (.int .i64 s.1))), (6, .c (.d (.str s.2)))]) (fun _ => []) (fun s => DigI n s ∧ s.1 ≤ n ∧ (s.2 = [] ∨ s.2.length + s.1 ≤ n / 10 + 1)) (fun s => s.1 + (if s.2 = [] then 1 else 0)) (n, []) ⟨.inl ⟨rfl, rfl⟩, by simp, .inl rfl⟩ (by push_cast) ?_
  rintro ⟨m, o⟩ ⟨hI, hm, hlo⟩
  simp only at hm hlo
  push_cast
  have hsub : ((([48, 49, 50, 51, 52, 53, 54, 55, 56, 57] : List UInt8).drop ((m : Int) % 10).toNat).take (((m : Int) % 10 + 1).toNat - ((m : Int) % 10).toNat)) = [UInt8.ofNat (48 + m % 10)] := by
    rw [show ((m : Int) % 10).toNat = m % 10 by omega, show ((m : Int) % 10 + 1).toNat - m % 10 = 1 by omega]
    exact digit_at _ (Nat.mod_lt _ (by decide))
  have hol : o.length ≤ n / 10 + 1 := by
    rcases hlo with h | h
    · rw [h]; simp
    · omega
  have hmn : o = [] → m = n := fun h => by
    rcases hI with ⟨_, h2⟩ | ⟨h1, _⟩
    · exact h2
    · exact absurd h h1
  have hnext : 0 < m ∨ o = [] → (UInt8.ofNat (48 + m % 10) :: o).length + m / 10 ≤ n / 10 + 1 := fun h => by
    simp only [List.length_cons]
    rcases hlo with h2 | h2
    · have := hmn h2
      rw [h2]
      simp only [List.length_nil]
      omega
    · rcases h with h | h
      · omega
      · have := hmn h
        rw [h]
        simp only [List.length_nil]
        omega
  refine ⟨fun h => ⟨fun ho => ?_, fun ho => ?_⟩, fun h => ?_⟩
  · refine ⟨by omega, by omega, by omega, by omega, by omega, by omega, (m / 10, UInt8.ofNat (48 + m % 10) :: o), ⟨⟨hI.next (.inr ho), by show m / 10 ≤ n; omega, .inr (hnext (.inr ho))⟩, ?_⟩, rfl, by rw [hsub]; rfl⟩
    show m / 10 + (if _ = [] then 1 else 0) < m + _
    rw [if_neg (by simp), if_pos ho]
    omega
  · have hr := hI.done (by omega) ho
    have hpos : 0 < o.length := List.length_pos_iff.2 ho
    refine LoopV.of Tryz.mixed [1] (S := Unit) (fun _ => [(6, .c (.d (.str o)))]) (fun _ => []) (fun _ => True) (fun _ => 0) () trivial (by push_cast) ?_
    intro _ _
    push_cast
    have hol2 : o.length = (decDigits n).length := by rw [← hr]
    refine ⟨fun h => ?_, fun _ => hr⟩
    omega
  · refine ⟨by omega, by omega, by omega, by omega, by omega, by omega, (m / 10, UInt8.ofNat (48 + m % 10) :: o), ⟨⟨hI.next (.inl (by omega)), by show m / 10 ≤ n; omega, .inr (hnext (.inl (by omega)))⟩, ?_⟩, rfl, by rw [hsub]; rfl⟩
    show m / 10 + (if _ = [] then 1 else 0) < m + _
    rw [if_neg (by simp)]
    omega
theorem c103i (n : Int) (w : Nat) (h0 : 0 ≤ n) (hn : n ≤ 9223372036854775807) (hw : w ≤ (decDigits n.toNat).length) : AFn Tryz.prog Γ 103 [.c (.d (.int .i64 n)), .c (.d (.int .i64 w))] [.d (.str (decDigits n.toNat))] := by
  obtain ⟨k, rfl⟩ : ∃ k : Nat, n = k := ⟨n.toNat, by omega⟩
  exact c103 k w hw hn
theorem c47_1 (r : Rec) : AFn Tryz.prog Γ 47 [.c (.d (.int .i64 1)), .agg (r.ds.map C.d)] [.d (.lst 1 ((valuesF 1 r).map Fc.sD))] := by
  refine AFn.vc [] Tryz.func47 rfl Tryz.mixed (by kernel_rfl) Tryz.ntmps47 Tryz.results47 (by simp) ?_
  push_cast
  refine CallL.q (c101 [] r.lang (by simp)) ?_
  push_cast
  rfl
theorem c47_2 (r : Rec) : AFn Tryz.prog Γ 47 [.c (.d (.int .i64 2)), .agg (r.ds.map C.d)] [.d (.lst 1 ((valuesF 2 r).map Fc.sD))] := by
  obtain ⟨id, ver, rk, lang, fields⟩ := r
  by_cases hk : 1 ≤ rk ∧ rk ≤ 4
  · have : rk = 1 ∨ rk = 2 ∨ rk = 3 ∨ rk = 4 := by omega
    rcases this with rfl | rfl | rfl | rfl
    all_goals
      refine AFn.vc [] Tryz.func47 rfl Tryz.mixed (by kernel_rfl) Tryz.ntmps47 Tryz.results47 (by simp) ?_
      push_cast
      first
        | (refine CallL.q (c101 [] [98, 111, 111, 107] (by simp)) ?_; push_cast; rfl)
        | (refine CallL.q (c101 [] [115, 101, 114, 105, 97, 108] (by simp)) ?_; push_cast; rfl)
        | (refine CallL.q (c101 [] [109, 97, 112] (by simp)) ?_; push_cast; rfl)
        | (refine CallL.q (c101 [] [100, 105, 103, 105, 116, 97, 108] (by simp)) ?_; push_cast; rfl)
  · have hv : valuesF 2 ⟨id, ver, rk, lang, fields⟩ = [] := by
      unfold valuesF rawV
      rw [if_neg (by omega), if_pos rfl, if_neg hk]; rfl
    rw [hv]
    refine AFn.vc [] Tryz.func47 rfl Tryz.mixed (by kernel_rfl) Tryz.ntmps47 Tryz.results47 (by simp) ?_
    push_cast
    exact fun h1 h2 => absurd ⟨h1, h2⟩ hk
theorem c47_3 (r : Rec) (hr : r.fit) : AFn Tryz.prog Γ 47 [.c (.d (.int .i64 3)), .agg (r.ds.map C.d)] [.d (.lst 1 ((valuesF 3 r).map Fc.sD))] := by
  have hv : valuesF 3 r = putS [] (decadeS r) := by
    unfold valuesF rawV
    rw [if_neg (by omega), if_neg (by omega), if_pos rfl]; rfl
  rw [hv]
  have hb := yearFs_bd r.fields
  refine AFn.vc [] Tryz.func47 rfl Tryz.mixed (by kernel_rfl) Tryz.ntmps47 Tryz.results47 (by simp) ?_
  push_cast
  refine CallL.q (c102 r hr.sm hr.nf hr.ns) ?_
  unfold decadeS
  generalize yearFs r.fields = y at *
  push_cast
  refine ⟨fun h => ?_, fun h => ?_⟩
  · refine CallL.q (c101 [] unknownS (by simp)) ?_
    push_cast
    rw [if_pos h]
  · refine ⟨by omega, ?_⟩
    obtain ⟨Y, rfl⟩ : ∃ Y : Nat, y = Y := ⟨y.toNat, by omega⟩
    have hd := dec3 (y := Y) (by omega) (by omega)
    have hl := dec_len_k 2 (Y / 10) (by omega)
    have e : ((Y : Int) / 10).toNat = Y / 10 := by omega
    have t := c103i (Γ := Γ) ((Y : Int) / 10) 3 (by omega) (by omega) (by rw [e]; exact hd)
    rw [e] at t
    refine CallL.q t ?_
    push_cast
    refine ⟨by omega, ?_⟩
    refine CallL.q (c101 [] (decDigits (Y / 10) ++ [48, 115]) (by simp)) ?_
    push_cast
    rw [if_neg h, dec0s (by omega)]
theorem c47_4 (r : Rec) (hr : r.fit) : AFn Tryz.prog Γ 47 [.c (.d (.int .i64 4)), .agg (r.ds.map C.d)] [.d (.lst 1 ((valuesF 4 r).map Fc.sD))] := by
  have hv : valuesF 4 r = putsS (r.fields.flatMap (rawFld 4)) := by
    unfold valuesF rawV
    rw [if_neg (by omega), if_neg (by omega), if_neg (by omega)]
  obtain ⟨hsm, hnf, hns, hjl⟩ := hr
  obtain ⟨id, ver, rk, lang, fields⟩ := r
  simp only at hnf hns hjl hv
  rw [hv]
  refine AFn.vc [] Tryz.func47 rfl Tryz.mixed (by kernel_rfl) Tryz.ntmps47 Tryz.results47 (by simp) ?_
  push_cast
  refine LoopV.cntH Tryz.mixed [0, 3] fields.length (fun k => [(5, .c (.d (.lst 1 ((putsS ((fields.take k).flatMap (rawFld 4))).map Fc.sD)))), (8, .c (.d (.int .i64 k)))]) (fun _ => [.box 64 [.d (.int .i64 id), .d (.int .i64 ver), .d (.int .i64 rk), .d (.str lang), .d (.lst 4 (fields.map Fld.ds))]]) (fun _ => True) trivial ?_ (by push_cast; rfl)
  intro k hk _
  push_cast
  refine ⟨fun hlt => ?_, fun hlt => by rw [List.take_of_length_le (by omega)]⟩
  have hlt : k < fields.length := by omega
  refine ⟨hlt, ?_⟩
  have hnext := foldl_next (kind := 4) hlt
  have hb := putsS_len ((fields.take k).flatMap (rawFld 4))
  have hb2 := raws_len 4 (fields.take k)
  rw [List.length_take] at hb2
  have hno : rawFld 4 fields[k] = [] → putsS ((fields.take (k + 1)).flatMap (rawFld 4)) = putsS ((fields.take k).flatMap (rawFld 4)) := fun h => by rw [hnext, h]; rfl
  generalize putsS ((fields.take (k + 1)).flatMap (rawFld 4)) = X1 at *
  generalize putsS ((fields.take k).flatMap (rawFld 4)) = X0 at *
  have hs1 : fields[k].subs.length ≤ 2000 := hns _ (List.getElem_mem hlt)
  have hj1 := hjl _ (List.getElem_mem hlt)
  unfold rawFld at hnext hno
  rw [if_pos rfl] at hnext hno
  have hsub : ∀ h : 0 < fields[k].tag.length, isSubj fields[k].tag = decide (fields[k].tag[0].toNat = 54) := fun h => by
    match fields[k].tag, h with
    | x :: r, _ => rfl
  have hsub0 : fields[k].tag.length = 0 → isSubj fields[k].tag = false := fun h => by
    match fields[k].tag, h with
    | [], _ => rfl
  refine ⟨fun a1 => ⟨by omega, fun a2 => ?_, fun a2 => ?_⟩, fun a1 => ?_⟩
  · refine CallL.q (c104 fields[k] 97 (by omega)) ?_
    push_cast
    refine CallL.q (c101 X0 (getS fields[k].subs 97).1 (by omega)) ?_
    push_cast
    rw [if_pos (by rw [hsub (by omega)]; exact decide_eq_true (by omega))] at hnext
    exact ⟨by omega, hlt, by rw [hnext]; rfl⟩
  · exact ⟨by omega, hlt, by rw [hno (if_neg (by rw [hsub (by omega), decide_eq_false (by omega)]; simp))]⟩
  · exact ⟨by omega, hlt, by rw [hno (if_neg (by rw [hsub0 (by omega)]; simp))]⟩
theorem c47_5 (r : Rec) (hr : r.fit) : AFn Tryz.prog Γ 47 [.c (.d (.int .i64 5)), .agg (r.ds.map C.d)] [.d (.lst 1 ((valuesF 5 r).map Fc.sD))] := by
  have hv : valuesF 5 r = putsS (r.fields.flatMap (rawFld 5)) := by
    unfold valuesF rawV
    rw [if_neg (by omega), if_neg (by omega), if_neg (by omega)]
  obtain ⟨hsm, hnf, hns, hjl⟩ := hr
  obtain ⟨id, ver, rk, lang, fields⟩ := r
  simp only at hnf hns hjl hv
  rw [hv]
  refine AFn.vc [] Tryz.func47 rfl Tryz.mixed (by kernel_rfl) Tryz.ntmps47 Tryz.results47 (by simp) ?_
  push_cast
  refine LoopV.cntH Tryz.mixed [0, 3] fields.length (fun k => [(5, .c (.d (.lst 1 ((putsS ((fields.take k).flatMap (rawFld 5))).map Fc.sD)))), (8, .c (.d (.int .i64 k)))]) (fun _ => [.box 64 [.d (.int .i64 id), .d (.int .i64 ver), .d (.int .i64 rk), .d (.str lang), .d (.lst 4 (fields.map Fld.ds))]]) (fun _ => True) trivial ?_ (by push_cast; rfl)
  intro k hk _
  push_cast
  refine ⟨fun hlt => ?_, fun hlt => by rw [List.take_of_length_le (by omega)]⟩
  have hlt : k < fields.length := by omega
  refine ⟨hlt, ?_⟩
  have hnext := foldl_next (kind := 5) hlt
  have hb := putsS_len ((fields.take k).flatMap (rawFld 5))
  have hb2 := raws_len 5 (fields.take k)
  rw [List.length_take] at hb2
  have hno : rawFld 5 fields[k] = [] → putsS ((fields.take (k + 1)).flatMap (rawFld 5)) = putsS ((fields.take k).flatMap (rawFld 5)) := fun h => by rw [hnext, h]; rfl
  generalize putsS ((fields.take (k + 1)).flatMap (rawFld 5)) = X1 at *
  generalize putsS ((fields.take k).flatMap (rawFld 5)) = X0 at *
  have hs1 : fields[k].subs.length ≤ 2000 := hns _ (List.getElem_mem hlt)
  have hj1 := hjl _ (List.getElem_mem hlt)
  unfold rawFld at hnext hno
  rw [if_neg (by omega), if_pos rfl] at hnext hno
  refine ⟨fun a1 => ⟨fun a2 => ⟨fun a3 => ⟨fun a4 => ?_, fun a4 => ?_⟩, fun a3 => ?_⟩, fun a2 => ?_⟩, fun a1 => ?_⟩
  rotate_left 1
  · exact ⟨by omega, hlt, by rw [hno (if_neg (by unfold isAuth; simp [a1, a2, a3, a4]))]⟩
  all_goals
    have hy : isAuth fields[k].tag = true := by unfold isAuth; simp [*]
    rw [if_pos hy] at hnext
    refine CallL.q (c105 fields[k] [97] (by omega) (by simp) hj1) ?_
    push_cast
    refine CallL.q (c101 X0 _ (by omega)) ?_
    push_cast
    exact ⟨by omega, hlt, by rw [hnext]; rfl⟩
theorem c47_o (kind : Int) (r : Rec) (hr : r.fit) (h1 : ¬ kind = 1) (h2 : ¬ kind = 2) (h3 : ¬ kind = 3) (h4 : ¬ kind = 4) (h5 : ¬ kind = 5) : AFn Tryz.prog Γ 47 [.c (.d (.int .i64 kind)), .agg (r.ds.map C.d)] [.d (.lst 1 ((valuesF kind r).map Fc.sD))] := by
  have hv : valuesF kind r = putsS (r.fields.flatMap (rawFld kind)) := by
    unfold valuesF rawV
    rw [if_neg (by omega), if_neg (by omega), if_neg (by omega)]
  obtain ⟨hsm, hnf, hns, hjl⟩ := hr
  obtain ⟨id, ver, rk, lang, fields⟩ := r
  simp only at hnf hns hjl hv
  rw [hv]
  refine AFn.vc [] Tryz.func47 rfl Tryz.mixed (by kernel_rfl) Tryz.ntmps47 Tryz.results47 (by simp) ?_
  push_cast [eq_false h1, eq_false h2, eq_false h3, eq_false h4, eq_false h5]
  refine LoopV.cntH Tryz.mixed [0, 3] fields.length (fun k => [(5, .c (.d (.lst 1 ((putsS ((fields.take k).flatMap (rawFld kind))).map Fc.sD)))), (8, .c (.d (.int .i64 k)))]) (fun _ => [.box 64 [.d (.int .i64 id), .d (.int .i64 ver), .d (.int .i64 rk), .d (.str lang), .d (.lst 4 (fields.map Fld.ds))]]) (fun _ => True) trivial ?_ (by push_cast; rfl)
  intro k hk _
  push_cast [eq_false h1, eq_false h2, eq_false h3, eq_false h4, eq_false h5]
  refine ⟨fun hlt => ?_, fun hlt => by rw [List.take_of_length_le (by omega)]⟩
  have hlt : k < fields.length := by omega
  refine ⟨hlt, ?_⟩
  have hnext := foldl_next (kind := kind) hlt
  have hb := putsS_len ((fields.take k).flatMap (rawFld kind))
  have hb2 := raws_len kind (fields.take k)
  rw [List.length_take] at hb2
  have hno : rawFld kind fields[k] = [] → putsS ((fields.take (k + 1)).flatMap (rawFld kind)) = putsS ((fields.take k).flatMap (rawFld kind)) := fun h => by rw [hnext, h]; rfl
  generalize putsS ((fields.take (k + 1)).flatMap (rawFld kind)) = X1 at *
  generalize putsS ((fields.take k).flatMap (rawFld kind)) = X0 at *
  have hs1 : fields[k].subs.length ≤ 2000 := hns _ (List.getElem_mem hlt)
  have hj1 := hjl _ (List.getElem_mem hlt)
  unfold rawFld at hnext hno
  rw [if_neg h4, if_neg h5] at hno
  exact ⟨by omega, hlt, by rw [hno rfl]⟩
theorem c47 (kind : Int) (r : Rec) (hr : r.fit) : AFn Tryz.prog Γ 47 [.c (.d (.int .i64 kind)), .agg (r.ds.map C.d)] [.d (.lst 1 ((valuesF kind r).map Fc.sD))] := by
  by_cases h1 : kind = 1
  · subst h1; exact c47_1 r
  by_cases h2 : kind = 2
  · subst h2; exact c47_2 r
  by_cases h3 : kind = 3
  · subst h3; exact c47_3 r hr
  by_cases h4 : kind = 4
  · subst h4; exact c47_4 r hr
  by_cases h5 : kind = 5
  · subst h5; exact c47_5 r hr
  exact c47_o kind r hr h1 h2 h3 h4 h5
end Go.Proofs
