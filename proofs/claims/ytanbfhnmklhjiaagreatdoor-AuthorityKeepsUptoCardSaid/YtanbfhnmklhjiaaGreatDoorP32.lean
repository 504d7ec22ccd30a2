/- Part of a proof about this program; no condition of its own. -/
import Derived.Test.YtanbfhnmklhjiaaGreatDoorP31
import Derived.Test.YtanbfhnmklhjiaaGreatDoorP30
import Derived.Test.YtanbfhnmklhjiaaGreatDoorP29
set_option linter.all false
/- Headings by the program: parts, normal forms, the check of a heading. No condition. -/
namespace Go.Proofs
open Go Go.Ax Go.Tx Go.Lib Go.RowKit Go.Fc
set_option maxRecDepth 100000
set_option maxHeartbeats 0
variable {Γ : List (Nat × List D)} {M : Int}
theorem c140 (hM : (0, [D.int .i64 M]) ∈ Γ) (s : Str) (hs : s.length ≤ 2000000) (hv : validF s = true) : AFn Tryz.prog Γ 140 [.c (.d (.str s))] [.d (.lst 1 ((partsF s).map Fc.sD))] := by
  generalize hR : partsF s = R
  refine AFn.vc [] Tryz.func140 rfl Tryz.mixed (by kernel_rfl) Tryz.ntmps140 Tryz.results140 (by simp) ?_
  push_cast
  refine CallL.own (c197 hM s [45, 45] (by omega) (by decide)) ?_
  push_cast
  obtain ⟨h1, h2⟩ := splF_len (l := s) (sep := [45, 45]) (by decide)
  have h3 := splF_valid hv
  unfold partsF at hR
  generalize splF s [45, 45] = L at *
  refine LoopV.nilrow 3 9 1 ?_
  push_cast
  refine LoopV.cntH Tryz.mixed [8, 9] L.length (fun k => [(3, .c (.own 1 (((L.take k).map cleanF).filter neS).length)), (10, .c (.d (.int .i64 k)))]) (fun k => [.row 9 1 (L.map Fc.sD) 0, .row 9 1 ((((L.take k).map cleanF).filter neS).map Fc.sD) (((L.take k).map cleanF).filter neS).length]) (fun _ => True) trivial ?_ (by push_cast; exact ⟨rfl, rfl, rfl⟩)
  intro k hk _
  push_cast
  refine ⟨fun h => ?_, fun h => ?_⟩
  · have hlt : k < L.length := by omega
    refine ⟨by omega, hlt, ?_⟩
    refine CallL.q (c198 L[k] (by have := h2 _ (List.getElem_mem hlt); omega) (h3 _ (List.getElem_mem hlt))) ?_
    push_cast
    have hn := filt_next (f := cleanF) hlt
    have hb := filt_len cleanF L k
    refine ⟨fun e => ?_, fun e => ?_⟩
    · rw [if_neg e] at hn
      exact ⟨⟨by omega, by omega⟩, by omega, hlt, by rw [hn]; simp, by rw [hn]; simp [Fc.sD], by rw [hn]; simp⟩
    · rw [if_pos e] at hn
      exact ⟨by omega, hlt, by rw [hn], by rw [hn], by rw [hn]⟩
  · rw [List.take_of_length_le (by omega), hR]
theorem c79 (hM : (0, [D.int .i64 M]) ∈ Γ) (s : Str) (hs : s.length ≤ 100000) (hv : validF s = true) : AFn Tryz.prog Γ 79 [.c (.d (.str s))] [.d (.str (normF s))] := by
  have hl : (normF s).length ≤ 140737488355328 := by
    obtain ⟨h1, h2⟩ := partsF_len s
    have h3 := join_bd2 (K := 400000) [45, 45] (((partsF s).map wordJ).filter neS) (fun v hv => by
      obtain ⟨p, hp, rfl⟩ := List.mem_map.1 (List.mem_filter.1 hv).1
      have := h2 p hp
      have := join_words p
      omega)
    have h4 := List.length_filter_le neS ((partsF s).map wordJ)
    rw [List.length_map] at h4
    have h5 : (((partsF s).map wordJ).filter neS).length * (400000 + ([45, 45] : Str).length) ≤ 100001 * 400002 := Nat.mul_le_mul (by omega) (by decide)
    unfold normF
    omega
  generalize hR : normF s = R at *
  refine AFn.vc [] Tryz.func79 rfl Tryz.mixed (by kernel_rfl) Tryz.ntmps79 Tryz.results79 (by simp) ?_
  push_cast
  refine CallL.q (c140 hM s (by omega) hv) ?_
  push_cast
  obtain ⟨h1, h2⟩ := partsF_len s
  have h3 := partsF_valid hv
  unfold normF at hR
  generalize partsF s = L at *
  refine LoopV.nilrow 3 9 1 ?_
  push_cast
  refine LoopV.cntH Tryz.mixed [8, 9] L.length (fun k => [(3, .c (.own 0 (((L.take k).map wordJ).filter neS).length)), (10, .c (.d (.int .i64 k)))]) (fun k => [.row 9 1 ((((L.take k).map wordJ).filter neS).map Fc.sD) (((L.take k).map wordJ).filter neS).length]) (fun _ => True) trivial ?_ (by push_cast; exact ⟨rfl, rfl, rfl⟩)
  intro k hk _
  push_cast
  refine ⟨fun h => ?_, fun h => ?_⟩
  · have hlt : k < L.length := by omega
    have hL := h2 _ (List.getElem_mem hlt)
    refine ⟨hlt, ?_⟩
    refine CallL.q (c141 L[k] (by omega) (h3 _ (List.getElem_mem hlt))) ?_
    push_cast
    obtain ⟨_, w2, w5⟩ := wordsF_len L[k]
    have w3 := foldF_len L[k]
    have w4 : (Lib.join (wordsF L[k]) [32]).length ≤ _ := join_words L[k]
    have hn := filt_next (f := wordJ) hlt
    rw [show wordJ L[k] = Lib.join (wordsF L[k]) [32] from rfl] at hn
    have hb := filt_len wordJ L k
    refine ⟨fun e => ?_, fun e => ?_⟩
    · have hne : wordsF L[k] ≠ [] := fun h0 => by rw [h0] at e; simp at e
      have hj : Lib.join (wordsF L[k]) [32] ≠ [] := join_ne _ hne w5
      rw [if_neg hj] at hn
      refine CallL.q (c142 (wordsF L[k]) [32] (by omega) (by omega)) ?_
      push_cast
      exact ⟨⟨by omega, by omega⟩, by omega, hlt, by rw [hn]; simp, by rw [hn]; simp [Fc.sD], by rw [hn]; simp⟩
    · have h0 : wordsF L[k] = [] := List.length_eq_zero_iff.1 (by omega)
      rw [h0] at hn
      rw [if_pos (by rfl)] at hn
      exact ⟨by omega, hlt, by rw [hn], by rw [hn], by rw [hn]⟩
  · rw [List.take_of_length_le (by omega)]
    have hb := filt_len wordJ L L.length
    rw [List.take_of_length_le (Nat.le_refl _)] at hb
    refine CallL.q (c142 ((L.map wordJ).filter neS) [45, 45] (by omega) (by rw [hR]; exact hl)) ?_
    push_cast
    rw [hR]
theorem c94 (a : Au) (hs : a.see.length ≤ 2000000) : AFn Tryz.prog Γ 94 [.agg (a.ds.map C.d)] [.d (.lst 1 ((headsA a).map Fc.sD))] := by
  refine AFn.vc [5] Tryz.func94 rfl Tryz.mixed (by kernel_rfl) Tryz.ntmps94 Tryz.results94 (by simp) ?_
  push_cast
  exact ⟨⟨by omega, by omega⟩, rfl⟩
theorem c145 (h2 : (2, firstD) ∈ Γ) (h3 : (3, acceptD) ∈ Γ) (hM : (0, [D.int .i64 M]) ∈ Γ) (k : Int) (s : Str) (hs : s.length ≤ 100000) : AFn Tryz.prog Γ 145 [.c (.d (.int .i64 k)), .c (.d (.str s))] [.d (.int .i64 (shape1 k s))] := by
  refine AFn.vc [] Tryz.func145 rfl Tryz.mixed (by kernel_rfl) Tryz.ntmps145 Tryz.results145 (by simp) ?_
  push_cast
  refine CallL.q (c204 h2 h3 s (by omega)) ?_
  push_cast
  refine ⟨fun v => ?_, fun v => by unfold shape1; rw [if_pos (.inl v)]⟩
  refine CallL.q (c198 s (by omega) v) ?_
  push_cast
  have hj : (Lib.join (partsF s) [45, 45]).length ≤ 140737488355328 := by
    obtain ⟨h1, h2⟩ := partsF_len s
    have h3 := join_bd2 (K := 100000) [45, 45] (partsF s) (fun v hv => by have := h2 v hv; omega)
    have h5 : (partsF s).length * (100000 + ([45, 45] : Str).length) ≤ 100001 * 100002 := Nat.mul_le_mul (by omega) (by decide)
    omega
  have hp := (partsF_len s).1
  refine ⟨fun c => ?_, fun c => by unfold shape1; rw [if_pos (.inr (.inl c))]⟩
  refine CallL.q (c79 hM s hs v) ?_
  push_cast
  refine ⟨fun n => by unfold shape1; rw [if_pos (.inr (.inr (.inl n)))], fun n => ?_⟩
  refine CallL.q (c140 hM s (by omega) v) ?_
  push_cast
  have fin : (¬ (k = 3 ∧ ¬ Lib.join (partsF s) [45, 45] = s)) → shape1 k s = if 200 < s.length ∨ 4 < (partsF s).length then 4 else 0 := fun q => by
    unfold shape1
    rw [if_neg]
    rintro (h | h | h | h)
    · rw [v] at h; cases h
    · exact h c
    · exact n h
    · exact q h
  refine ⟨fun e => ?_, fun e => ?_⟩
  · refine CallL.q (c142 (partsF s) [45, 45] (by omega) hj) ?_
    push_cast
    refine ⟨fun j => by unfold shape1; rw [if_pos (.inr (.inr (.inr ⟨e, j⟩)))], fun j => ?_⟩
    rw [fin (fun q => q.2 j)]
    repeat' (first | (intro _) | (refine And.intro ?_ ?_))
    all_goals first
      | (rw [if_pos (by omega)]; done)
      | (rw [if_neg (by omega)]; done)
      | trace_state
  · rw [fin (fun q => e q.1)]
    repeat' (first | (intro _) | (refine And.intro ?_ ?_))
    all_goals first
      | (rw [if_pos (by omega)]; done)
      | (rw [if_neg (by omega)]; done)
      | trace_state
theorem formsE_stepP {l : List Au} {k : Nat} (h : k < l.length) : formsE (prevI l k) (l.drop k) = if l[k].id < 1 ∨ 9999 < l[k].id then 2 else if 0 < k ∧ l[k].id ≤ (prevI l k).getD 0 then 7 else if shapeA l[k] = 0 then formsE (prevI l (k + 1)) (l.drop (k + 1)) else shapeA l[k] := by
  rw [formsE_step h]
  generalize formsE (prevI l (k + 1)) (l.drop (k + 1)) = F
  generalize shapeA l[k] = S
  generalize l[k].id = I
  by_cases h0 : k = 0
  · have hp : prevI l k = none := by unfold prevI; rw [if_pos h0]
    rw [hp, if_neg (show ¬ (0 < k ∧ I ≤ (none : Option Int).getD 0) by omega)]
    rfl
  · have hp : prevI l k = some l[k - 1].id := by unfold prevI; rw [if_neg h0, List.getElem?_eq_getElem (by omega)]; rfl
    rw [hp]
    by_cases hI : I ≤ l[k - 1].id
    · rw [if_pos (show 0 < k ∧ I ≤ (some l[k - 1].id).getD 0 from ⟨by omega, hI⟩)]
      simp [hI]
    · rw [if_neg (show ¬ (0 < k ∧ I ≤ (some l[k - 1].id).getD 0) from fun q => hI q.2)]
      simp [hI]
theorem c82 (h2 : (2, firstD) ∈ Γ) (h3 : (3, acceptD) ∈ Γ) (hM : (0, [D.int .i64 M]) ∈ Γ) (l : List Au) (hl : l.length ≤ 2000000) (hs : ∀ a ∈ l, a.see.length ≤ 2000000 ∧ ∀ s ∈ headsA a, s.length ≤ 100000) : AFn Tryz.prog Γ 82 [.c (.bor 5 (l.map Au.ds))] [.d (.int .i64 (formsE none l))] := by
  generalize hR : formsE none l = R
  refine AFn.vc [] Tryz.func82 rfl Tryz.mixed (by kernel_rfl) Tryz.ntmps82 Tryz.results82 (by simp) ?_
  push_cast
  refine LoopV.cnt Tryz.mixed [9, 10] l.length (fun k => [(3, .c (.d (.int .i64 ((prevI l k).getD 0)))), (11, .c (.d (.int .i64 k)))]) (fun k => formsE (prevI l k) (l.drop k) = R) hR ?_ (by push_cast; try rfl)
  intro k hk hinv
  push_cast
  refine ⟨fun h => ?_, fun h => ?_⟩
  · have hlt : k < l.length := by omega
    rw [formsE_stepP hlt] at hinv
    have hmem := hs _ (List.getElem_mem hlt)
    have hhl : (headsA l[k]).length = l[k].see.length + 1 := by simp [headsA]
    have hml := hmem.1
    have hnx : (prevI l (k + 1)).getD 0 = l[k].id := by
      unfold prevI
      rw [if_neg (by omega), Nat.add_sub_cancel, List.getElem?_eq_getElem hlt]; rfl
    refine ⟨hlt, fun e1 => ⟨fun e2 => ?_, fun e2 => ⟨fun e3 => ⟨fun e4 => ?_, fun e4 => ⟨fun e5 => ⟨fun e6 => ?_, fun e6 => ?_⟩, fun e5 => ?_⟩⟩, fun e3 => ⟨fun e5 => ⟨fun e6 => ?_, fun e6 => ?_⟩, fun e5 => ?_⟩⟩⟩, fun e1 => ?_⟩
    case refine_1 => rw [if_pos (by omega)] at hinv; exact hinv
    case refine_2 => rw [if_neg (by omega), if_pos (by omega)] at hinv; exact hinv
    case refine_3 => rw [if_neg (by omega), if_neg (by omega), if_neg (by unfold shapeA; rw [if_pos (by omega)]; decide)] at hinv; rw [← hinv]; unfold shapeA; rw [if_pos (by omega)]
    case refine_5 => rw [if_neg (by omega), if_neg (by omega), if_neg (by unfold shapeA; rw [if_pos (by omega)]; decide)] at hinv; rw [← hinv]; unfold shapeA; rw [if_pos (by omega)]
    case refine_6 => rw [if_neg (by omega), if_neg (by omega), if_neg (by unfold shapeA; rw [if_pos (by omega)]; decide)] at hinv; rw [← hinv]; unfold shapeA; rw [if_pos (by omega)]
    case refine_8 => rw [if_neg (by omega), if_neg (by omega), if_neg (by unfold shapeA; rw [if_pos (by omega)]; decide)] at hinv; rw [← hinv]; unfold shapeA; rw [if_pos (by omega)]
    case refine_9 => rw [if_pos (by omega)] at hinv; exact hinv
    all_goals
      rw [if_neg (by omega), if_neg (by omega)] at hinv
      have hsh : shapeA l[k] = if firstE (shape1 l[k].kind) (headsA l[k]) = 0 then (if 8 < l[k].see.length then 13 else 0) else firstE (shape1 l[k].kind) (headsA l[k]) := by
        show (if l[k].kind < 1 ∨ 4 < l[k].kind then (1 : Int) else _) = _
        rw [if_neg (by omega)]
      refine CallL.q (c94 l[k] hmem.1) ?_
      push_cast
      refine LoopV.cnt Tryz.mixed [3, 5, 9, 10, 11, 46, 47] (headsA l[k]).length (fun j => [(48, .c (.d (.int .i64 j)))]) (fun j => firstE (shape1 l[k].kind) ((headsA l[k]).drop j) = firstE (shape1 l[k].kind) (headsA l[k])) (by simp) ?_
      intro j hj hinv2
      push_cast
      refine ⟨fun q2 => ?_, fun q2 => ?_⟩
      · have hjl : j < (headsA l[k]).length := by omega
        rw [firstE_step hjl] at hinv2
        refine ⟨hjl, ?_⟩
        refine CallL.q (c145 h2 h3 hM l[k].kind (headsA l[k])[j] (hmem.2 _ (List.getElem_mem hjl))) ?_
        push_cast
        refine ⟨fun z => ?_, fun z => ?_⟩
        · rw [if_neg z] at hinv2
          rw [← hinv, hsh, ← hinv2, if_neg z, if_neg z]
        · rw [if_pos z] at hinv2
          exact ⟨by omega, hjl, hinv2⟩
      · rw [firstE_end (by omega)] at hinv2
        rw [if_pos hinv2.symm] at hsh
        rw [hsh] at hinv
        refine ⟨fun z => ?_, fun z => ⟨by omega, ⟨hlt, ?_⟩, hnx⟩⟩
        · rw [if_pos (show 8 < l[k].see.length by omega), if_neg (by decide)] at hinv
          exact hinv
        · rw [if_neg (show ¬ 8 < l[k].see.length by omega), if_pos rfl] at hinv
          exact hinv
  · rw [formsE_end (by omega)] at hinv
    exact hinv
end Go.Proofs

/- Authorities by the reference. No condition. -/
namespace Go.Proofs
open Go Go.Ax Go.Tx Go.Lib Go.RowKit Go.Fc
set_option maxRecDepth 100000
set_option maxHeartbeats 0
variable {Γ : List (Nat × List D)}
theorem c135b (l : List Str) (sep : Str) (hl : l.length ≤ 9000000) (hlen : (Lib.join l sep).length ≤ 1000000000000000) : AFn Tryz.prog Γ 135 [.c (.d (.lst 1 (l.map Fc.sD))), .c (.d (.str sep))] [.d (.str (Lib.join l sep))] := by
  refine AFn.vc [] Tryz.func135 rfl Tryz.mixed (by kernel_rfl) Tryz.ntmps135 Tryz.results135 (by simp) ?_
  push_cast
  refine LoopV.cnt Tryz.mixed [0, 1] l.length (fun k => [(5, .c (.d (.str (Lib.join (l.take k) sep)))), (6, .c (.d (.int .i64 k)))]) (fun k => True) trivial ?_ (by push_cast; rfl)
  intro k hk _
  push_cast
  refine ⟨fun h => ?_, fun h => by rw [List.take_of_length_le (by omega)]⟩
  have hlt : k < l.length := by omega
  have hn := join_next sep hlt
  have h1 := join_len_take l sep (k + 1)
  rw [hn] at h1
  refine ⟨fun h0 => ?_, fun h0 => ?_⟩
  · rw [if_neg (by omega)] at hn h1
    simp only [List.length_append] at h1
    exact ⟨by omega, hlt, by omega, by omega, hlt, hn⟩
  · obtain rfl : k = 0 := by omega
    rw [if_pos rfl] at hn h1
    simp only [List.take_zero, Lib.join_nil, List.length_nil, List.nil_append]
    exact ⟨hlt, by omega, by omega, hlt, hn⟩
theorem heads_take {a : Au} {k : Nat} (h : k < a.see.length) : (headsA a).take (k + 2) = (headsA a).take (k + 1) ++ [a.see[k]] := by
  unfold headsA
  rw [List.take_succ_cons, List.take_succ_cons, Fc.take_next h]; rfl
theorem c73 (a : Au) (hl : a.see.length ≤ 2000000) : AFn Tryz.prog Γ 73 [.agg (a.ds.map C.d)] [.d (.lst 1 ((headsA a).map Fc.sD))] := by
  refine AFn.vc [7] Tryz.func73 rfl Tryz.mixed (by kernel_rfl) Tryz.ntmps73 Tryz.results73 (by simp) ?_
  push_cast
  refine LoopV.cntH Tryz.mixed [1] a.see.length (fun k => [(3, .c (.own 1 k)), (4, .c (.d (.int .i64 k)))]) (fun k => [.box 45 (a.ds.map C.d), .row 9 1 (((headsA a).take (k + 1)).map Fc.sD) k]) (fun _ => True) trivial ?_ (by push_cast; rfl)
  intro k hk _
  push_cast
  refine ⟨fun h => ?_, fun h => ?_⟩
  · have hlt : k < a.see.length := by omega
    have hn := heads_take hlt
    have hm : min (k + 1) (headsA a).length = k + 1 := by rw [show (headsA a).length = a.see.length + 1 from rfl]; omega
    rw [hm]
    exact ⟨hlt, ⟨by omega, by omega⟩, by omega, hlt, by rw [hn]; simp [Fc.sD]⟩
  · rw [List.take_of_length_le (by simp [headsA]; omega)]
theorem c76 (l : List Int) (n : Int) (hl : l.length ≤ 1000000000) : AFn Tryz.prog Γ 76 [.c (.d (.lst 1 (l.map iD))), .c (.d (.int .i64 n))] [.d (.bool (decide (n ∈ l)))] := by
  refine AFn.vc [] Tryz.func76 rfl Tryz.mixed (by kernel_rfl) Tryz.ntmps76 Tryz.results76 (by simp) ?_
  push_cast
  refine LoopV.cnt Tryz.mixed [0, 1] l.length (fun k => [(5, .c (.d (.int .i64 k)))]) (fun k => n ∈ l ↔ n ∈ l.drop k) (by simp) ?_
  intro k hk hinv
  push_cast
  refine ⟨fun h => ?_, fun h => ?_⟩
  · have hlt : k < l.length := by omega
    rw [mem_step hlt] at hinv
    refine ⟨hlt, fun e => (decide_eq_true (hinv.2 (.inl e))).symm, fun e => ⟨by omega, hlt, ?_⟩⟩
    rw [hinv]; exact ⟨fun h => h.resolve_left e, .inr⟩
  · exact (decide_eq_false fun hm => mem_end (by omega) (hinv.1 hm)).symm
theorem c137 (l : List Int) (n : Int) (hl : l.length ≤ 1000000000) : AFn Tryz.prog Γ 137 [.c (.d (.lst 1 (l.map iD))), .c (.d (.int .i64 n))] [.d (.lst 1 ((putI l n).map iD))] := by
  refine AFn.vc [] Tryz.func137 rfl Tryz.mixed (by kernel_rfl) Tryz.ntmps137 Tryz.results137 (by simp) ?_
  push_cast
  refine CallL.q (c76 l n hl) ?_
  push_cast
  refine ⟨fun e => by unfold putI; rw [if_pos e], fun e => ?_⟩
  have hR : putI l n = Or.put ltI l n false := by unfold putI; rw [if_neg e]
  rw [hR]
  have hne : ∀ k (h : k < l.length), l[k] ≠ n := fun k h q => e (q ▸ List.getElem_mem h)
  generalize hRR : Or.put ltI l n false = R at *
  clear hR
  refine LoopV.nilrow 5 3 1 ?_
  push_cast
  refine LoopV.of Tryz.mixed [0, 1] (S := Nat × List Int × Bool) (fun s => [(5, .c (.own 0 s.2.1.length)), (6, .c (.d (.bool s.2.2))), (7, .c (.d (.int .i64 s.1)))]) (fun s => [.row 3 1 (s.2.1.map iD) s.2.1.length]) (fun s => s.1 ≤ l.length ∧ s.2.1.length ≤ 2 * s.1 ∧ R = s.2.1 ++ Or.put ltI (l.drop s.1) n s.2.2) (fun s => l.length - s.1) (0, [], false) (by simp [hRR]) (by push_cast) ?_
  rintro ⟨k, o, d⟩ ⟨hk, ho, hinv⟩
  simp only at hk ho hinv
  push_cast
  have lt1 : ∀ (h : k < l.length), (d = false ∧ n < l[k]) → R = (o ++ [n, l[k]]) ++ Or.put ltI (l.drop (k + 1)) n true := fun h c => by
    rw [hinv, Fc.drop_cons h]
    show o ++ (if _ then _ else _) = _
    rw [if_pos ⟨c.1, hne k h, decide_eq_true c.2⟩]; simp
  have lt2 : ∀ (h : k < l.length), ¬ (d = false ∧ n < l[k]) → R = (o ++ [l[k]]) ++ Or.put ltI (l.drop (k + 1)) n d := fun h c => by
    rw [hinv, Fc.drop_cons h]
    show o ++ (if _ then _ else _) = _
    rw [if_neg (fun q => c ⟨q.1, of_decide_eq_true q.2.2⟩), decide_eq_false (hne k h)]; simp
  have more : ∀ (h : k < l.length) (o' : List Int) (d' : Bool), o'.length ≤ o.length + 2 → R = o' ++ Or.put ltI (l.drop (k + 1)) n d' → ∃ s' : Nat × List Int × Bool, ((s'.1 ≤ l.length ∧ s'.2.1.length ≤ 2 * s'.1 ∧ R = s'.2.1 ++ Or.put ltI (l.drop s'.1) n s'.2.2) ∧ l.length - s'.1 < l.length - k) ∧ (s'.2.1.length = o'.length ∧ s'.2.2 = d' ∧ (s'.1 : Int) = (k : Int) + 1) ∧ o'.map iD = s'.2.1.map iD ∧ o'.length = s'.2.1.length := fun h o' d' hb e =>
    ⟨(k + 1, o', d'), ⟨⟨by show k + 1 ≤ _; omega, by show o'.length ≤ 2 * (k + 1); omega, e⟩, by show l.length - (k + 1) < _; omega⟩, ⟨rfl, rfl, by show ((k + 1 : Nat) : Int) = _; omega⟩, rfl, rfl⟩
  refine ⟨fun h => ?_, fun h => ?_⟩
  · have hlt : k < l.length := by omega
    have one : ¬ (d = false ∧ n < l[k]) → _ := fun c => more hlt (o ++ [l[k]]) d (by simp) (lt2 hlt c)
    have two : (d = false ∧ n < l[k]) → _ := fun c => more hlt (o ++ [n, l[k]]) true (by simp) (lt1 hlt c)
    refine ⟨fun f => ⟨hlt, fun g => ⟨by omega, hlt, by omega, by omega, ?_⟩, fun g => ⟨hlt, by omega, by omega, ?_⟩⟩, fun f => ⟨hlt, by omega, by omega, ?_⟩⟩
    · have := two ⟨f, g⟩
      simpa [iD] using this
    · have := one (by omega)
      simpa [iD] using this
    · have := one (by simp [f])
      simpa [iD] using this
  · rw [List.drop_eq_nil_of_le (by omega)] at hinv
    refine ⟨fun f => ⟨by omega, ?_⟩, fun f => ?_⟩
    · rw [hinv, f]; simp [iD, Or.put]
    · rw [hinv, f]; simp [Or.put]
theorem c29 (l : List Au) (id : Int) (hl : l.length ≤ 2000000) : AFn Tryz.prog Γ 29 [.c (.d (.lst 5 (l.map Au.ds))), .c (.d (.int .i64 id))] [.agg ((getA l id).getD default).ds, .d (.bool (getA l id).isSome)] := by
  refine AFn.vc [] Tryz.func29 rfl Tryz.mixed (by kernel_rfl) Tryz.ntmps29 Tryz.results29 (by simp) ?_
  push_cast
  refine LoopV.cnt Tryz.mixed [0, 1, 4] l.length (fun k => [(6, .c (.d (.int .i64 k)))]) (fun k => getA l id = getA (l.drop k) id) (by simp) ?_
  intro k hk hinv
  push_cast
  refine ⟨fun h => ?_, fun h => ?_⟩
  · have hlt : k < l.length := by omega
    rw [getA_step hlt] at hinv
    refine ⟨hlt, fun e => ?_, fun e => ?_⟩
    · rw [if_pos e] at hinv
      rw [hinv]; exact ⟨hlt, ⟨rfl, rfl, rfl, rfl, rfl⟩, rfl⟩
    · rw [if_neg e] at hinv
      exact ⟨by omega, hlt, hinv⟩
  · rw [hinv, getA_end (by omega)]
    exact ⟨⟨rfl, rfl, rfl, rfl, rfl⟩, rfl⟩
theorem c74 (a : Au) (hl : a.see.length ≤ 2000000) (hh : ∀ s ∈ headsA a, s.length ≤ 2000000) : AFn Tryz.prog Γ 74 [.agg (a.ds.map C.d)] [.d (.int .i64 (shapeA a))] := by
  generalize hR : shapeA a = R
  unfold shapeA at hR
  have k1 : (a.kind < 1 ∨ 4 < a.kind) → R = 1 := fun h => by rw [← hR, if_pos h]
  have k2 : ¬ (a.kind < 1 ∨ 4 < a.kind) → (if firstE (shape1 a.kind) (headsA a) = 0 then (if 8 < a.see.length then 13 else 0) else firstE (shape1 a.kind) (headsA a)) = R := fun h => by rw [← hR, if_neg h]
  clear hR
  refine AFn.vc [] Tryz.func74 rfl Tryz.mixed (by kernel_rfl) Tryz.ntmps74 Tryz.results74 (by simp) ?_
  push_cast
  refine ⟨fun a1 => ⟨fun a2 => (k1 (by omega)).symm, fun a2 => ?_⟩, fun a1 => (k1 (by omega)).symm⟩
  have k2 := k2 (by omega)
  clear k1
  refine CallL.q (c73 a hl) ?_
  push_cast
  have hlen : (headsA a).length = a.see.length + 1 := rfl
  refine LoopV.cnt Tryz.mixed [1, 3] (headsA a).length (fun k => [(4, .c (.d (.int .i64 k)))]) (fun k => firstE (shape1 a.kind) (headsA a) = firstE (shape1 a.kind) ((headsA a).drop k)) (by simp) ?_
  generalize headsA a = H at *
  intro k hk hinv
  push_cast
  refine ⟨fun h => ?_, fun h => ?_⟩
  · have hlt : k < H.length := by omega
    rw [firstE_step hlt] at hinv
    have hb := hh _ (List.getElem_mem hlt)
    refine ⟨hlt, ?_⟩
    have hpl := (partsF_len H[k]).1
    have hpj : (Lib.join (partsF H[k]) [45, 45]).length ≤ 1000000000000000 := by
      have h3 := join_bd2 (K := 2000000) [45, 45] (partsF H[k]) (fun v hv => Nat.le_trans ((partsF_len H[k]).2 v hv) hb)
      have h5 : (partsF H[k]).length * (2000000 + ([45, 45] : Str).length) ≤ 2000001 * 2000002 := Nat.mul_le_mul (by omega) (by decide)
      omega
    have r3 : ∀ e : Int, e ≠ 0 → shape1 a.kind H[k] = e → e = R := fun e h0 h1 => by rw [h1, if_neg h0] at hinv; rw [hinv, if_neg h0] at k2; exact k2
    have e1 : (validF H[k] = false ∨ ¬ cleanF H[k] = H[k] ∨ normF H[k] = [] ∨ (a.kind = 3 ∧ ¬ Lib.join (partsF H[k]) [45, 45] = H[k])) → 3 = R := fun h => r3 3 (by decide) (if_pos h)
    have e2 : ¬ (validF H[k] = false ∨ ¬ cleanF H[k] = H[k] ∨ normF H[k] = [] ∨ (a.kind = 3 ∧ ¬ Lib.join (partsF H[k]) [45, 45] = H[k])) → (200 < H[k].length ∨ 4 < (partsF H[k]).length) → 4 = R := fun h h' => r3 4 (by decide) (by unfold shape1; rw [if_neg h, if_pos h'])
    have e3 : ¬ (validF H[k] = false ∨ ¬ cleanF H[k] = H[k] ∨ normF H[k] = [] ∨ (a.kind = 3 ∧ ¬ Lib.join (partsF H[k]) [45, 45] = H[k])) → ¬ (200 < H[k].length ∨ 4 < (partsF H[k]).length) → firstE (shape1 a.kind) H = firstE (shape1 a.kind) (H.drop (k + 1)) := fun h h' => by
      have : shape1 a.kind H[k] = 0 := by unfold shape1; rw [if_neg h, if_neg h']
      rw [hinv, if_pos this]
    refine CallX.q (c25 H[k] (by omega)) ?_
    push_cast
    refine ⟨fun v => ⟨hlt, ?_⟩, fun v => e1 (.inl v)⟩
    refine CallX.q (c134 H[k] (by omega)) ?_
    push_cast
    refine ⟨hlt, fun v2 => ⟨hlt, ?_⟩, fun v2 => e1 (.inr (.inl v2))⟩
    refine CallX.q (c81 H[k] (by omega)) ?_
    push_cast
    have last : normF H[k] ≠ [] → ¬ (a.kind = 3 ∧ ¬ Lib.join (partsF H[k]) [45, 45] = H[k]) → ¬ (validF H[k] = false ∨ ¬ cleanF H[k] = H[k] ∨ normF H[k] = [] ∨ (a.kind = 3 ∧ ¬ Lib.join (partsF H[k]) [45, 45] = H[k])) := fun q1 q2 q => by
      rcases q with q | q | q | q
      · rw [v] at q; cases q
      · exact q v2
      · exact q1 q
      · exact q2 q
    refine ⟨fun v3 => ⟨fun v4 => ⟨hlt, ?_⟩, fun v4 => ?_⟩, fun v3 => e1 (.inr (.inr (.inl v3)))⟩
    · refine CallX.q (c136 H[k] (by omega)) ?_
      push_cast
      refine CallX.q (c135b (partsF H[k]) [45, 45] (by omega) (by omega)) ?_
      push_cast
      refine ⟨hlt, fun v5 => e1 (.inr (.inr (.inr ⟨v4, v5⟩))), fun v5 => ⟨hlt, fun v6 => ⟨hlt, ?_⟩, fun v6 => e2 (last v3 (fun q => q.2 v5)) (.inl (by omega))⟩⟩
      refine CallL.q (c136 H[k] (by omega)) ?_
      push_cast
      exact ⟨fun v7 => e2 (last v3 (fun q => q.2 v5)) (.inr (by omega)), fun v7 => ⟨by omega, hlt, e3 (last v3 (fun q => q.2 v5)) (by omega)⟩⟩
    · refine ⟨hlt, fun v6 => ⟨hlt, ?_⟩, fun v6 => e2 (last v3 (fun q => v4 q.1)) (.inl (by omega))⟩
      refine CallL.q (c136 H[k] (by omega)) ?_
      push_cast
      exact ⟨fun v7 => e2 (last v3 (fun q => v4 q.1)) (.inr (by omega)), fun v7 => ⟨by omega, hlt, e3 (last v3 (fun q => v4 q.1)) (by omega)⟩⟩
  · rw [firstE_end (by omega)] at hinv
    rw [hinv, if_pos rfl] at k2
    exact ⟨fun h => by rw [← k2, if_pos (by omega)], fun h => by rw [← k2, if_neg (by omega)]⟩
end Go.Proofs

/- Authorities by the program: place, Get, Contains. No condition. -/
namespace Go.Fc
open Go Go.Ax
theorem fI_get (l : List Au) (id : Int) : (getA l id = none → fI (fun a => decide (a.id = id)) 0 l = -1) ∧ ∀ a, getA l id = some a → ∃ i : Nat, ∃ h : i < l.length, fI (fun a => decide (a.id = id)) 0 l = i ∧ l[i] = a := by
  rw [fI_find]
  refine ⟨fun h => ?_, fun a h => ?_⟩
  · unfold getA at h
    have := List.find?_eq_none.1 h
    rw [if_neg]
    rw [List.findIdx_lt_length]
    rintro ⟨x, hx, hp⟩
    exact this x hx hp
  · unfold getA at h
    have hlt : l.findIdx (fun a => decide (a.id = id)) < l.length := List.findIdx_lt_length.2 ⟨a, List.mem_of_find?_eq_some h, by have := List.find?_some h; exact this⟩
    refine ⟨_, hlt, by rw [if_pos hlt, Nat.zero_add], ?_⟩
    have := List.find?_eq_getElem?_findIdx (xs := l) (p := fun a : Au => decide (a.id = id))
    rw [h, List.getElem?_eq_getElem hlt] at this
    exact (Option.some.inj this).symm
end Go.Fc
namespace Go.Proofs
open Go Go.Ax Go.Tx Go.Lib Go.RowKit Go.Fc
set_option maxRecDepth 100000
set_option maxHeartbeats 0
variable {Γ : List (Nat × List D)} {M : Int}
def predAu (p : Au → Bool) : List AV → List RV → Prop := fun a r => ∃ x : Au, a = [.agg (x.ds.map C.d)] ∧ r = [.d (.bool (p x))]
theorem c138 (l : List Au) (p : Au → Bool) (hl : l.length ≤ 2000000) : AFn Tryz.prog Γ 138 [.c (.bor 5 (l.map Au.ds)), .c (.fn (FnSpec Tryz.prog Γ (predAu p)))] [.d (.int .i64 (fI p 0 l))] := by
  refine AFn.vc [] Tryz.func138 rfl Tryz.mixed (by kernel_rfl) Tryz.ntmps138 Tryz.results138 (by simp) ?_
  push_cast
  refine LoopV.cnt Tryz.mixed [0, 1, 7] l.length (fun k => [(8, .c (.d (.int .i64 k)))]) (fun k => fI p k (l.drop k) = fI p 0 l) (by simp) ?_ (by push_cast)
  intro k hk hinv
  push_cast
  refine ⟨fun h => ⟨by omega, CallL.fn _ _ ⟨l[k], rfl, rfl⟩ ?_⟩, fun h => ?_⟩
  · push_cast
    refine ⟨fun a => ?_, fun a => ⟨by omega, by omega, ?_⟩⟩
    · rw [← hinv, Fc.drop_cons (by omega), fI, if_pos a]
    · rw [← hinv, Fc.drop_cons (show k < l.length by omega), fI, if_neg (by simp [a])]
  · rw [← hinv, List.drop_eq_nil_of_le (by omega)]; rfl
theorem c139 (s : Au) (c : Int) : AFn Tryz.prog Γ 139 [.agg (s.ds.map C.d), .c (.ptr [.int .i64 c])] [.d (.bool (decide (s.id = c)))] := by
  refine AFn.vc [] Tryz.func139 rfl Tryz.mixed (by kernel_rfl) Tryz.ntmps139 Tryz.results139 (by simp) ?_
  push_cast
theorem c78 (l : List Au) (id : Int) (hl : l.length ≤ 2000000) : AFn Tryz.prog Γ 78 [.c (.bor 5 (l.map Au.ds)), .c (.d (.int .i64 id))] [.d (.int .i64 (fI (fun a => decide (a.id = id)) 0 l))] := by
  refine AFn.vc [] Tryz.func78 rfl Tryz.mixed (by kernel_rfl) Tryz.ntmps78 Tryz.results78 (by simp) ?_
  push_cast
  refine CallL.q (c138 l (fun r => decide (r.id = id)) (by omega)) ?_ (.cons (ArgOk.bor rfl) (.cons (ArgOk.clo (dss := [[.int .i64 id]]) (c139 (Γ := []) default 0).call rfl (fun a r h => by obtain ⟨x, rfl, rfl⟩ := h; exact c139 x _)) .nil))
  push_cast
theorem c28 (l : List Au) (id : Int) (hl : l.length ≤ 2000000) : AFn Tryz.prog Γ 28 [.c (.d (.lst 5 (l.map Au.ds))), .c (.d (.int .i64 id))] [.agg ((getA l id).getD default).ds, .d (.bool (getA l id).isSome)] := by
  refine AFn.vc [] Tryz.func28 rfl Tryz.mixed (by kernel_rfl) Tryz.ntmps28 Tryz.results28 (by simp) ?_
  push_cast
  refine CallL.q (c78 l id hl) ?_
  push_cast
  obtain ⟨h1, h2⟩ := fI_get l id
  cases hg : getA l id with
  | none =>
    rw [h1 hg]
    refine ⟨fun h => by omega, fun h => ?_⟩
    exact ⟨⟨rfl, rfl, rfl, rfl, rfl⟩, rfl⟩
  | some a =>
    obtain ⟨i, hi, e1, e2⟩ := h2 a hg
    rw [e1]
    refine ⟨fun h => ?_, fun h => by omega⟩
    refine ⟨by omega, by omega, ?_⟩
    subst e2
    exact ⟨⟨rfl, rfl, rfl, rfl, rfl⟩, rfl⟩
theorem c147 (l : List Int) (v : Int) (hl : l.length ≤ 2000000) : AFn Tryz.prog Γ 147 [.c (.bor 1 (l.map Fc.iD)), .c (.d (.int .i64 v))] [.d (.int .i64 (fI (fun x => decide (x = v)) 0 l))] := by
  refine AFn.vc [] Tryz.func147 rfl Tryz.mixed (by kernel_rfl) Tryz.ntmps147 Tryz.results147 (by simp) ?_
  push_cast
  refine LoopV.cnt Tryz.mixed [0, 1, 7] l.length (fun k => [(8, .c (.d (.int .i64 k)))]) (fun k => fI (fun x => decide (x = v)) k (l.drop k) = fI (fun x => decide (x = v)) 0 l) (by simp) ?_ (by push_cast)
  intro k hk hinv
  push_cast
  refine ⟨fun h => ?_, fun h => ?_⟩
  · have hlt : k < l.length := by omega
    rw [Fc.drop_cons hlt, fI] at hinv
    refine ⟨hlt, fun e => ?_, fun e => ⟨by omega, hlt, ?_⟩⟩
    · rw [← hinv, if_pos (by simp [e])]
    · rw [← hinv, if_neg (by simpa using fun h => e h.symm)]
  · rw [← hinv, List.drop_eq_nil_of_le (by omega)]; rfl
theorem c85 (l : List Int) (v : Int) (hl : l.length ≤ 2000000) : AFn Tryz.prog Γ 85 [.c (.bor 1 (l.map Fc.iD)), .c (.d (.int .i64 v))] [.d (.bool (decide (v ∈ l)))] := by
  refine AFn.vc [] Tryz.func85 rfl Tryz.mixed (by kernel_rfl) Tryz.ntmps85 Tryz.results85 (by simp) ?_
  push_cast
  refine CallL.q (c147 l v hl) ?_
  push_cast
  rw [Ax.fI_ge]
  rw [List.any_eq]; exact decide_eq_decide.2 (by simp)
end Go.Proofs
