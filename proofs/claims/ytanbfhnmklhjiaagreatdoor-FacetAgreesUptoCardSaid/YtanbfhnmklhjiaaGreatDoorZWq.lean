/- Part of a proof about this program; no condition of its own. -/
import Derived.Test.YtanbfhnmklhjiaaGreatDoorZWp
set_option linter.all false
/- The example records. No condition. -/
namespace Go.Fc
open Go Go.Ax Go.Or Go.Tx
def bookF (s : Str) : Fld := ⟨[54, 53, 48], [32, 48], [⟨97, s⟩], 0⟩
def bookR (id : Int) (lang year : Str) (subj : List Str) : Rec := ⟨id, 3, 1, lang, ⟨[50, 54, 52], [32, 49], [⟨99, year⟩], 0⟩ :: subj.map bookF⟩
end Go.Fc
namespace Go.Proofs
open Go Go.Ax Go.Tx Go.Lib Go.Shelf Go.RowKit Go.Fc
set_option maxRecDepth 100000
set_option maxHeartbeats 0
variable {Γ : List (Nat × List D)}
theorem c96 (id : Int) (lang year : Str) (subj : List Str) (hl : subj.length ≤ 1000) : AFn Tryz.prog Γ 96 [.c (.d (.int .i64 id)), .c (.d (.str lang)), .c (.d (.str year)), .c (.d (.lst 1 (subj.map Fc.sD)))] [.agg (bookR id lang year subj).ds] := by
  refine AFn.vc [17] Tryz.func96 rfl Tryz.mixed (by kernel_rfl) Tryz.ntmps96 Tryz.results96 (by simp) ?_
  push_cast
  have hb : bookR id lang year subj = ⟨id, 3, 1, lang, ⟨[50, 54, 52], [32, 49], [⟨99, year⟩], 0⟩ :: subj.map bookF⟩ := rfl
  rw [hb]
  refine LoopV.cntH Tryz.mixed [3, 8, 9] subj.length (fun k => [(10, .c (.d (.int .i64 k)))]) (fun k => [.box 64 [.d (.int .i64 0), .d (.int .i64 0), .d (.int .i64 0), .d (.str []), .d (.raw (.slice none 0 0))], .row 88 4 (((⟨[50, 54, 52], [32, 49], [⟨99, year⟩], 0⟩ : Fld) :: (subj.take k).map bookF).map Fld.ds) k, .box 64 [.d (.int .i64 id), .d (.int .i64 3), .d (.int .i64 1), .d (.str lang), .own 1 k]]) (fun _ => True) trivial ?_ (by push_cast)
  intro k hk _
  push_cast
  refine ⟨fun h => ?_, fun h => ?_⟩
  · have hlt : k < subj.length := by omega
    have hn := map_next bookF hlt
    exact ⟨hlt, by omega, by omega, hlt, by rw [hn]; simp [bookF, Fld.ds, Sb.ds]⟩
  · rw [List.take_of_length_le (by omega)]
def bkA : Rec := bookR 1 [101, 110, 103] [49, 57, 57, 53] [[68, 111, 103, 115]]
def bkB : Rec := bookR 2 [103, 101, 114] [49, 57, 57, 56] [[67, 97, 116, 115], [68, 111, 103, 115]]
def bkC : Bk := ⟨[67, 97, 116, 115], 1⟩
def bkD : Bk := ⟨[68, 111, 103, 115], 2⟩
theorem exV1 : valuesF 3 bkA = [[49, 57, 57, 48, 115]] := by kernel_rfl
theorem exV2 : valuesF 3 bkB = [[49, 57, 57, 48, 115]] := by kernel_rfl
theorem exC : countF [bkA, bkB] [1, 2] 4 = [bkC, bkD] := by kernel_rfl
theorem exN1 : narrowF [bkA, bkB] [2, 1] 4 [68, 111, 103, 115] = [2, 1] := by kernel_rfl
theorem exN2 : narrowF [bkA, bkB] [2, 1] 4 [67, 97, 116, 115] = [2] := by kernel_rfl
theorem sortT_sorted (l : List Bk) : (sortT l).Pairwise fun x y => ltT y x = false := Or.ms_sorted sto_T.ntr (fun x y h => sto_T.asym h) l
theorem exT : topF [bkC, bkD] 1 = [bkD] := by
  have hs : sortT [bkC, bkD] = [bkD, bkC] := by
    refine Or.sort_perm_eq sto_T ((List.mergeSort_perm _ _).trans (List.Perm.swap _ _ _)) (sortT_sorted _) ?_
    refine List.pairwise_pair.2 ?_
    kernel_rfl
  unfold topF
  rw [hs]
  rfl
theorem values_vl (kind : Int) (r : Rec) (h1 : r.lang.length ≤ 2000000) (h2 : r.sm) (h3 : ∀ f ∈ r.fields, (Lib.join (allS f.subs [97]) [32]).length ≤ 1000000000) : ∀ v ∈ valuesF kind r, v.length ≤ 2000000000 := by
  intro v hv
  have hv := (((putsS_spec (rawV kind r)).2 v).1 hv).2
  unfold rawV at hv
  split at hv
  · rw [List.mem_singleton.1 hv]; omega
  · split at hv
    · split at hv
      · rw [List.mem_singleton.1 hv]
        unfold kindS
        split
        · decide
        · split
          · decide
          · split <;> decide
      · cases hv
    · split at hv
      · rw [List.mem_singleton.1 hv]
        unfold decadeS
        split
        · decide
        · rw [List.length_append]
          have hb := yearFs_bd r.fields
          have := dec_len (yearFs r.fields / 10 * 10).toNat
          unfold itoa
          rw [if_neg (by omega)]
          simp only [List.length_cons, List.length_nil]
          omega
      · obtain ⟨f, hf, hv⟩ := List.mem_flatMap.1 hv
        unfold rawFld at hv
        split at hv
        · split at hv
          · rw [List.mem_singleton.1 hv]
            unfold getS
            split
            · next s hs => have := h2 f hf s (List.mem_of_find?_eq_some hs); simp only; omega
            · simp
          · cases hv
        · split at hv
          · split at hv
            · rw [List.mem_singleton.1 hv]; have := h3 f hf; omega
            · cases hv
          · cases hv
theorem ok_of (r : Rec) (h : (decide (r.fields.length ≤ 2000) && decide (r.lang.length ≤ 2000000) && r.fields.all fun f => decide (f.subs.length ≤ 2000) && decide ((Lib.join (allS f.subs [97]) [32]).length ≤ 1000000000) && f.subs.all fun s => decide (s.val.length ≤ 2000000) && decide (0 ≤ s.code) && decide (s.code ≤ 255)) = true) : r.ok := by
  simp only [Bool.and_eq_true, decide_eq_true_eq, List.all_eq_true] at h
  obtain ⟨⟨h1, h2⟩, h3⟩ := h
  have hsm : r.sm := fun f hf s hs => ((h3 f hf).2 s hs).1.1
  have hj : ∀ f ∈ r.fields, (Lib.join (allS f.subs [97]) [32]).length ≤ 1000000000 := fun f hf => (h3 f hf).1.2
  exact ⟨⟨hsm, h1, fun f hf => (h3 f hf).1.1, hj⟩, fun f hf s hs => ⟨((h3 f hf).2 s hs).1.2, ((h3 f hf).2 s hs).2⟩, fun kind => values_vl kind r h2 hsm hj⟩
theorem c43 (hΓ : (4, powD) ∈ Γ) : AFn Tryz.prog Γ 43 [] [.d (.bool true)] := by
  have okA : bkA.ok := ok_of _ (by kernel_rfl)
  have okB : bkB.ok := ok_of _ (by kernel_rfl)
  have ok : ∀ r ∈ [bkA, bkB], r.ok := fun r hr => by
    rcases List.mem_cons.1 hr with rfl | hr
    · exact okA
    · rw [List.mem_singleton.1 hr]; exact okB
  have cA : AFn Tryz.prog Γ 96 [.c (.d (.int .i64 1)), .c (.d (.str [101, 110, 103])), .c (.d (.str [49, 57, 57, 53])), .c (.d (.lst 1 [[.str [68, 111, 103, 115]]]))] [.agg bkA.ds] := c96 1 [101, 110, 103] [49, 57, 57, 53] [[68, 111, 103, 115]] (by simp)
  have cB : AFn Tryz.prog Γ 96 [.c (.d (.int .i64 2)), .c (.d (.str [103, 101, 114])), .c (.d (.str [49, 57, 57, 56])), .c (.d (.lst 1 [[.str [67, 97, 116, 115]], [.str [68, 111, 103, 115]]]))] [.agg bkB.ds] := c96 2 [103, 101, 114] [49, 57, 57, 56] [[67, 97, 116, 115], [68, 111, 103, 115]] (by simp)
  have f1 := c46 hΓ 3 bkA okA.fit okA.cd
  have f2 := c46 hΓ 3 bkB okB.fit okB.cd
  have f3 := c49 hΓ [bkA, bkB] [1, 2] 4 (by simp) (by simp) ok
  have f4 := c52 hΓ [bkA, bkB] [2, 1] 4 [68, 111, 103, 115] (by simp) (by simp) ok
  have f5 := c52 hΓ [bkA, bkB] [2, 1] 4 [67, 97, 116, 115] (by simp) (by simp) ok
  rw [exV1] at f1
  rw [exV2] at f2
  rw [exC] at f3
  rw [exN1] at f4
  rw [exN2] at f5
  clear ok okA okB
  generalize bkA = A at *
  generalize bkB = B at *
  refine AFn.vc [] Tryz.func43 rfl Tryz.mixed (by kernel_rfl) Tryz.ntmps43 Tryz.results43 (by simp) ?_
  push_cast
  refine CallL.q cA ?_
  push_cast
  refine CallL.q cB ?_
  push_cast
  refine CallL.q f1 ?_
  push_cast
  refine CallL.q (c45 [[49, 57, 57, 48, 115]] [[49, 57, 57, 48, 115]] (by simp)) ?_
  push_cast
  refine CallL.q f2 ?_
  push_cast
  refine CallL.q (c45 [[49, 57, 57, 48, 115]] [[49, 57, 57, 48, 115]] (by simp)) ?_
  push_cast
  refine CallL.q f3 ?_
  push_cast
  refine CallX.q (c48 [bkC, bkD] [bkC, bkD] (by simp)) ?_
  push_cast
  refine CallX.q (c55s [bkC, bkD] 1 (by simp)) ?_
  rw [exT]
  push_cast
  refine CallX.q (c48 [bkD] [bkD] (by simp)) ?_
  push_cast
  refine CallL.q f4 ?_
  push_cast
  refine CallL.q (c51 [2, 1] [2, 1] (by simp)) ?_
  push_cast
  refine CallL.q f5 ?_
  push_cast
  refine CallL.q (c51 [2] [2] (by simp)) ?_
  push_cast
end Go.Proofs
