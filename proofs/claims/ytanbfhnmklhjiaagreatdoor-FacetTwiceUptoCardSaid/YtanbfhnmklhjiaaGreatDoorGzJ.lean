/- Part of a proof about this program; no condition of its own. -/
import Derived.Test.YtanbfhnmklhjiaaGreatDoorZWo
import Derived.Test.YtanbfhnmklhjiaaGreatDoorGzF
set_option linter.all false
/- The stable sort of few buckets; Top. No condition. -/
namespace Go.Fc
open Go Go.Ax Go.Or Go.Tx
def sortT (l : List Bk) : List Bk := l.mergeSort fun x y => !ltT y x
def topF (l : List Bk) (n : Int) : List Bk := (sortT l).take (max (min n l.length) 0).toNat
end Go.Fc
namespace Go.Proofs
open Go Go.Ax Go.Tx Go.Lib Go.Shelf Go.RowKit Go.Fc
set_option maxRecDepth 100000
set_option maxHeartbeats 0
variable {Γ : List (Nat × List D)}
theorem c163s (cf : Bk → Bk → Int) (d : Array Bk) (hd : d.size < 20) : RFn Tryz.prog Γ 163 79 2 (d.toList.map Bk.ds) ((Sort.insertionSort (fun x y => decide (cf x y < 0)) d 0 d.size).toList.map Bk.ds) [.c (.d (.int .i64 d.size)), .c (.fn (FnSpec Tryz.prog Γ (cmpBk cf)))] [] := by
  refine RFn.vc [] Tryz.func163 rfl Tryz.mixed (by kernel_rfl) Tryz.ntmps163 Tryz.results163 (by simp) bk_len (bks_scal _) rfl bk_len ?_
  push_cast
  refine LoopV.of Tryz.mixed [0, 1, 2, 6] (S := Unit) (fun _ => [(7, .c (.d (.int .i64 0))), (8, .c (.d (.int .i64 20)))]) (fun _ => [.row 79 2 (d.toList.map Bk.ds) 0]) (fun _ => True) (fun _ => 0) () trivial (by push_cast) ?_
  rintro _ _
  push_cast
  refine ⟨fun h => by omega, fun _ => ?_⟩
  refine CallL.rfn (j := 0) (ver := 0) (c229 cf d 0 d.size (Nat.zero_le _) (Nat.le_refl _) (by omega)) ?_
  push_cast
  generalize Sort.insertionSort (fun x y => decide (cf x y < 0)) d 0 d.size = R
  refine LoopV.of Tryz.mixed [0, 1, 2] (S := Unit) (fun _ => [(6, .c (.d (.int .i64 20)))]) (fun _ => [.row 79 2 (R.toList.map Bk.ds) 0]) (fun _ => True) (fun _ => 0) () trivial (by push_cast) ?_
  rintro _ _
  push_cast
  exact fun h => by omega
theorem c115s (cf : Bk → Bk → Int) (d : Array Bk) (hd : d.size < 20) : RFn Tryz.prog Γ 115 79 2 (d.toList.map Bk.ds) ((Sort.insertionSort (fun x y => decide (cf x y < 0)) d 0 d.size).toList.map Bk.ds) [.c (.fn (FnSpec Tryz.prog Γ (cmpBk cf)))] [] := by
  refine RFn.vc [] Tryz.func115 rfl Tryz.mixed (by kernel_rfl) Tryz.ntmps115 Tryz.results115 (by simp) bk_len (bks_scal _) rfl bk_len ?_
  push_cast
  refine CallL.rfn (j := 0) (ver := 0) (c163s cf d hd) ?_
  push_cast
theorem c114 (l : List Bk) (hl : l.length ≤ 1000000) : AFn Tryz.prog Γ 114 [.c (.bor 2 (l.map Bk.ds))] [.fresh 79 2 (l.map Bk.ds)] := by
  refine AFn.vc [] Tryz.func114 rfl Tryz.mixed (by kernel_rfl) Tryz.ntmps114 Tryz.results114 (by simp) ?_
  push_cast
  exact ⟨fun _ => ⟨by omega, by omega⟩, fun h b => ⟨fun _ => h, fun _ => ⟨by omega, by omega⟩⟩⟩
theorem ins_sort (l : List Bk) : (Sort.insertionSort (fun x y => decide (cfT x y < 0)) l.toArray 0 l.toArray.size).toList = sortT l := by
  obtain ⟨h1, h2⟩ := Sort.insertionSort_holds (lt := ltT) swoT l.toArray 0 l.toArray.size (Nat.zero_le _) (Nat.le_refl _)
  have h3 := Sort.sorted_unique_holds (lt := ltT) swoT (fun x y a b => sto_T.tri x y a b) l.toArray _ h1 h2
  unfold sortT
  exact h3
theorem c55s (l : List Bk) (n : Int) (hl : l.length < 20) : AFn Tryz.prog Γ 55 [.c (.d (.lst 2 (l.map Bk.ds))), .c (.d (.int .i64 n))] [.d (.lst 2 ((topF l n).map Bk.ds))] := by
  have hs := c115s (Γ := Γ) cfT l.toArray (by simpa using hl)
  rw [ins_sort] at hs
  have hsl : (sortT l).length = l.length := (List.mergeSort_perm _ _).length_eq
  unfold topF
  generalize sortT l = s at *
  refine AFn.vc [] Tryz.func55 rfl Tryz.mixed (by kernel_rfl) Tryz.ntmps55 Tryz.results55 (by simp) ?_
  push_cast
  refine CallL.own (c114 l (by omega)) ?_
  push_cast
  refine CallL.rfn (j := 0) (ver := 0) hs ?_ (ha := .cons (ArgR.clo0 (Γ := Γ) (F := cmpBk cfT) (c116 (Γ := []) ⟨[], 0⟩ ⟨[], 0⟩).call (fun a r h => by obtain ⟨x, y, rfl, rfl⟩ := h; exact c116 x y)) .nil)
  push_cast
  rw [show imax (imin n (s.length : Int)) 0 = max (min n l.length) 0 by rw [hsl]; unfold imax imin; omega]
  exact ⟨by omega, by omega, by omega, by rw [List.map_take]⟩
end Go.Proofs

/- The example records. No condition. -/
namespace Go.Fc
open Go Go.Ax Go.Or Go.Tx
def bookF (s : Str) : Fld := ⟨[54, 53, 48], [32, 48], [⟨97, s⟩], 0⟩
def bookR (id : Int) (lang year : Str) (subj : List Str) : Rec := ⟨id, 3, 1, lang, ⟨[50, 54, 52], [32, 49], [⟨99, year⟩], 0⟩ :: subj.map bookF⟩
end Go.Fc
namespace Go.Proofs
open Go Go.Ax Go.Tx Go.Lib Go.Shelf Go.RowKit Go.Fc
set_option maxRecDepth 100000
set_option maxHeartbeats 0
variable {Γ : List (Nat × List D)}
theorem c96 (id : Int) (lang year : Str) (subj : List Str) (hl : subj.length ≤ 1000) : AFn Tryz.prog Γ 96 [.c (.d (.int .i64 id)), .c (.d (.str lang)), .c (.d (.str year)), .c (.d (.lst 1 (subj.map Fc.sD)))] [.agg (bookR id lang year subj).ds] := by
  refine AFn.vc [17] Tryz.func96 rfl Tryz.mixed (by kernel_rfl) Tryz.ntmps96 Tryz.results96 (by simp) ?_
  push_cast
  have hb : bookR id lang year subj = ⟨id, 3, 1, lang, ⟨[50, 54, 52], [32, 49], [⟨99, year⟩], 0⟩ :: subj.map bookF⟩ := rfl
  rw [hb]
  refine LoopV.cntH Tryz.mixed [3, 8, 9] subj.length (fun k => [(10, .c (.d (.int .i64 k)))]) (fun k => [.box 64 [.d (.int .i64 0), .d (.int .i64 0), .d (.int .i64 0), .d (.str []), .d (.raw (.slice none 0 0))], .row 88 4 (((⟨[50, 54, 52], [32, 49], [⟨99, year⟩], 0⟩ : Fld) :: (subj.take k).map bookF).map Fld.ds) k, .box 64 [.d (.int .i64 id), .d (.int .i64 3), .d (.int .i64 1), .d (.str lang), .own 1 k]]) (fun _ => True) trivial ?_ (by push_cast)
  intro k hk _
  push_cast
  refine ⟨fun h => ?_, fun h => ?_⟩
  · have hlt : k < subj.length := by omega
    have hn := map_next bookF hlt
    exact ⟨hlt, by omega, by omega, hlt, by rw [hn]; simp [bookF, Fld.ds, Sb.ds]⟩
  · rw [List.take_of_length_le (by omega)]
def bkA : Rec := bookR 1 [101, 110, 103] [49, 57, 57, 53] [[68, 111, 103, 115]]
def bkB : Rec := bookR 2 [103, 101, 114] [49, 57, 57, 56] [[67, 97, 116, 115], [68, 111, 103, 115]]
def bkC : Bk := ⟨[67, 97, 116, 115], 1⟩
def bkD : Bk := ⟨[68, 111, 103, 115], 2⟩
theorem exV1 : valuesF 3 bkA = [[49, 57, 57, 48, 115]] := by kernel_rfl
theorem exV2 : valuesF 3 bkB = [[49, 57, 57, 48, 115]] := by kernel_rfl
theorem exC : countF [bkA, bkB] [1, 2] 4 = [bkC, bkD] := by kernel_rfl
theorem exN1 : narrowF [bkA, bkB] [2, 1] 4 [68, 111, 103, 115] = [2, 1] := by kernel_rfl
theorem exN2 : narrowF [bkA, bkB] [2, 1] 4 [67, 97, 116, 115] = [2] := by kernel_rfl
theorem sortT_sorted (l : List Bk) : (sortT l).Pairwise fun x y => ltT y x = false := Or.ms_sorted sto_T.ntr (fun x y h => sto_T.asym h) l
theorem exT : topF [bkC, bkD] 1 = [bkD] := by
  have hs : sortT [bkC, bkD] = [bkD, bkC] := by
    refine Or.sort_perm_eq sto_T ((List.mergeSort_perm _ _).trans (List.Perm.swap _ _ _)) (sortT_sorted _) ?_
    refine List.pairwise_pair.2 ?_
    kernel_rfl
  unfold topF
  rw [hs]
  rfl
theorem values_vl (kind : Int) (r : Rec) (h1 : r.lang.length ≤ 2000000) (h2 : r.sm) (h3 : ∀ f ∈ r.fields, (Lib.join (allS f.subs [97]) [32]).length ≤ 1000000000) : ∀ v ∈ valuesF kind r, v.length ≤ 2000000000 := by
  intro v hv
  have hv := (((putsS_spec (rawV kind r)).2 v).1 hv).2
  unfold rawV at hv
  split at hv
  · rw [List.mem_singleton.1 hv]; omega
  · split at hv
    · split at hv
      · rw [List.mem_singleton.1 hv]
        unfold kindS
        split
        · decide
        · split
          · decide
          · split <;> decide
      · cases hv
    · split at hv
      · rw [List.mem_singleton.1 hv]
        unfold decadeS
        split
        · decide
        · rw [List.length_append]
          have hb := yearFs_bd r.fields
          have := dec_len (yearFs r.fields / 10 * 10).toNat
          unfold itoa
          rw [if_neg (by omega)]
          simp only [List.length_cons, List.length_nil]
          omega
      · obtain ⟨f, hf, hv⟩ := List.mem_flatMap.1 hv
        unfold rawFld at hv
        split at hv
        · split at hv
          · rw [List.mem_singleton.1 hv]
            unfold getS
            split
            · next s hs => have := h2 f hf s (List.mem_of_find?_eq_some hs); simp only; omega
            · simp
          · cases hv
        · split at hv
          · split at hv
            · rw [List.mem_singleton.1 hv]; have := h3 f hf; omega
            · cases hv
          · cases hv
theorem ok_of (r : Rec) (h : (decide (r.fields.length ≤ 2000) && decide (r.lang.length ≤ 2000000) && r.fields.all fun f => decide (f.subs.length ≤ 2000) && decide ((Lib.join (allS f.subs [97]) [32]).length ≤ 1000000000) && f.subs.all fun s => decide (s.val.length ≤ 2000000) && decide (0 ≤ s.code) && decide (s.code ≤ 255)) = true) : r.ok := by
  simp only [Bool.and_eq_true, decide_eq_true_eq, List.all_eq_true] at h
  obtain ⟨⟨h1, h2⟩, h3⟩ := h
  have hsm : r.sm := fun f hf s hs => ((h3 f hf).2 s hs).1.1
  have hj : ∀ f ∈ r.fields, (Lib.join (allS f.subs [97]) [32]).length ≤ 1000000000 := fun f hf => (h3 f hf).1.2
  exact ⟨⟨hsm, h1, fun f hf => (h3 f hf).1.1, hj⟩, fun f hf s hs => ⟨((h3 f hf).2 s hs).1.2, ((h3 f hf).2 s hs).2⟩, fun kind => values_vl kind r h2 hsm hj⟩
theorem c43 (hΓ : (4, powD) ∈ Γ) : AFn Tryz.prog Γ 43 [] [.d (.bool true)] := by
  have okA : bkA.ok := ok_of _ (by kernel_rfl)
  have okB : bkB.ok := ok_of _ (by kernel_rfl)
  have ok : ∀ r ∈ [bkA, bkB], r.ok := fun r hr => by
    rcases List.mem_cons.1 hr with rfl | hr
    · exact okA
    · rw [List.mem_singleton.1 hr]; exact okB
  have cA : AFn Tryz.prog Γ 96 [.c (.d (.int .i64 1)), .c (.d (.str [101, 110, 103])), .c (.d (.str [49, 57, 57, 53])), .c (.d (.lst 1 [[.str [68, 111, 103, 115]]]))] [.agg bkA.ds] := c96 1 [101, 110, 103] [49, 57, 57, 53] [[68, 111, 103, 115]] (by simp)
  have cB : AFn Tryz.prog Γ 96 [.c (.d (.int .i64 2)), .c (.d (.str [103, 101, 114])), .c (.d (.str [49, 57, 57, 56])), .c (.d (.lst 1 [[.str [67, 97, 116, 115]], [.str [68, 111, 103, 115]]]))] [.agg bkB.ds] := c96 2 [103, 101, 114] [49, 57, 57, 56] [[67, 97, 116, 115], [68, 111, 103, 115]] (by simp)
  have f1 := c46 hΓ 3 bkA okA.fit okA.cd
  have f2 := c46 hΓ 3 bkB okB.fit okB.cd
  have f3 := c49 hΓ [bkA, bkB] [1, 2] 4 (by simp) (by simp) ok
  have f4 := c52 hΓ [bkA, bkB] [2, 1] 4 [68, 111, 103, 115] (by simp) (by simp) ok
  have f5 := c52 hΓ [bkA, bkB] [2, 1] 4 [67, 97, 116, 115] (by simp) (by simp) ok
  rw [exV1] at f1
  rw [exV2] at f2
  rw [exC] at f3
  rw [exN1] at f4
  rw [exN2] at f5
  clear ok okA okB
  generalize bkA = A at *
  generalize bkB = B at *
  refine AFn.vc [] Tryz.func43 rfl Tryz.mixed (by kernel_rfl) Tryz.ntmps43 Tryz.results43 (by simp) ?_
  push_cast
  refine CallL.q cA ?_
  push_cast
  refine CallL.q cB ?_
  push_cast
  refine CallL.q f1 ?_
  push_cast
  refine CallL.q (c45 [[49, 57, 57, 48, 115]] [[49, 57, 57, 48, 115]] (by simp)) ?_
  push_cast
  refine CallL.q f2 ?_
  push_cast
  refine CallL.q (c45 [[49, 57, 57, 48, 115]] [[49, 57, 57, 48, 115]] (by simp)) ?_
  push_cast
  refine CallL.q f3 ?_
  push_cast
  refine CallX.q (c48 [bkC, bkD] [bkC, bkD] (by simp)) ?_
  push_cast
  refine CallX.q (c55s [bkC, bkD] 1 (by simp)) ?_
  rw [exT]
  push_cast
  refine CallX.q (c48 [bkD] [bkD] (by simp)) ?_
  push_cast
  refine CallL.q f4 ?_
  push_cast
  refine CallL.q (c51 [2, 1] [2, 1] (by simp)) ?_
  push_cast
  refine CallL.q f5 ?_
  push_cast
  refine CallL.q (c51 [2] [2] (by simp)) ?_
  push_cast
end Go.Proofs

/- The statements on values, counts and agreement. No condition. -/
namespace Go.Proofs
open Go Go.Ax Go.Tx Go.Lib Go.Shelf Go.RowKit Go.Fc
set_option maxRecDepth 100000
set_option maxHeartbeats 0
variable {Γ : List (Nat × List D)}
theorem join_bd {K : Nat} (sep : Str) : ∀ (l : List Str), (∀ v ∈ l, v.length ≤ K) → (Lib.join l sep).length ≤ l.length * (K + sep.length)
  | [], _ => by simp [Lib.join]
  | [x], h => by
    have := h x (by simp)
    simp [Lib.join]; omega
  | x :: y :: r, h => by
    have h1 := h x (by simp)
    have h2 := join_bd sep (y :: r) (fun v hv => h v (List.mem_cons_of_mem _ hv))
    have e : (Lib.join (x :: y :: r) sep).length = x.length + sep.length + (Lib.join (y :: r) sep).length := by
      simp [Lib.join]; omega
    rw [e, List.length_cons, Nat.add_mul]
    omega
theorem rightR_ok {r : Rec} (h : rightR r = 0) : r.lang.length = 3 ∧ r.fields.length ≤ 64 ∧ ∀ f ∈ r.fields, rightF f = 0 := by
  unfold rightR at h
  split at h
  · omega
  · split at h
    · omega
    · split at h
      · omega
      · split at h
        · next h4 =>
          split at h
          · omega
          · split at h
            · omega
            · exact ⟨h4, by omega, rightFs_ok h⟩
        · omega
theorem ok_right {r : Rec} (h : rightR r = 0) (hc : r.cd) : r.ok := by
  obtain ⟨h1, h2, h3⟩ := rightR_ok h
  have hv : ∀ f ∈ r.fields, ∀ s ∈ f.subs, s.val.length ≤ 200 := fun f hf s hs => (rightS_ok ((rightF_ok (h3 f hf)).2.2 s hs)).2.2
  have hsm : r.sm := fun f hf s hs => by have := hv f hf s hs; omega
  have hj : ∀ f ∈ r.fields, (Lib.join (allS f.subs [97]) [32]).length ≤ 1000000000 := fun f hf => by
    have a := allS_len f.subs [97]
    have b := (rightF_ok (h3 f hf)).2.1
    have c := join_bd (K := 200) [32] (allS f.subs [97]) (fun v hv' => by
      obtain ⟨s, hs, rfl⟩ := allS_mem hv'
      exact hv f hf s hs)
    have d : (allS f.subs [97]).length * (200 + 1) ≤ 16 * 201 := Nat.mul_le_mul (by omega) (Nat.le_refl _)
    have e : ([32] : Str).length = 1 := rfl
    rw [e] at c
    omega
  exact ⟨⟨hsm, by omega, fun f hf => by have := (rightF_ok (h3 f hf)).2.1; omega, hj⟩, hc, fun kind => values_vl kind r (by omega) hsm hj⟩
theorem few_ok {l : List Rec} {n : Nat} (h : fewB l n = true) (hc : ∀ r ∈ l, r.cd) : l.length ≤ 8 ∧ n ≤ 20 ∧ ∀ r ∈ l, r.ok := by
  unfold fewB at h
  simp only [Bool.and_eq_true, decide_eq_true_eq, List.all_eq_true] at h
  exact ⟨h.1, h.2.1, fun r hr => ok_right (h.2.2 r hr).2 (hc r hr)⟩
theorem c10 (hΓ : (4, powD) ∈ Γ) (r : Rec) (kind : Int) (hs : r.sm) (hc : r.cd) : AFn Tryz.prog Γ 10 [.agg (r.ds.map C.d), .c (.d (.int .i64 kind))] [.d (.bool true)] := by
  have hf : fewB [r] ([] : List Int).length = true → r.ok := fun h => (few_ok h (fun x hx => by rw [List.mem_singleton.1 hx]; exact hc)).2.2 r (by simp)
  refine AFn.vc [] Tryz.func10 rfl Tryz.mixed (by kernel_rfl) Tryz.ntmps10 Tryz.results10 (by simp) ?_
  push_cast
  refine CallL.q (c43 hΓ) ?_
  push_cast
  refine CallX.q (c44 [r] [] (fun x hx => by rw [List.mem_singleton.1 hx]; exact hs)) ?_
  push_cast
  intro e
  have h3 := hf e
  refine CallX.q (c46 hΓ kind r h3.fit h3.cd) ?_
  push_cast
  refine CallX.q (c47 kind r h3.fit) ?_
  push_cast
  refine CallX.q (c45 (valuesF kind r) (valuesF kind r) (by have := values_len kind r h3.fit; omega)) ?_
  push_cast
theorem narrow_bd (l : List Rec) (kind : Int) (value : Str) (ids : List Int) : (narrowF l ids kind value).length ≤ ids.length := by
  have := narrow_len l kind value ids []
  simpa [narrowF] using this
theorem count_bd (kind : Int) (l : List Rec) (ids : List Int) (hl : l.length ≤ 100) (hok : ∀ r ∈ l, r.ok) : (countF l ids kind).length ≤ 200100 := by
  unfold countF
  rw [List.length_map]
  refine Nat.le_trans (putsS_len _) ?_
  have h1 := vs_len kind (selR l ids) (fun r hr => (hok r (List.mem_filter.1 hr).1).fit)
  have h2 := sel_len l ids
  omega
theorem c11 (hΓ : (4, powD) ∈ Γ) (l : List Rec) (ids : List Int) (kind : Int) (value : Str) (hs : ∀ r ∈ l, r.sm) (hc : ∀ r ∈ l, r.cd) (hv : value.length ≤ 2000000) : AFn Tryz.prog Γ 11 [.c (.d (.lst 5 (l.map Rec.ds))), .c (.d (.lst 1 (ids.map Fc.iD))), .c (.d (.int .i64 kind)), .c (.d (.str value))] [.d (.bool true)] := by
  refine AFn.vc [] Tryz.func11 rfl Tryz.mixed (by kernel_rfl) Tryz.ntmps11 Tryz.results11 (by simp) ?_
  push_cast
  refine CallL.q (c43 hΓ) ?_
  push_cast
  refine CallL.q (c44 l ids hs) ?_
  push_cast
  intro e e2
  obtain ⟨h1, h2, h3⟩ := few_ok e hc
  refine CallL.q (c49 hΓ l ids kind (by omega) (by omega) h3) ?_
  push_cast
  refine CallL.q (c50 l ids kind (by omega) (by omega) h3) ?_
  push_cast
  refine CallL.q (c48 (countF l ids kind) (countF l ids kind) (by have := count_bd kind l ids (by omega) h3; omega)) ?_
  push_cast
  refine CallL.q (c52 hΓ l ids kind value (by omega) (by omega) h3) ?_
  push_cast
  refine CallL.q (c53 l ids kind value (by omega) (by omega) h3) ?_
  push_cast
  refine CallL.q (c51 (narrowF l ids kind value) (narrowF l ids kind value) (by have := narrow_bd l kind value ids; omega)) ?_
  push_cast
end Go.Proofs
