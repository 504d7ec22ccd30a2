/- Part of a proof about this program; no condition of its own. -/
import Derived.Test.YtanbfhnmklhjiaaGreatDoorP30
import Derived.Test.YtanbfhnmklhjiaaGreatDoorP26
import Derived.Test.YtanbfhnmklhjiaaGreatDoorP27
import Derived.Test.YtanbfhnmklhjiaaGreatDoorP29
set_option linter.all false
/- The program's folding, walked. No condition. -/
namespace Go.Proofs
open Go Go.Ax Go.Tx Go.Lib Go.RowKit Go.Fc Go.Shelf
set_option maxRecDepth 1000000
set_option maxHeartbeats 0
def foldK (c : Nat) : List UInt8 := if foldC c = [] then encodeRune (c : Int) else foldC c
theorem foldD_eq (l : List UInt8) : foldD l = (chD l).flatMap fun ch => foldK ch.1 := rfl
theorem plain_at {i : Nat} (h : i < 64) : plainL[i]? = some (foldC (192 + i)) := by
  unfold plainL
  rw [List.getElem?_map, List.getElem?_range h]
  rfl
theorem foldK_up {c : Nat} (h1 : 65 ≤ c) (h2 : c ≤ 90) : foldK c = encodeRune ((c : Int) + 97 - 65) := by
  have : (List.range 26).all (fun i => foldK (65 + i) == encodeRune (((65 + i : Nat) : Int) + 97 - 65)) = true := by kernel_rfl
  have h := List.all_eq_true.1 this (c - 65) (List.mem_range.2 (by omega))
  rw [show 65 + (c - 65) = c by omega] at h
  simpa using h
theorem foldC_none {c : Nat} (h1 : ¬ (65 ≤ c ∧ c ≤ 90)) (h2 : ¬ (192 ≤ c ∧ c < 256)) : foldC c = [] := by
  unfold foldC
  rw [if_neg h1, if_pos (by omega)]
theorem alloc_at (w : World) (o : Obj) : (w.alloc o).heap[w.heap.size]? = some o := by
  simp only [World.alloc]
  exact Array.getElem?_push_size
theorem foldK_len (c : Nat) : (foldK c).length ≤ 4 := by
  unfold foldK
  split
  · exact encR_len _
  · have := foldC_len c; omega
theorem w183 (l : List UInt8) (w : World) (hs : l.length ≤ 4000000) :
    Calls Tryz.prog 183 #[.string ⟨l.toArray⟩] w fun e w' => e = .returned (.string ⟨(foldD l).toArray⟩) ∧ Below w.heap.size w w' := by
  go_enter Tryz.func183, Tryz.ntmps183
  go_wp2_with (go_at_call 197; refine (w197 ⟨plainS.toArray⟩ 44 w plain_len).mono ?_; rw [plain_cnt, plain_split]; rintro e W1 ⟨rfl, hw⟩; have hz : w.heap.size < W1.heap.size := (by rw [hw]; simp); have hc : W1.heap[w.heap.size]? = some (.cells ((plainL.map fun l => (⟨l.toArray⟩ : ByteArray)).map Value.string).toArray 9) := (by rw [hw]; exact alloc_at _ _); have hb0 : Below w.heap.size w W1 := (by rw [hw]; exact (Below.refl _ w).alloc (Nat.le_refl _) _); clear hw)
  go_loopw [] (fun wr => ∃ (pos : Nat) (acc : List UInt8), Lib.IsBuilderF 194 5 W1.heap.size W1.heap.size (Lib.byteCells acc) wr ∧ wr.heap[W1.heap.size + 1]? = some (.stringIter ⟨l.toArray⟩ pos) ∧ Below W1.heap.size W1 wr ∧ acc ++ (chD (l.drop pos)).flatMap (fun ch => foldK ch.1) = foldD l ∧ pos ≤ l.length ∧ acc.length ≤ 4 * pos) (fun wr => l.length - wr.iterPos (W1.heap.size + 1))
  case atStart =>
    refine ⟨0, [], (Lib.IsBuilderF.of (Lib.fresh_isBuilder 194 5 W1)).alloc _, ?_, ((Below.refl _ W1).alloc (Nat.le_refl _) _).alloc (by simp) _, by simp [foldD_eq], Nat.zero_le _, by simp⟩
    have := World.iter_heap (W1.alloc (.cells #[.pointer none, .slice none 0 0] 194)) ⟨l.toArray⟩ 0
    simpa using this
  case round =>
    obtain ⟨pos, acc, hI, hit, hbw, hacc, hp0, hal⟩ := hrel
    have hsz : W1.heap.size + 1 < wr.heap.size := (Array.getElem?_eq_some_iff.1 hit).1
    have hds : (⟨l.toArray⟩ : ByteArray).size = l.length := rfl
    by_cases hp : pos < l.length
    · have hnx : ∀ ty, (Instr.next (.pointer (some ⟨W1.heap.size + 1, 0, none⟩)) true ty).run Tryz.prog wr = _ := fun ty => Lib.run_next_any_at wr (W1.heap.size + 1) ⟨l.toArray⟩ pos ty hit hp
      have hdec : Utf8.decode ⟨l.toArray⟩ pos = decodeL (l.drop pos) := by
        have := decodeL_drop ⟨l.toArray⟩ pos
        rw [← this]
      obtain ⟨w1, w2⟩ := dec_w hp
      rw [chD_at hp, List.flatMap_cons, ← List.append_assoc] at hacc
      have hr := decodeL_rune (l.drop pos)
      rw [hdec] at hnx
      have hI2 := hI.iterAt hit (pos + (decodeL (l.drop pos)).2)
      have hit2 := Lib.iterAt_heap wr (W1.heap.size + 1) ⟨l.toArray⟩ pos (pos + (decodeL (l.drop pos)).2) hit
      have hbw2 := Lib.below_iterAt hbw (k := W1.heap.size + 1) (by omega) ⟨l.toArray⟩ (pos + (decodeL (l.drop pos)).2)
      have hsz2 : W1.heap.size ≤ (wr.iterAt (W1.heap.size + 1) ⟨l.toArray⟩ (pos + (decodeL (l.drop pos)).2)).heap.size := by rw [Lib.iterAt_size]; omega
      generalize (decodeL (l.drop pos)).1 = c at *
      generalize (decodeL (l.drop pos)).2 = n at *
      have hcell : 192 ≤ c → c < 256 → (wr.iterAt (W1.heap.size + 1) ⟨l.toArray⟩ (pos + n)).cell? ⟨w.heap.size, c - 192, none⟩ = some (.string ⟨(foldC c).toArray⟩) := fun h1 h2 => by
        have k1 := (hbw2.block w.heap.size (by omega)).trans hc
        have k2 := plain_at (i := c - 192) (by omega)
        rw [show 192 + (c - 192) = c by omega] at k2
        unfold World.cell?
        rw [k1]
        simp [k2]
      have fin : Hid (∀ (x : List UInt8) (W3 : World), foldK c = x → Lib.BuilderAtF 194 5 W1.heap.size W1.heap.size (.pointer (some ⟨W1.heap.size, 0, none⟩)) (byteCells acc ++ byteCells x) W3 → Below W1.heap.size (wr.iterAt (W1.heap.size + 1) ⟨l.toArray⟩ (pos + n)) W3 → Lib.OthersKept 5 (some W1.heap.size) (wr.iterAt (W1.heap.size + 1) ⟨l.toArray⟩ (pos + n)) W3 →
          (∃ (pos : Nat) (acc : List UInt8), Lib.IsBuilderF 194 5 W1.heap.size W1.heap.size (Lib.byteCells acc) W3 ∧ W3.heap[W1.heap.size + 1]? = some (.stringIter ⟨l.toArray⟩ pos) ∧ Below W1.heap.size W1 W3 ∧ acc ++ (chD (l.drop pos)).flatMap (fun ch => foldK ch.1) = foldD l ∧ pos ≤ l.length ∧ acc.length ≤ 4 * pos) ∧ l.length - W3.iterPos (W1.heap.size + 1) < l.length - wr.iterPos (W1.heap.size + 1)) := by
        show ∀ _, _
        intro x W3 ex h1 b1 k1
        have hx := foldK_len c
        rw [ex] at hx
        have hit3 := k1.iter hit2 (by omega)
        refine ⟨⟨pos + n, acc ++ x, ?_, hit3, hbw2.trans b1, by rw [← ex]; exact hacc, w2, by rw [List.length_append]; omega⟩, ?_⟩
        · rw [Lib.byteCells_append]; exact Or.inr h1
        · simp only [World.iterPos, hit3, hit]; omega
      have hal2 : acc.length ≤ 16000000 := by omega
      clear hacc hI hit hit2 hbw hbw2 hdec w1 w2 hc hb0
      by_cases hA : 65 ≤ c ∧ c ≤ 90
      · obtain ⟨a1, a2⟩ := hA
        clear hcell
        go_wp2_with (go_at_call 249; skip)
        all_goals try (exfalso; omega; done)
        · go_at_call 187
          refine (Tryz.bRune W1.heap.size W1.heap.size _ ((c : Int) + 97 - 65) (by omega) (by omega) _ hI2 (by rw [Lib.byteCells_length]; omega) hsz2).mono ?_
          rintro e W3 ⟨rfl, h1, b1, k1⟩
          have hf := fin.out (encodeRune ((c : Int) + 97 - 65)) W3 (foldK_up a1 a2) (by rw [Lib.byteCells_encodeRune]; exact h1) b1 k1
          clear hnx fin
          go_wp2
          go_roundw
          case rel => exact hf.1
          case measure => exact hf.2
      by_cases hB : 192 ≤ c ∧ c < 256
      · obtain ⟨a1, a2⟩ := hB
        have hk := hcell a1 a2
        clear hcell
        go_wp2_with (go_at_call 249; skip)
        all_goals try (exfalso; omega; done)
        · go_at_call 202
          refine (Tryz.bStr W1.heap.size W1.heap.size _ ⟨(foldC c).toArray⟩ _ hI2 (by rw [Lib.byteCells_length]; show _ + (foldC c).toArray.size ≤ _; have := foldC_len c; simp; omega) hsz2).mono ?_
          rintro e W3 ⟨rfl, h1, b1, k1⟩
          have hf := fin.out (foldC c) W3 (by have h9 : (!(foldC c).isEmpty) = true := (by assumption); unfold foldK; rw [if_neg (fun e => by rw [e] at h9; cases h9)]) (by simpa using h1) b1 k1
          clear hnx hk fin
          go_wp2
          go_roundw
          case rel => exact hf.1
          case measure => exact hf.2
        · go_at_call 187
          refine (Tryz.bRune W1.heap.size W1.heap.size _ (c : Int) (by omega) (by omega) _ hI2 (by rw [Lib.byteCells_length]; omega) hsz2).mono ?_
          rintro e W3 ⟨rfl, h1, b1, k1⟩
          have hf := fin.out (encodeRune (c : Int)) W3 (by have h9 : (!(foldC c).isEmpty) = false := (by assumption); unfold foldK; rw [if_pos (by simpa using h9)]) (by rw [Lib.byteCells_encodeRune]; exact h1) b1 k1
          clear hnx hk fin
          go_wp2
          go_roundw
          case rel => exact hf.1
          case measure => exact hf.2
      · clear hcell
        have hk0 : foldC c = [] := foldC_none hA hB
        go_wp2_with (go_at_call 249; skip)
        all_goals try (exfalso; omega; done)
        · go_at_call 187
          refine (Tryz.bRune W1.heap.size W1.heap.size _ (c : Int) (by omega) (by omega) _ hI2 (by rw [Lib.byteCells_length]; omega) hsz2).mono ?_
          rintro e W3 ⟨rfl, h1, b1, k1⟩
          have hf := fin.out (encodeRune (c : Int)) W3 (by unfold foldK; rw [if_pos hk0]) (by rw [Lib.byteCells_encodeRune]; exact h1) b1 k1
          clear hnx hk0 fin
          go_wp2
          go_roundw
          case rel => exact hf.1
          case measure => exact hf.2
        · go_at_call 187
          refine (Tryz.bRune W1.heap.size W1.heap.size _ (c : Int) (by omega) (by omega) _ hI2 (by rw [Lib.byteCells_length]; omega) hsz2).mono ?_
          rintro e W3 ⟨rfl, h1, b1, k1⟩
          have hf := fin.out (encodeRune (c : Int)) W3 (by unfold foldK; rw [if_pos hk0]) (by rw [Lib.byteCells_encodeRune]; exact h1) b1 k1
          clear hnx hk0 fin
          go_wp2
          go_roundw
          case rel => exact hf.1
          case measure => exact hf.2
        · go_at_call 187
          refine (Tryz.bRune W1.heap.size W1.heap.size _ (c : Int) (by omega) (by omega) _ hI2 (by rw [Lib.byteCells_length]; omega) hsz2).mono ?_
          rintro e W3 ⟨rfl, h1, b1, k1⟩
          have hf := fin.out (encodeRune (c : Int)) W3 (by unfold foldK; rw [if_pos hk0]) (by rw [Lib.byteCells_encodeRune]; exact h1) b1 k1
          clear hnx hk0 fin
          go_wp2
          go_roundw
          case rel => exact hf.1
          case measure => exact hf.2
    · have hnx : ∀ ty, (Instr.next (.pointer (some ⟨W1.heap.size + 1, 0, none⟩)) true ty).run Tryz.prog wr = _ := fun ty => Lib.run_next_end_at wr (W1.heap.size + 1) ⟨l.toArray⟩ pos ty hit (by rw [hds]; omega)
      have hfull : acc = foldD l := by
        rw [← hacc, List.drop_eq_nil_of_le (by omega)]
        simp [chD_nil]
      clear hacc hc
      subst hfull
      have hbl := hb0.trans (Below.mono hbw (by omega))
      go_wp2_with (go_at_call 188; refine (Tryz.bString W1.heap.size W1.heap.size _ wr hI (by omega)).mono ?_; rintro e W3 ⟨rfl, h1, b1, k1⟩)
      all_goals try go_ret
      exact ⟨rfl, hbl.trans (Below.mono b1 (by omega))⟩
end Go.Proofs

/- Texts by the program: valid, clean, words, parts, normal forms. No condition. -/
namespace Go.Proofs
open Go Go.Ax Go.Tx Go.Lib Go.RowKit Go.Fc
set_option maxRecDepth 100000
set_option maxHeartbeats 0
variable {Γ : List (Nat × List D)}
theorem spans_len2 (p : Nat → Bool) (s : ByteArray) : ∀ (f pos : Nat) (st : Option Nat) (acc : List (Nat × Nat)), (spansFromP p s f pos st acc).1.length ≤ acc.length + f
  | 0, _, _, acc => by simp [spansFromP]
  | f + 1, pos, st, acc => by
    unfold spansFromP
    split
    · split
      · cases st with
        | none => have := spans_len2 p s f (pos + (Utf8.decode s pos).2) none acc; simp only; omega
        | some a => have := spans_len2 p s f (pos + (Utf8.decode s pos).2) none (acc ++ [(a, pos)]); rw [List.length_append] at this; simp only at this ⊢; simp only [List.length_cons, List.length_nil] at this; omega
      · cases st with
        | none => have := spans_len2 p s f (pos + (Utf8.decode s pos).2) (some pos) acc; simp only; omega
        | some a => have := spans_len2 p s f (pos + (Utf8.decode s pos).2) (some a) acc; simp only; omega
    · simp
theorem fields_len2 (p : Nat → Bool) (s : List UInt8) : (goFieldsP p ⟨s.toArray⟩).length ≤ s.length + 1 := by
  unfold goFieldsP spansOfP closeSpans
  rw [List.length_map]
  have := spans_len2 p ⟨s.toArray⟩ s.length 0 none []
  have hsz : (⟨s.toArray⟩ : ByteArray).size = s.length := rfl
  rw [hsz]
  simp only [List.length_nil] at this
  split
  · rw [List.length_append]; simp only [List.length_cons, List.length_nil]; omega
  · omega
theorem c204 (h2 : (2, firstD) ∈ Γ) (h3 : (3, acceptD) ∈ Γ) (s : Str) (hs : s.length ≤ 1000000000) : AFn Tryz.prog Γ 204 [.c (.d (.str s))] [.d (.bool (validF s))] := by
  refine AFn.ofFlat ⟨⟨_, Tryz.func204, by kernel_rfl, by kernel_rfl⟩⟩ fun V w vals hv ha => ?_
  cases ha with | cons a1 a2 =>
  cases a2
  have hT : Utf8Tabs (Tryz.lays196_ren.g 3) (Tryz.lays196_ren.g 4) w :=
    ⟨fun c hc => glob_cell hv (ds := firstD) (by simpa [Tryz.lays196_ren] using h2) (by simp [firstD, hc]), fun i hi => ⟨glob_cell hv (ds := acceptD) (by simpa [Tryz.lays196_ren] using h3) (acceptD_at i hi).1, glob_cell hv (ds := acceptD) (by simpa [Tryz.lays196_ren] using h3) (acceptD_at i hi).2⟩⟩
  rw [ar_str a1]
  have hsz : (⟨s.toArray⟩ : ByteArray).size = s.length := rfl
  refine (textValid_calls ⟨s.toArray⟩ w (by rw [hsz]; omega) hT).mono fun e w' ⟨he, hb⟩ => ⟨_, he, ?_, hb⟩
  rw [show (⟨s.toArray⟩ : ByteArray).data.toList = s by simp, valid_same s.length s (Nat.le_refl _)]
  exact .bool _
theorem gives254 (W : World) (x : Nat) (hx : x ≤ 1114111) : FnGives Tryz.prog 254 #[] #[encR x] (.bool (blankR x)) W := by
  show Calls Tryz.prog 254 #[.int .i32 (x : Int)] W _
  go_enter Tryz.func254, Tryz.ntmps254
  go_wp2
  all_goals go_ret
  · next h =>
    have : x = 32 := by omega
    subst this
    exact ⟨rfl, 0, rfl⟩
  · next h =>
    refine ⟨?_, 0, rfl⟩
    have h1 : ((x : Int) == 32) = decide (x = 32) := by rw [Bool.eq_iff_iff]; simp; omega
    have h2 : ((x : Int) == 160) = decide (x = 160) := by rw [Bool.eq_iff_iff]; simp; omega
    show Ending.returned (.bool ((x : Int) == 32 || (x : Int) == 160)) = _
    rw [h1, h2]; rfl
theorem gives200 (W : World) (x : Nat) (hx : x ≤ 1114111) : FnGives Tryz.prog 200 #[] #[encR x] (.bool (!letterC x)) W := by
  show Calls Tryz.prog 200 #[.int .i32 (x : Int)] W _
  go_enter Tryz.func200, Tryz.ntmps200
  go_wp2
  all_goals go_ret
  all_goals (refine ⟨congrArg (fun b => Ending.returned (Value.bool b)) ?_, 0, rfl⟩; unfold letterC; rw [Bool.eq_iff_iff]; simp; try omega)
theorem ArgOk.clo0 {pm : Pm} {h : List LB} {f : FuncId} : ArgOk pm h (.c (.clo f [])) (.c (.clo f [])) := fun cx G w v _ _ hv => by
  obtain ⟨bs, rfl, hbs⟩ := hv
  cases hbs
  exact ⟨[], rfl, .nil⟩
theorem c199b (s : Str) (hs : s.length ≤ 4294967296) : AFn Tryz.prog Γ 199 [.c (.d (.str s)), .c (.clo 254 [])] [.fresh 9 1 (((goFieldsP blankR ⟨s.toArray⟩).map (·.data.toList)).map Fc.sD)] :=
  AFn.fieldsFunc Tryz.lays229 254 blankR (fun args w => run_callFunc ⟨⟨_, Tryz.func254, by kernel_rfl, by kernel_rfl⟩⟩ args w) gives254 (by kernel_rfl) (by kernel_rfl) s hs
theorem c199w (s : Str) (hs : s.length ≤ 4294967296) (hv : validF s = true) : AFn Tryz.prog Γ 199 [.c (.d (.str s)), .c (.clo 200 [])] [.fresh 9 1 ((wEnd ((chF s).foldl wStep ([], []))).map Fc.sD)] := by
  rw [← words_same s hv]
  exact AFn.fieldsFunc Tryz.lays229 200 (fun c => !letterC c) (fun args w => run_callFunc ⟨⟨_, Tryz.func200, by kernel_rfl, by kernel_rfl⟩⟩ args w) gives200 (by kernel_rfl) (by kernel_rfl) s hs
theorem c183 (s : Str) (hs : s.length ≤ 4000000) (hv : validF s = true) : AFn Tryz.prog Γ 183 [.c (.d (.str s))] [.d (.str (foldF s))] := by
  refine AFn.ofFlat ⟨⟨_, Tryz.func183, by kernel_rfl, by kernel_rfl⟩⟩ fun V w vals hv' ha => ?_
  cases ha with | cons a1 a2 =>
  cases a2
  rw [ar_str a1]
  refine (w183 s w hs).mono fun e w' ⟨he, hb⟩ => ⟨_, he, ?_, hb⟩
  rw [fold_same hv]
  exact Dr.str _
theorem c198 (s : Str) (hs : s.length ≤ 4000000) (hv : validF s = true) : AFn Tryz.prog Γ 198 [.c (.d (.str s))] [.d (.str (cleanF s))] := by
  refine AFn.vc [] Tryz.func198 rfl Tryz.mixed (by kernel_rfl) Tryz.ntmps198 Tryz.results198 (by simp) ?_
  push_cast
  refine CallL.own (c199b s (by omega)) ?_ (.cons ArgOk.d (.cons ArgOk.clo0 .nil))
  push_cast
  have h1 := fields_len2 blankR s
  have h2 := cleanF_le s
  refine CallL.q (c142 ((goFieldsP blankR ⟨s.toArray⟩).map (·.data.toList)) [32] (by rw [List.length_map]; omega) ?_) ?_
  · show (cleanP s).length ≤ _
    rw [clean_same s hv]
    omega
  push_cast
  show cleanP s = cleanF s
  exact clean_same s hv
theorem c141 (s : Str) (hs : s.length ≤ 4000000) (hv : validF s = true) : AFn Tryz.prog Γ 141 [.c (.d (.str s))] [.d (.lst 1 ((wordsF s).map Fc.sD))] := by
  refine AFn.vc [] Tryz.func141 rfl Tryz.mixed (by kernel_rfl) Tryz.ntmps141 Tryz.results141 (by simp) ?_
  push_cast
  refine CallL.q (c183 s hs hv) ?_
  push_cast
  have := foldF_len s
  refine CallL.own (c199w (foldF s) (by omega) (fold_valid hv)) ?_ (.cons ArgOk.d (.cons ArgOk.clo0 .nil))
  push_cast
  rfl
theorem strs_dr (V : Vw) : ∀ X : List ByteArray, All2 (Dr V) ((X.map (·.data.toList)).map Fc.sD).flatten (X.map Value.string)
  | [] => .nil
  | x :: r => by
    refine .cons ?_ (strs_dr V r)
    have := Dr.str (V := V) x.data.toList
    rwa [byteArray_eta] at this
theorem c197 {M : Int} (hM : (0, [D.int .i64 M]) ∈ Γ) (s sep : Str) (hs : s.length ≤ 4000000) (h1 : 1 ≤ sep.length) : AFn Tryz.prog Γ 197 [.c (.d (.str s)), .c (.d (.str sep))] [.fresh 9 1 ((splF s sep).map Fc.sD)] := by
  refine AFn.ofFresh ⟨⟨_, Tryz.func197, by kernel_rfl, by kernel_rfl⟩⟩ (fun e he => by simp [Fc.sD] at he; obtain ⟨x, _, rfl⟩ := he; rfl) fun V w vals hv ha => ?_
  cases ha with | cons a1 a2 => cases a2 with | cons a2 a3 =>
  cases a3
  rw [ar_str a1, ar_str a2]
  have hsz : (⟨s.toArray⟩ : ByteArray).size = s.length := rfl
  have hk := Tryz.strings_Split ⟨s.toArray⟩ ⟨sep.toArray⟩ M w (by rw [hsz]; omega) (glob_cell hv hM rfl) h1
  have hd := splitB_data ⟨sep.toArray⟩ 0 (countB ⟨s.toArray⟩ ⟨sep.toArray⟩) ⟨s.toArray⟩
  have hsp : splitK sep 0 (countB ⟨s.toArray⟩ ⟨sep.toArray⟩) s = splF s sep := split_same h1 s
  have e1 : (⟨sep.toArray⟩ : ByteArray).data.toList = sep := by simp
  have e2 : (⟨s.toArray⟩ : ByteArray).data.toList = s := by simp
  rw [e1, e2, hsp] at hd
  have hlen := splitB_all ⟨sep.toArray⟩ h1 0 _ ⟨s.toArray⟩ rfl
  obtain ⟨hl, _⟩ := splF_len (l := s) (sep := sep) h1
  generalize splitB ⟨sep.toArray⟩ 0 (countB ⟨s.toArray⟩ ⟨sep.toArray⟩) ⟨s.toArray⟩ = X at *
  have hXl : X.length = (splF s sep).length := by rw [← hd, List.length_map]
  rw [← hlen] at hk
  refine hk.mono fun e w' ⟨he, hw⟩ => ⟨_, X.map Value.string, he, ?_, fun b hb => ?_, ?_, ?_⟩
  · rw [List.length_map, ← hXl]
    refine ⟨by simp, .inr ⟨w.heap.size, X.length, (X.map Value.string).toArray, rfl, Nat.le_refl _, by rw [hw]; exact Go.heap_alloc_new w _, Nat.le_refl _, by unfold maxLen; omega, by simp, by rw [Nat.mul_one]; exact List.take_of_length_le (by simp)⟩⟩
  · cases hb; exact Nat.le_refl _
  · rw [← hd]
    exact strs_dr V X
  · rw [hw]; exact (Below.refl _ w).alloc (Nat.le_refl _) _
end Go.Proofs

/- Parts of a text are texts. Plain Lean; no condition. -/
namespace Go.Tx
open Go Go.Ax Go.Lib
theorem decF_cont {l : List UInt8} {j : Nat} (h1 : 1 ≤ j) (h2 : j < (decF l).2) : 128 ≤ (l.getD j 0).toNat := by
  have key : ∀ a b c n : Nat, (1 < (dec3 a b c n).2 → 128 ≤ b) ∧ (2 < (dec3 a b c n).2 → 128 ≤ c) ∧ (dec3 a b c n).2 ≤ 3 := by
    intro a b c n
    unfold dec3
    repeat' split
    all_goals (simp only; omega)
  obtain ⟨k1, k2, k3⟩ := key (l.getD 0 0).toNat (l.getD 1 0).toNat (l.getD 2 0).toNat l.length
  have h2' := h2
  unfold decF at h2'
  rcases (show j = 1 ∨ j = 2 by omega) with rfl | rfl
  · exact k1 h2'
  · exact k2 h2'
theorem val_cut {a : UInt8} (ha : a.toNat < 128) (h0 : 32 ≤ a.toNat) (h7 : a.toNat < 127) : ∀ (n : Nat) (x y : List UInt8), x.length ≤ n → validF (x ++ a :: y) = true → validF x = true ∧ validF y = true
  | n, [], y, _, h => by
    rw [List.nil_append, validF_step (by simp)] at h
    have hd : decF (a :: y) = (a.toNat, 1) := by
      unfold decF dec3
      rw [if_pos (by simpa using ⟨h0, h7⟩)]
      rfl
    rw [hd] at h
    simp only [Bool.and_eq_true, List.drop_succ_cons, List.drop_zero] at h
    exact ⟨rfl, h.2⟩
  | 0, c :: x, y, h, _ => absurd h (by simp)
  | n + 1, c :: x, y, hn, h => by
    have hne : (c :: x) ++ a :: y ≠ [] := by simp
    have hle := decF_le _ hne
    rw [validF_step hne, Bool.and_eq_true, decide_eq_true_eq] at h
    obtain ⟨hp, hv⟩ := h
    have hkx : (decF ((c :: x) ++ a :: y)).2 ≤ (c :: x).length := by
      rcases Nat.lt_or_ge (c :: x).length (decF ((c :: x) ++ a :: y)).2 with h | h
      · have := decF_cont (l := (c :: x) ++ a :: y) (j := (c :: x).length) (by simp) h
        rw [List.getD_eq_getElem?_getD, List.getElem?_append_right (Nat.le_refl _), Nat.sub_self] at this
        simp at this
        omega
      · exact h
    have ht := decF_take hne hp
    rw [List.take_append_of_le_length hkx] at ht
    have hd : decF (c :: x) = decF ((c :: x) ++ a :: y) := by
      have := decF_append (x := (c :: x).take (decF ((c :: x) ++ a :: y)).2) ((c :: x).drop (decF ((c :: x) ++ a :: y)).2) (by rw [ht]; exact hp)
      rw [List.take_append_drop, ht] at this
      exact this
    rw [List.drop_append_of_le_length hkx] at hv
    rw [validF_step (by simp), hd, decide_eq_true hp, Bool.true_and]
    exact val_cut ha h0 h7 n _ y (by rw [List.length_drop]; simp only [List.length_cons] at hn ⊢; omega) hv
theorem splR_valid : ∀ (n : Nat) (cur l : List UInt8), l.length ≤ n → validF (cur ++ l) = true → ∀ x ∈ splR [45, 45] cur l, validF x = true
  | n, cur, l, hn, hv, x, hx => by
    by_cases hl : ([45, 45] : List UInt8).length ≤ l.length
    · match n, hn with
      | 0, hn => simp at hl; omega
      | n + 1, hn =>
      by_cases e : l.take ([45, 45] : List UInt8).length = [45, 45]
      · rw [splR_hit (by decide) hl e] at hx
        have el : l = 45 :: 45 :: l.drop 2 := by
          have := List.take_append_drop 2 l
          rw [show l.take 2 = [45, 45] from e] at this
          exact this.symm
        rw [el] at hv
        obtain ⟨v1, v2⟩ := val_cut (a := 45) (by decide) (by decide) (by decide) _ cur _ (Nat.le_refl _) hv
        obtain ⟨_, v3⟩ := val_cut (a := 45) (by decide) (by decide) (by decide) 0 [] _ (Nat.le_refl _) v2
        rcases List.mem_cons.1 hx with rfl | hx
        · exact v1
        · exact splR_valid n [] _ (by rw [List.length_drop]; simp at hl ⊢; omega) (by simpa using v3) x hx
      · rw [splR_miss (by decide) hl e] at hx
        exact splR_valid n _ _ (by rw [List.length_drop]; simp at hl; omega) (by rw [List.append_assoc, List.take_append_drop]; exact hv) x hx
    · rw [splR_end (by decide) hl] at hx
      rw [List.mem_singleton.1 hx]
      exact hv
theorem splF_valid {l : List UInt8} (hv : validF l = true) : ∀ x ∈ splF l [45, 45], validF x = true := splR_valid l.length [] l (Nat.le_refl _) hv
theorem cleanG_valid : ∀ (f : Nat) (l : List UInt8) (st : List UInt8 × Bool), validF st.1 = true → validF l = true → validF (cleanG f l st) = true
  | 0, _, _, h, _ => h
  | f + 1, l, st, h, hv => by
    unfold cleanG
    split
    · exact h
    · next hne =>
      have hw := ch_valid _ l (Nat.le_refl _) hv
      rw [chF_step hne] at hw
      have hc := (hw _ List.mem_cons_self).1
      have hv2 := hv
      rw [validF_step hne, Bool.and_eq_true, decide_eq_true_eq] at hv2
      have e1 : max (decF l).2 1 = (decF l).2 := by omega
      refine cleanG_valid f _ _ ?_ (by rw [e1]; exact hv2.2)
      unfold cleanStep
      split
      · exact h
      · simp only at hc ⊢
        have h3 : validF (if st.2 = true ∧ st.1 ≠ [] then st.1 ++ [32] else st.1) = true := by
          split
          · rw [validF_append _ _ _ (Nat.le_refl _) h]; rfl
          · exact h
        rw [validF_append _ _ _ (Nat.le_refl _) h3]
        exact hc
theorem cleanF_valid {l : List UInt8} (hv : validF l = true) : validF (cleanF l) = true := cleanG_valid _ l ([], false) rfl hv
theorem partsF_valid {l : List UInt8} (hv : validF l = true) : ∀ x ∈ partsF l, validF x = true := fun x hx => by
  obtain ⟨y, hy, rfl⟩ := List.mem_map.1 (List.mem_filter.1 hx).1
  exact cleanF_valid (splF_valid hv y hy)
end Go.Tx

/- Authorities, in plain data. No condition. -/
namespace Go.Fc
open Go Go.Ax Go.Or Go.Tx
def firstE {α : Type} (f : α → Int) : List α → Int
  | [] => 0
  | x :: r => if f x = 0 then firstE f r else f x
theorem firstE_step {α : Type} {f : α → Int} {l : List α} {k : Nat} (h : k < l.length) : firstE f (l.drop k) = if f l[k] = 0 then firstE f (l.drop (k + 1)) else f l[k] := by rw [drop_cons h]; rfl
theorem firstE_end {α : Type} {f : α → Int} {l : List α} {k : Nat} (h : ¬ k < l.length) : firstE f (l.drop k) = 0 := by rw [List.drop_eq_nil_of_le (by omega)]; rfl
theorem firstE_ok {α : Type} {f : α → Int} : ∀ {l : List α}, firstE f l = 0 → ∀ x ∈ l, f x = 0
  | [], _, x, hx => by cases hx
  | y :: r, h, x, hx => by
    unfold firstE at h
    split at h
    · next h0 =>
      rcases List.mem_cons.1 hx with rfl | hx
      · exact h0
      · exact firstE_ok h x hx
    · next h0 => exact absurd h h0
def headsA (a : Au) : List Str := a.hd :: a.see
def shape1 (k : Int) (s : Str) : Int := if validF s = false ∨ ¬ cleanF s = s ∨ normF s = [] ∨ (k = 3 ∧ ¬ Lib.join (partsF s) [45, 45] = s) then 3 else if 200 < s.length ∨ 4 < (partsF s).length then 4 else 0
def shapeA (a : Au) : Int := if a.kind < 1 ∨ 4 < a.kind then 1 else if firstE (shape1 a.kind) (headsA a) = 0 then (if 8 < a.see.length then 13 else 0) else firstE (shape1 a.kind) (headsA a)
def formsE : Option Int → List Au → Int
  | _, [] => 0
  | p, a :: r => if a.id < 1 ∨ 9999 < a.id then 2 else if (match p with | none => false | some q => decide (a.id ≤ q)) = true then 7 else if shapeA a = 0 then formsE (some a.id) r else shapeA a
def prevI (l : List Au) (k : Nat) : Option Int := if k = 0 then none else (l[k - 1]?).map Au.id
def keysA (l : List Au) : List (Str × Int) := l.flatMap fun a => (headsA a).map fun s => (normF s, a.kind)
def twiceA (l : List Au) : Bool := !decide ((keysA l).Nodup)
def ascI : List Int → Bool
  | [] => true
  | [_] => true
  | x :: y :: r => decide (x < y) && ascI (y :: r)
def getA (l : List Au) (id : Int) : Option Au := l.find? fun a => decide (a.id = id)
def sameK (l : List Au) (kind id : Int) : Bool := match getA l id with | some a => decide (a.kind = kind) | none => false
def above1 (l : List Au) (a : Au) : Int := if 4 < a.above.length then 13 else if ascI a.above = false then 7 else if a.above.all (sameK l a.kind) = true then 0 else 9
def ltI (a b : Int) : Bool := decide (a < b)
def putI (l : List Int) (n : Int) : List Int := if n ∈ l then l else Or.put ltI l n false
def stepA (id : Int) (out : List Int) (a : Au) : List Int := if ¬ a.id = id ∧ ¬ a.id ∈ out then out else a.above.foldl putI out
def roundA (l : List Au) (id : Int) (out : List Int) : List Int := l.foldl (stepA id) out
def iterN {α : Type} (f : α → α) : Nat → α → α
  | 0, x => x
  | n + 1, x => iterN f n (f x)
def aboveR (l : List Au) (id : Int) : List Int := iterN (roundA l id) (l.length + 1) []
def loopE (l : List Au) : Bool := l.any fun a => decide (a.id ∈ aboveR l a.id)
def rightA (l : List Au) : Int := if 64 < l.length then 13 else if formsE none l = 0 then (if twiceA l = true then 7 else if firstE (above1 l) l = 0 then (if loopE l = true then 11 else 0) else firstE (above1 l) l) else formsE none l
def smallA (a : Au) : Bool := decide ((headsA a).length ≤ 12) && (decide (a.above.length ≤ 8) && (headsA a).all fun s => decide (s.length ≤ 260))
def smallAs (l : List Au) : Bool := decide (l.length ≤ 30) && l.all smallA
theorem formsE_step {l : List Au} {k : Nat} (h : k < l.length) : formsE (prevI l k) (l.drop k) = if l[k].id < 1 ∨ 9999 < l[k].id then 2 else if (match prevI l k with | none => false | some q => decide (l[k].id ≤ q)) = true then 7 else if shapeA l[k] = 0 then formsE (prevI l (k + 1)) (l.drop (k + 1)) else shapeA l[k] := by
  rw [drop_cons h]
  have : prevI l (k + 1) = some l[k].id := by
    unfold prevI
    rw [if_neg (by omega), Nat.add_sub_cancel, List.getElem?_eq_getElem h]; rfl
  rw [this]; rfl
theorem formsE_end {l : List Au} {k : Nat} (h : ¬ k < l.length) : formsE (prevI l k) (l.drop k) = 0 := by
  rw [List.drop_eq_nil_of_le (by omega)]; rfl
theorem getA_step {l : List Au} {k : Nat} {id : Int} (h : k < l.length) : getA (l.drop k) id = if l[k].id = id then some l[k] else getA (l.drop (k + 1)) id := by
  rw [drop_cons h]
  unfold getA
  rw [List.find?_cons]
  by_cases e : l[k].id = id
  · rw [if_pos e, decide_eq_true e]
  · rw [if_neg e, decide_eq_false e]
theorem getA_end {l : List Au} {k : Nat} {id : Int} (h : ¬ k < l.length) : getA (l.drop k) id = none := by
  rw [List.drop_eq_nil_of_le (by omega)]; rfl
theorem getA_mem {l : List Au} {id : Int} {a : Au} (h : getA l id = some a) : a ∈ l ∧ a.id = id := by
  unfold getA at h
  have h2 := List.find?_some h
  exact ⟨List.mem_of_find?_eq_some h, by simpa using h2⟩
def abN (l : List Au) : Nat := (l.map fun a => a.above.length).sum
theorem putI_len (l : List Int) (n : Int) : (putI l n).length ≤ l.length + 1 := by
  unfold putI
  split
  · omega
  · exact Or.put_len n l false
theorem putsI_len : ∀ (xs o : List Int), (xs.foldl putI o).length ≤ o.length + xs.length
  | [], o => by simp
  | x :: xs, o => by
    have h1 := putsI_len xs (putI o x)
    have h2 := putI_len o x
    rw [List.foldl_cons, List.length_cons]; omega
theorem stepA_len (id : Int) (o : List Int) (a : Au) : (stepA id o a).length ≤ o.length + a.above.length := by
  unfold stepA
  split
  · omega
  · exact putsI_len _ _
theorem steps_len (id : Int) : ∀ (l : List Au) (o : List Int), (l.foldl (stepA id) o).length ≤ o.length + abN l
  | [], o => by simp [abN]
  | a :: l, o => by
    have h1 := steps_len id l (stepA id o a)
    have h2 := stepA_len id o a
    have h3 : abN (a :: l) = a.above.length + abN l := by simp [abN]
    rw [List.foldl_cons, h3]; omega
theorem abN_take (l : List Au) (k : Nat) : abN (l.take k) ≤ abN l := by
  have h : abN l = abN (l.take k) + abN (l.drop k) := by
    unfold abN
    rw [← List.sum_append, ← List.map_append, List.take_append_drop]
  omega
theorem abN_mem : ∀ {l : List Au} {a : Au}, a ∈ l → a.above.length ≤ abN l
  | [], a, h => by cases h
  | b :: l, a, h => by
    have h3 : abN (b :: l) = b.above.length + abN l := by simp [abN]
    rw [h3]
    rcases List.mem_cons.1 h with rfl | h
    · omega
    · have := abN_mem h; omega
theorem iterN_succ {α : Type} (f : α → α) : ∀ (n : Nat) (x : α), iterN f (n + 1) x = f (iterN f n x)
  | 0, _ => rfl
  | n + 1, x => by
    have := iterN_succ f n (f x)
    exact this
theorem iter_len (l : List Au) (id : Int) : ∀ k : Nat, (iterN (roundA l id) k []).length ≤ k * abN l
  | 0 => by simp [iterN]
  | k + 1 => by
    rw [iterN_succ, Nat.add_mul]
    have h1 := iter_len l id k
    have h2 := steps_len id l (iterN (roundA l id) k [])
    unfold roundA at *
    omega
theorem shapeA_ok {a : Au} (h : shapeA a = 0) : (1 ≤ a.kind ∧ a.kind ≤ 4) ∧ a.see.length ≤ 8 ∧ ∀ s ∈ headsA a, validF s = true ∧ s.length ≤ 200 ∧ normF s ≠ [] := by
  unfold shapeA at h
  split at h
  · omega
  · next h1 =>
    split at h
    · next h2 =>
      split at h
      · omega
      · refine ⟨by omega, by omega, fun s hs => ?_⟩
        have h3 := firstE_ok h2 s hs
        unfold shape1 at h3
        split at h3
        · omega
        · next h4 =>
          split at h3
          · omega
          · refine ⟨?_, by omega, fun e => h4 (.inr (.inr (.inl e)))⟩
            cases e : validF s with
            | true => rfl
            | false => exact absurd (.inl e) h4
    · next h2 => exact absurd h h2
def leP (p : Option Int) (n : Int) : Bool := match p with | none => false | some q => decide (n ≤ q)
theorem formsE_ok : ∀ {l : List Au} {p : Option Int}, formsE p l = 0 → ∀ a ∈ l, shapeA a = 0 ∧ 1 ≤ a.id ∧ a.id ≤ 9999
  | [], _, _, a, ha => by cases ha
  | b :: r, p, h, a, ha => by
    have h : (if b.id < 1 ∨ 9999 < b.id then 2 else if leP p b.id = true then 7 else if shapeA b = 0 then formsE (some b.id) r else shapeA b) = 0 := h
    by_cases h1 : b.id < 1 ∨ 9999 < b.id
    · rw [if_pos h1] at h; omega
    · rw [if_neg h1] at h
      by_cases h2 : leP p b.id = true
      · rw [if_pos h2] at h; omega
      · rw [if_neg h2] at h
        by_cases h3 : shapeA b = 0
        · rw [if_pos h3] at h
          rcases List.mem_cons.1 ha with rfl | ha
          · exact ⟨h3, by omega, by omega⟩
          · exact formsE_ok h a ha
        · rw [if_neg h3] at h; exact absurd h h3
theorem keys_le (n : Nat) : ∀ (l : List Au), (∀ a ∈ l, a.see.length ≤ n) → (keysA l).length ≤ l.length * (n + 1)
  | [], _ => by simp [keysA]
  | a :: l, h => by
    have h1 := keys_le n l fun x hx => h x (by simp [hx])
    have h2 := h a (by simp)
    have e : (keysA (a :: l)).length = (a.see.length + 1) + (keysA l).length := by simp [keysA, headsA]; omega
    rw [e, List.length_cons, Nat.add_mul l.length 1]; omega
theorem ab_le (n : Nat) : ∀ (l : List Au), (∀ a ∈ l, a.above.length ≤ n) → abN l ≤ l.length * n
  | [], _ => by simp [abN]
  | a :: l, h => by
    have h1 := ab_le n l fun x hx => h x (by simp [hx])
    have h2 := h a (by simp)
    have e : abN (a :: l) = a.above.length + abN l := by simp [abN]
    rw [e, List.length_cons, Nat.add_mul]; omega
theorem above1_len {l : List Au} {a : Au} (h : above1 l a = 0) : a.above.length ≤ 4 := by
  unfold above1 at h
  split at h
  · omega
  · omega
end Go.Fc
