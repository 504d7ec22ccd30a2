/- Part of a proof about this program; no condition of its own. -/
import Derived.Test.YtanbfhnmklhjiaaGreatDoorZXe
set_option linter.all false
/- The stable sort of at most 30 buckets; Top. No condition. -/
namespace Go.Fc
open Go Go.Ax Go.Or Go.Tx
def iSt (x : Bk) (s : List Bk × Bool) (y : Bk) : List Bk × Bool := if s.2 = false ∧ ltT x y = true then (s.1 ++ [x] ++ [y], true) else (s.1 ++ [y], s.2)
def insT (x : Bk) (l : List Bk) : List Bk := if (l.foldl (iSt x) ([], false)).2 = false then (l.foldl (iSt x) ([], false)).1 ++ [x] else (l.foldl (iSt x) ([], false)).1
theorem iSt_true (x : Bk) : ∀ (l p : List Bk), l.foldl (iSt x) (p, true) = (p ++ l, true)
  | [], p => by simp
  | y :: r, p => by
    have e : iSt x (p, true) y = (p ++ [y], true) := by unfold iSt; rw [if_neg (by simp)]
    rw [List.foldl_cons, e, iSt_true x r]
    simp
theorem iSt_false (x : Bk) : ∀ (l p : List Bk), ∃ a b, l = a ++ b ∧ (∀ y ∈ a, ltT x y = false) ∧ ((b = [] ∧ l.foldl (iSt x) (p, false) = (p ++ a, false)) ∨ (∃ y r, b = y :: r ∧ ltT x y = true ∧ l.foldl (iSt x) (p, false) = (p ++ a ++ [x] ++ b, true)))
  | [], p => ⟨[], [], rfl, by simp, .inl ⟨rfl, by simp⟩⟩
  | y :: r, p => by
    cases h : ltT x y with
    | true =>
      refine ⟨[], y :: r, rfl, by simp, .inr ⟨y, r, rfl, h, ?_⟩⟩
      have e : iSt x (p, false) y = (p ++ [x] ++ [y], true) := by unfold iSt; rw [if_pos ⟨rfl, h⟩]
      rw [List.foldl_cons, e, iSt_true]
      simp
    | false =>
      obtain ⟨a, b, h1, h2, h3⟩ := iSt_false x r (p ++ [y])
      have e : iSt x (p, false) y = (p ++ [y], false) := by unfold iSt; rw [if_neg (by simp [h])]
      refine ⟨y :: a, b, by rw [h1]; rfl, fun z hz => by
        rcases List.mem_cons.1 hz with rfl | hz
        · exact h
        · exact h2 z hz, ?_⟩
      rw [List.foldl_cons, e]
      rcases h3 with ⟨h4, h5⟩ | ⟨z, q, h4, h5, h6⟩
      · exact .inl ⟨h4, by rw [h5]; simp⟩
      · exact .inr ⟨z, q, h4, h5, by rw [h6]; simp⟩
theorem insT_spec (x : Bk) (l : List Bk) : ∃ a b, l = a ++ b ∧ insT x l = a ++ [x] ++ b ∧ (∀ y ∈ a, ltT x y = false) ∧ (b = [] ∨ ∃ y r, b = y :: r ∧ ltT x y = true) := by
  obtain ⟨a, b, h1, h2, h3⟩ := iSt_false x l []
  refine ⟨a, b, h1, ?_, h2, ?_⟩
  · unfold insT
    rcases h3 with ⟨h4, h5⟩ | ⟨z, q, h4, h5, h6⟩
    · rw [h5, if_pos rfl, h4]; simp
    · rw [h6, if_neg (by simp)]; simp
  · rcases h3 with ⟨h4, h5⟩ | ⟨z, q, h4, h5, h6⟩
    · exact .inl h4
    · exact .inr ⟨z, q, h4, h5⟩
theorem insT_perm (x : Bk) (l : List Bk) : (insT x l).Perm (x :: l) := by
  obtain ⟨a, b, rfl, h2, _, _⟩ := insT_spec x l
  rw [h2]
  simp only [List.append_assoc, List.cons_append, List.nil_append]
  exact List.perm_middle
theorem insT_sorted (x : Bk) {l : List Bk} (h : SrtT l) : SrtT (insT x l) := by
  obtain ⟨a, b, rfl, h2, h3, h4⟩ := insT_spec x l
  rw [h2]
  have hb : ∀ z ∈ b, ltT z x = false := by
    rcases h4 with rfl | ⟨y, r, rfl, hy⟩
    · intro z hz; cases hz
    · intro z hz
      have hs := (List.pairwise_append.1 h).2.1
      rcases List.mem_cons.1 hz with rfl | hz
      · exact Proofs.sto_T.asym hy
      · have h5 := (List.pairwise_cons.1 hs).1 z hz
        cases e : ltT z x with
        | false => rfl
        | true => have := Proofs.sto_T.tr _ _ _ e hy; rw [h5] at this; cases this
  obtain ⟨s1, s2, s3⟩ := List.pairwise_append.1 h
  rw [List.append_assoc]
  refine List.pairwise_append.2 ⟨s1, List.pairwise_cons.2 ⟨fun z hz => hb z hz, s2⟩, fun y hy z hz => ?_⟩
  rcases List.mem_cons.1 hz with rfl | hz
  · exact h3 y hy
  · exact s3 y hy z hz
def insAll (l : List Bk) : List Bk := l.foldl (fun o x => insT x o) []
theorem insAll_sort (l : List Bk) : insAll l = sortT l := by
  have key : ∀ (l o : List Bk), SrtT o → SrtT (l.foldl (fun o x => insT x o) o) ∧ (l.foldl (fun o x => insT x o) o).Perm (o ++ l) := by
    intro l
    induction l with
    | nil => intro o h; simpa using h
    | cons x r ih =>
      intro o h
      obtain ⟨h1, h2⟩ := ih (insT x o) (insT_sorted x h)
      refine ⟨h1, h2.trans ?_⟩
      refine ((insT_perm x o).append_right r).trans ?_
      simp only [List.cons_append]
      exact List.perm_middle.symm
  obtain ⟨h1, h2⟩ := key l [] List.Pairwise.nil
  exact (sortT_eq (by simpa using h2) h1).symm
theorem insAll_len (l : List Bk) : (insAll l).length = l.length := by rw [insAll_sort, sortT_len]
theorem insAll_next {l : List Bk} {k : Nat} (h : k < l.length) : insAll (l.take (k + 1)) = insT l[k] (insAll (l.take k)) := by
  unfold insAll
  rw [Fc.take_next h, List.foldl_append]; rfl
def topR (l : List Bk) (n : Int) : List Bk := if n < 1 then [] else if n < (sortT l).length then (sortT l).take n.toNat else sortT l
theorem topR_eq (l : List Bk) (n : Int) : topR l n = topF l n := by
  unfold topR topF
  have := sortT_len l
  split
  · rw [show (max (min n (l.length : Int)) 0).toNat = 0 by omega]; rfl
  · split
    · rw [show (max (min n (l.length : Int)) 0).toNat = n.toNat by omega]
    · rw [List.take_of_length_le (by omega)]
def shortF (l : List Bk) : Bool := ((l.take 31).all fun b => decide (b.val.length ≤ 100)) && decide (l.length ≤ 30)
end Go.Fc
namespace Go.Proofs
open Go Go.Ax Go.Tx Go.Lib Go.Shelf Go.RowKit Go.Fc
set_option maxRecDepth 100000
set_option maxHeartbeats 0
variable {Γ : List (Nat × List D)}
theorem part_eq (P A S : List Bk) (d' : Array Bk) (h : Sort.PermIn P.length (P.length + A.length) (P ++ A ++ S).toArray d') : d'.toList = P ++ (d'.extract P.length (P.length + A.length)).toList ++ S := by
  obtain ⟨h1, h2, _⟩ := h
  have hs : d'.toList.length = P.length + A.length + S.length := by simpa [Nat.add_assoc] using h1
  have hg : ∀ i, (i < P.length ∨ P.length + A.length ≤ i) → d'.toList[i]? = (P ++ A ++ S)[i]? := fun i hc => by
    by_cases hi : i < d'.size
    · have q := h2 i hc
      have hi2 : i < (P ++ A ++ S).toArray.size := by rw [← h1]; exact hi
      rw [getElem!_pos d' i hi, getElem!_pos _ i hi2] at q
      have hi3 : i < (P ++ A ++ S).length := by simpa using hi2
      rw [Array.getElem?_toList, Array.getElem?_eq_getElem hi, q, List.getElem?_eq_getElem hi3]
      simp
    · rw [List.getElem?_eq_none (by simpa using Nat.le_of_not_lt hi), List.getElem?_eq_none (by simp only [List.length_append]; simp only [Array.length_toList] at hs; omega)]
  have e1 : d'.toList.take P.length = P := by
    apply List.ext_getElem?
    intro i
    rw [List.getElem?_take]
    split
    · next hi => rw [hg i (.inl hi), List.append_assoc, List.getElem?_append_left hi]
    · next hi => rw [List.getElem?_eq_none (by omega)]
  have e3 : d'.toList.drop (P.length + A.length) = S := by
    apply List.ext_getElem?
    intro i
    rw [List.getElem?_drop, hg _ (.inr (by omega)), List.getElem?_append_right (by simp), List.length_append]
    congr 1
    omega
  have e2 : (d'.extract P.length (P.length + A.length)).toList = (d'.toList.drop P.length).take A.length := by
    rw [Array.toList_extract, List.extract_eq_take_drop]
    congr 1
    omega
  rw [e2]
  have e4 : d'.toList.drop (P.length + A.length) = (d'.toList.drop P.length).drop A.length := by rw [List.drop_drop]
  calc d'.toList = d'.toList.take P.length ++ d'.toList.drop P.length := (List.take_append_drop _ _).symm
    _ = P ++ ((d'.toList.drop P.length).take A.length ++ (d'.toList.drop P.length).drop A.length) := by rw [e1, List.take_append_drop]
    _ = _ := by rw [← e4, e3, List.append_assoc]
theorem ins_part (P A S : List Bk) : (Sort.insertionSort (fun x y => decide (cfT x y < 0)) (P ++ A ++ S).toArray P.length (P.length + A.length)).toList = P ++ sortT A ++ S := by
  obtain ⟨h1, h2⟩ := Sort.insertionSort_holds (lt := ltT) swoT (P ++ A ++ S).toArray P.length (P.length + A.length) (by omega) (by simp)
  have e : (fun x y => decide (cfT x y < 0)) = ltT := rfl
  rw [e]
  rw [part_eq P A S _ h1]
  have hsz := h1.1
  have hp := h1.2.2
  generalize Sort.insertionSort ltT (P ++ A ++ S).toArray P.length (P.length + A.length) = d' at *
  have hsz2 : d'.size = P.length + A.length + S.length := by simpa [Nat.add_assoc] using hsz
  have eA : ((P ++ A ++ S).toArray.extract P.length (P.length + A.length)).toList = A := by
    rw [Array.toList_extract, List.extract_eq_take_drop, List.append_assoc, List.drop_append_of_le_length (Nat.le_refl _), List.drop_length]
    simp
  rw [eA] at hp
  rw [sortT_eq hp ?_]
  rw [SrtT, List.pairwise_iff_getElem]
  intro i j hi hj hij
  simp only [Array.toList_extract, List.extract_eq_take_drop] at hi hj ⊢
  have hj' : j < A.length := by rw [List.length_take, List.length_drop] at hj; omega
  have q := h2 (P.length + i) (P.length + j) (by omega) (by omega) (by omega)
  rw [getElem!_pos d' _ (by omega), getElem!_pos d' _ (by omega)] at q
  simpa using q
theorem c163 (l : List Bk) (hl : l.length ≤ 30) : RFn Tryz.prog Γ 163 79 2 (l.map Bk.ds) ((sortT l).map Bk.ds) [.c (.d (.int .i64 l.length)), .c (.fn (FnSpec Tryz.prog Γ (cmpBk cfT)))] [] := by
  by_cases h20 : l.length < 20
  · have := c163s (Γ := Γ) cfT l.toArray (by simpa using h20)
    rw [ins_sort] at this
    simpa using this
  · obtain ⟨A, hA⟩ : ∃ A, A = l.take 20 := ⟨_, rfl⟩
    obtain ⟨B, hB⟩ : ∃ B, B = l.drop 20 := ⟨_, rfl⟩
    have hAB : l = A ++ B := by rw [hA, hB, List.take_append_drop]
    have lA : A.length = 20 := by rw [hA, List.length_take]; omega
    have lB : B.length ≤ 10 := by rw [hB, List.length_drop]; omega
    clear hA hB
    subst hAB
    have f1 := c229 (Γ := Γ) cfT (A ++ B).toArray 0 20 (by omega) (by simp; omega) (by simp; omega)
    have e1 := ins_part [] A B
    rw [List.nil_append, List.nil_append, List.length_nil, Nat.zero_add, lA] at e1
    rw [e1] at f1
    have f2 := c229 (Γ := Γ) cfT (sortT A ++ B).toArray 20 (20 + B.length) (by omega) (by simp [sortT_len]; omega) (by simp [sortT_len]; omega)
    have e2 := ins_part (sortT A) B []
    rw [List.append_nil, List.append_nil, sortT_len, lA] at e2
    rw [e2] at f2
    have f3 : 0 < B.length → RFn Tryz.prog Γ 238 79 2 ((sortT A ++ sortT B).map Bk.ds) ((sortT (A ++ B)).map Bk.ds) [.c (.d (.int .i64 0)), .c (.d (.int .i64 20)), .c (.d (.int .i64 ((20 + B.length : Nat) : Int))), .c (.fn (FnSpec Tryz.prog Γ (cmpBk cfT)))] [] := fun hB => by
      have := c238 (Γ := Γ) ((sortT A).length + (sortT B).length) [] (sortT A) (sortT B) [] 0 20 ((20 + B.length : Nat) : Int) (Nat.le_refl _) (by rw [sortT_len]; omega) (by rw [sortT_len]; omega) (sortT_sorted _) (sortT_sorted _) rfl (by rw [sortT_len, lA]; rfl) (by simp only [sortT_len, lA, List.length_nil, Nat.zero_add]) (by simp [sortT_len]; omega)
      have e : sortT (sortT A ++ sortT B) = sortT (A ++ B) := by
        refine sortT_eq ?_ (sortT_sorted _)
        exact (sortT_perm _).trans ((sortT_perm A).append (sortT_perm B)).symm
      simpa [e] using this
    have e3 : B.length = 0 → sortT (A ++ B) = sortT A ++ sortT B := fun h => by
      rw [List.eq_nil_of_length_eq_zero h, List.append_nil]
      have : sortT ([] : List Bk) = [] := List.eq_nil_of_length_eq_zero (by rw [sortT_len]; rfl)
      rw [this, List.append_nil]
    have lAB : (A ++ B).length = 20 + B.length := by rw [List.length_append, lA]
    have l1 : (sortT A ++ B).length = 20 + B.length := by rw [List.length_append, sortT_len, lA]
    have l2 : (sortT A ++ sortT B).length = 20 + B.length := by rw [List.length_append, sortT_len, sortT_len, lA]
    rw [lAB]
    simp only [List.toList_toArray] at f1 f2
    generalize sortT A ++ sortT B = L2 at *
    generalize sortT A ++ B = L1 at *
    generalize sortT (A ++ B) = T at *
    generalize A ++ B = L0 at *
    generalize B.length = n at *
    refine RFn.vc [] Tryz.func163 rfl Tryz.mixed (by kernel_rfl) Tryz.ntmps163 Tryz.results163 (by simp) bk_len (bks_scal _) rfl bk_len ?_
    push_cast
    refine LoopV.of Tryz.mixed [0, 1, 2, 6] (S := Nat × Nat × List Bk) (fun s => [(7, .c (.d (.int .i64 s.1))), (8, .c (.d (.int .i64 s.2.1)))]) (fun s => [.row 79 2 (s.2.2.map Bk.ds) 0]) (fun s => s = (0, 20, L0) ∨ s = (20, 40, L1)) (fun s => 40 - s.2.1) (0, 20, L0) (.inl rfl) (by push_cast) ?_
    rintro s hs
    rcases hs with rfl | rfl
    · push_cast
      refine ⟨fun _ => ?_, fun h => by omega⟩
      refine CallL.rfn (j := 0) (ver := 0) f1 ?_
      push_cast
      exact ⟨(20, 40, L1), ⟨.inr rfl, by show 40 - 40 < 40 - 20; omega⟩, ⟨rfl, rfl⟩, rfl⟩
    · push_cast
      refine ⟨fun h => by omega, fun _ => ?_⟩
      refine CallL.rfn (j := 0) (ver := 0) f2 ?_
      push_cast
      refine LoopV.of Tryz.mixed [0, 1, 2] (S := Nat × List Bk) (fun s => [(6, .c (.d (.int .i64 s.1)))]) (fun s => [.row 79 2 (s.2.map Bk.ds) 0]) (fun s => s = (20, L2) ∨ s = (40, T)) (fun s => 40 - s.1) (20, L2) (.inl rfl) (by push_cast) ?_
      rintro s hs
      rcases hs with rfl | rfl
      · push_cast
        refine ⟨fun h => ?_, fun h => by rw [e3 (by omega)]⟩
        refine LoopV.of Tryz.mixed [0, 1, 2, 6] (S := Unit) (fun _ => [(7, .c (.d (.int .i64 0))), (8, .c (.d (.int .i64 40)))]) (fun _ => [.row 79 2 (L2.map Bk.ds) 0]) (fun _ => True) (fun _ => 0) () trivial (by push_cast) ?_
        rintro _ _
        push_cast
        refine ⟨fun h => by omega, fun _ => ⟨fun _ => ?_, fun h => by omega⟩⟩
        refine CallL.rfn (j := 0) (ver := 0) (f3 (by omega)) ?_
        push_cast
        exact ⟨(40, T), ⟨.inr rfl, by show 40 - 40 < 40 - 20; omega⟩, rfl, rfl⟩
      · push_cast
        exact fun h => by omega
end Go.Proofs

/- Top, by the program and by the reference. No condition. -/
namespace Go.Proofs
open Go Go.Ax Go.Tx Go.Lib Go.Shelf Go.RowKit Go.Fc
set_option maxRecDepth 100000
set_option maxHeartbeats 0
variable {Γ : List (Nat × List D)}
theorem c115 (l : List Bk) (hl : l.length ≤ 30) : RFn Tryz.prog Γ 115 79 2 (l.map Bk.ds) ((sortT l).map Bk.ds) [.c (.fn (FnSpec Tryz.prog Γ (cmpBk cfT)))] [] := by
  refine RFn.vc [] Tryz.func115 rfl Tryz.mixed (by kernel_rfl) Tryz.ntmps115 Tryz.results115 (by simp) bk_len (bks_scal _) rfl bk_len ?_
  push_cast
  refine CallL.rfn (j := 0) (ver := 0) (c163 l hl) ?_
  push_cast
theorem c55 (l : List Bk) (n : Int) (hl : l.length ≤ 30) : AFn Tryz.prog Γ 55 [.c (.d (.lst 2 (l.map Bk.ds))), .c (.d (.int .i64 n))] [.d (.lst 2 ((topF l n).map Bk.ds))] := by
  have hs := c115 (Γ := Γ) l hl
  have hsl : (sortT l).length = l.length := sortT_len l
  unfold topF
  generalize sortT l = s at *
  refine AFn.vc [] Tryz.func55 rfl Tryz.mixed (by kernel_rfl) Tryz.ntmps55 Tryz.results55 (by simp) ?_
  push_cast
  refine CallL.own (c114 l (by omega)) ?_
  push_cast
  refine CallL.rfn (j := 0) (ver := 0) hs ?_ (ha := .cons (ArgR.clo0 (Γ := Γ) (F := cmpBk cfT) (c116 (Γ := []) ⟨[], 0⟩ ⟨[], 0⟩).call (fun a r h => by obtain ⟨x, y, rfl, rfl⟩ := h; exact c116 x y)) .nil)
  push_cast
  rw [show imax (imin n (s.length : Int)) 0 = max (min n l.length) 0 by rw [hsl]; unfold imax imin; omega]
  exact ⟨by omega, by omega, by omega, by rw [List.map_take]⟩
theorem c54 (l : List Bk) : AFn Tryz.prog Γ 54 [.c (.d (.lst 2 (l.map Bk.ds)))] [.d (.bool (shortF l))] := by
  refine AFn.vc [] Tryz.func54 rfl Tryz.mixed (by kernel_rfl) Tryz.ntmps54 Tryz.results54 (by simp) ?_
  push_cast
  refine LoopV.cnt Tryz.mixed [0] (min l.length 31) (fun k => [(3, .c (.d (.int .i64 k)))]) (fun k => ((l.take k).all fun b => decide (b.val.length ≤ 100)) = true) (by simp) ?_ (by push_cast)
  intro k hk hinv
  push_cast
  refine ⟨fun h => ⟨fun h1 => ?_, fun h1 => ?_⟩, fun h => ?_⟩
  · have hlt : k < l.length := by omega
    refine ⟨hlt, fun e => ?_, fun e => ⟨by omega, by omega, ?_⟩⟩
    · unfold shortF
      have hm : l[k] ∈ l.take 31 := by
        rw [List.mem_take_iff_getElem]
        exact ⟨k, by omega, rfl⟩
      cases ha : (l.take 31).all fun b => decide (b.val.length ≤ 100) with
      | false => rfl
      | true =>
        have := List.all_eq_true.1 ha _ hm
        simp only [decide_eq_true_eq] at this
        omega
    · rw [Fc.take_next hlt, List.all_append, hinv]
      simp only [List.all_cons, List.all_nil, Bool.and_true, Bool.true_and, decide_eq_true_eq]
      omega
  · have ek : k = 31 := by omega
    subst ek
    unfold shortF
    rw [hinv, Bool.true_and]
    exact decide_eq_decide.2 (by omega)
  · rw [List.take_of_length_le (by omega)] at hinv
    unfold shortF
    rw [List.take_of_length_le (by omega), hinv, Bool.true_and]
    exact decide_eq_decide.2 (by omega)
theorem st_len (x : Bk) : ∀ (l : List Bk) (s : List Bk × Bool), (l.foldl (iSt x) s).1.length ≤ s.1.length + l.length + (if s.2 = true then 0 else 1)
  | [], s => by simp
  | y :: r, s => by
    have ih := st_len x r (iSt x s y)
    rw [List.foldl_cons]
    unfold iSt at ih ⊢
    by_cases h : s.2 = false ∧ ltT x y = true
    · rw [if_pos h] at ih ⊢
      simp only [List.length_append, List.length_cons, List.length_nil, if_true] at ih ⊢
      rw [h.1]
      simp only [Bool.false_eq_true, if_false]
      omega
    · rw [if_neg h] at ih ⊢
      simp only [List.length_append, List.length_cons, List.length_nil] at ih ⊢
      omega
theorem c56 (l : List Bk) (n : Int) (hl : l.length ≤ 30) : AFn Tryz.prog Γ 56 [.c (.d (.lst 2 (l.map Bk.ds))), .c (.d (.int .i64 n))] [.d (.lst 2 ((topR l n).map Bk.ds))] := by
  unfold topR
  rw [← insAll_sort]
  refine AFn.vc [] Tryz.func56 rfl Tryz.mixed (by kernel_rfl) Tryz.ntmps56 Tryz.results56 (by simp) ?_
  push_cast
  refine LoopV.cntH Tryz.mixed [0, 1] l.length (fun k => [(5, .c (.d (.lst 2 ((insAll (l.take k)).map Bk.ds)))), (6, .c (.d (.int .i64 k)))]) (fun k => []) (fun _ => True) trivial ?_ (by push_cast; rfl)
  intro k hk _
  push_cast
  refine ⟨fun h => ?_, fun h => ?_⟩
  · have hlt : k < l.length := by omega
    have hO := insAll_len (l.take k)
    rw [List.length_take] at hO
    have hnx := insAll_next hlt
    generalize insAll (l.take (k + 1)) = O2 at *
    generalize insAll (l.take k) = O at *
    obtain ⟨x, hx⟩ : ∃ x, x = l[k] := ⟨_, rfl⟩
    have hb := fun j => st_len x (O.take j) ([], false)
    simp only [List.length_nil, List.length_take, Bool.false_eq_true, if_false] at hb
    refine LoopV.nilrow 7 79 2 ?_
    refine LoopV.cntH Tryz.mixed [0, 1, 5, 6] O.length (fun j => [(7, .c (.own 0 ((O.take j).foldl (iSt x) ([], false)).1.length)), (8, .c (.d (.bool ((O.take j).foldl (iSt x) ([], false)).2))), (9, .c (.d (.int .i64 j)))]) (fun j => [.row 79 2 (((O.take j).foldl (iSt x) ([], false)).1.map Bk.ds) ((O.take j).foldl (iSt x) ([], false)).1.length]) (fun _ => True) trivial ?_ (by push_cast; exact ⟨⟨rfl, rfl⟩, rfl, rfl⟩)
    intro j hj _
    have hbj := hb j
    have hstep : ∀ hj : j < O.length, (O.take (j + 1)).foldl (iSt x) ([], false) = iSt x ((O.take j).foldl (iSt x) ([], false)) O[j] := fun hj => by rw [Fc.take_next hj, List.foldl_append]; rfl
    generalize (O.take (j + 1)).foldl (iSt x) ([], false) = s2 at *
    have hend : j = O.length → insT x O = if ((O.take j).foldl (iSt x) ([], false)).2 = false then ((O.take j).foldl (iSt x) ([], false)).1 ++ [x] else ((O.take j).foldl (iSt x) ([], false)).1 := fun e => by
      rw [List.take_of_length_le (by omega)]; rfl
    generalize (O.take j).foldl (iSt x) ([], false) = s1 at *
    obtain ⟨s11, s12⟩ := s1
    push_cast
    subst hx
    simp only at hbj hend
    refine ⟨fun h3 => ?_, fun h3 => ?_⟩
    · have hjl : j < O.length := by omega
      have hst := hstep hjl
      have hlt2 := ltT_eq l[k] O[j]
      have both : s12 = false → ltT l[k] O[j] = true → s2 = (s11 ++ [l[k]] ++ [O[j]], true) := fun e1 e2 => by rw [hst]; unfold iSt; rw [if_pos ⟨e1, e2⟩]
      have one : ¬ (s12 = false ∧ ltT l[k] O[j] = true) → s2 = (s11 ++ [O[j]], s12) := fun e => by rw [hst]; unfold iSt; rw [if_neg e]
      have fb : s12 = false → ltT l[k] O[j] = true → ∃ h : k < l.length, ((s11.length + 1) * 24 ≤ 140737488355328 ∧ s11.length ≤ 4294967295) ∧ ∃ h_4 : j < O.length, ((s11.length + 1 + 1) * 24 ≤ 140737488355328 ∧ s11.length ≤ 4294967294) ∧ (-9223372036854775808 ≤ (j : Int) + 1 ∧ (j : Int) + 1 ≤ 9223372036854775807) ∧ j < O.length ∧ (s2.fst.length = s11.length + 1 + 1 ∧ s2.snd = true) ∧
          List.map Bk.ds s11 ++ [[D.str l[k].val, D.int IntKind.i64 l[k].cnt]] ++ [[D.str O[j].val, D.int IntKind.i64 O[j].cnt]] = List.map Bk.ds s2.fst ∧ s11.length + 1 + 1 = s2.fst.length := fun e1 e2 => by
        rw [both e1 e2]
        exact ⟨hlt, ⟨by omega, by omega⟩, hjl, ⟨by omega, by omega⟩, ⟨by omega, by omega⟩, hjl, ⟨by simp, rfl⟩, by simp [Fc.Bk.ds], by simp⟩
      have fo : ¬ (s12 = false ∧ ltT l[k] O[j] = true) → ∃ h : j < O.length, ((s11.length + 1) * 24 ≤ 140737488355328 ∧ s11.length ≤ 4294967295) ∧ (-9223372036854775808 ≤ (j : Int) + 1 ∧ (j : Int) + 1 ≤ 9223372036854775807) ∧ j < O.length ∧ (s2.fst.length = s11.length + 1 ∧ s2.snd = s12) ∧ List.map Bk.ds s11 ++ [[D.str O[j].val, D.int IntKind.i64 O[j].cnt]] = List.map Bk.ds s2.fst ∧ s11.length + 1 = s2.fst.length := fun e => by
        rw [one e]
        exact ⟨hjl, ⟨by omega, by omega⟩, ⟨by omega, by omega⟩, hjl, ⟨by simp, rfl⟩, by simp [Fc.Bk.ds], by simp⟩
      refine ⟨fun e1 => ⟨hlt, hjl, fun e2 => ⟨hlt, hjl, fun e3 => ⟨hlt, hjl, fun e4 => fb e1 ?_, fun e4 => fo fun e => ?_⟩, fun e3 => fo fun e => ?_⟩, fun e2 => fb e1 ?_⟩, fun e1 => fo fun e => ?_⟩
      · rw [hlt2, decide_eq_true e3]; unfold Or.ltS; rw [e4]; simp
      · rw [hlt2, decide_eq_true e3] at e; unfold Or.ltS at e; rw [e4, decide_eq_false (by omega)] at e; simp at e
      · rw [hlt2, decide_eq_false e3, decide_eq_false (by omega)] at e; simp at e
      · rw [hlt2, decide_eq_true e2]; rfl
      · rw [e1] at e; simp at e
    · have he := hend (by omega)
      refine ⟨fun e1 => ⟨hlt, ⟨by omega, by omega⟩, ⟨by omega, by omega⟩, hlt, ?_⟩, fun e1 => ⟨⟨by omega, by omega⟩, hlt, ?_⟩⟩
      · rw [hnx, he, if_pos e1]; simp [Fc.Bk.ds]
      · rw [hnx, he, if_neg (by simp [e1])]
  · have et : l.take k = l := List.take_of_length_le (by omega)
    rw [et]
    have hA := insAll_len l
    refine ⟨fun e => by rw [if_pos e], fun e => ⟨fun e2 => ⟨by omega, ⟨by omega, by omega⟩, by rw [if_neg (by omega), if_pos e2, List.map_take]⟩, fun e2 => by rw [if_neg (by omega), if_neg (by omega)]⟩⟩
theorem c12 (hΓ : (4, powD) ∈ Γ) (l : List Bk) (n : Int) : AFn Tryz.prog Γ 12 [.c (.d (.lst 2 (l.map Bk.ds))), .c (.d (.int .i64 n))] [.d (.bool true)] := by
  refine AFn.vc [] Tryz.func12 rfl Tryz.mixed (by kernel_rfl) Tryz.ntmps12 Tryz.results12 (by simp) ?_
  push_cast
  refine CallL.q (c43 hΓ) ?_
  push_cast
  refine CallL.q (c54 l) ?_
  push_cast
  intro e
  have hl : l.length ≤ 30 := by
    unfold shortF at e
    simp only [Bool.and_eq_true, decide_eq_true_eq] at e
    exact e.2
  refine CallL.q (c55 l n hl) ?_
  push_cast
  refine CallL.q (c56 l n hl) ?_
  push_cast
  have ht : (topF l n).length ≤ 30 := by
    unfold topF
    rw [List.length_take, sortT_len]; omega
  rw [topR_eq]
  refine CallL.q (c48 (topF l n) (topF l n) (by omega)) ?_
  push_cast
end Go.Proofs
