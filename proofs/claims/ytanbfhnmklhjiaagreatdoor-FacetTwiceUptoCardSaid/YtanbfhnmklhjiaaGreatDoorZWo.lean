/- Part of a proof about this program; no condition of its own. -/
import Derived.Test.YtanbfhnmklhjiaaGreatDoorZWn
import Derived.Test.YtanbfhnmklhjiaaGreatDoorGxR
import Derived.Test.YtanbfhnmklhjiaaGreatDoorGxL
set_option linter.all false
/- The order of buckets: the comparison, the insertion sort. No condition. -/
namespace Go.Fc
open Go Go.Ax Go.Or Go.Tx
def cmpI (x y : Int) : Int := if x < y then -1 else if y < x then 1 else 0
def cfT (x y : Bk) : Int := if cmpI y.cnt x.cnt ≠ 0 then cmpI y.cnt x.cnt else Lib.compareBytes x.val y.val
def ltT (x y : Bk) : Bool := decide (cfT x y < 0)
end Go.Fc
namespace Go.Proofs
open Go Go.Ax Go.Tx Go.Lib Go.Shelf Go.RowKit Go.Fc
set_option maxRecDepth 100000
set_option maxHeartbeats 0
variable {Γ : List (Nat × List D)}
theorem ltT_eq (x y : Bk) : ltT x y = (decide (y.cnt < x.cnt) || (decide (x.cnt = y.cnt) && Or.ltS x.val y.val)) := by
  unfold ltT cfT cmpI
  by_cases h1 : y.cnt < x.cnt
  · simp [h1]
  · by_cases h2 : x.cnt < y.cnt
    · have h3 : ¬ x.cnt = y.cnt := by omega
      simp [h1, h2, h3]
    · have h3 : x.cnt = y.cnt := by omega
      simp only [h3, Int.lt_irrefl, if_false, ne_eq, not_true_eq_false, decide_false, Bool.false_or, decide_true, Bool.true_and]
      exact cmp_lt _ _
theorem sto_T : Or.STO ltT where
  irr x := by rw [ltT_eq]; simp [Or.sto_S.irr]
  tr x y z h1 h2 := by
    rw [ltT_eq] at *
    simp only [Bool.or_eq_true, Bool.and_eq_true, decide_eq_true_eq] at *
    rcases h1 with h1 | ⟨h1, h3⟩
    · rcases h2 with h2 | ⟨h2, h4⟩
      · exact .inl (by omega)
      · exact .inl (by omega)
    · rcases h2 with h2 | ⟨h2, h4⟩
      · exact .inl (by omega)
      · exact .inr ⟨by omega, Or.sto_S.tr _ _ _ h3 h4⟩
  tri x y h1 h2 := by
    rw [ltT_eq] at *
    simp only [Bool.or_eq_false_iff, Bool.and_eq_false_iff, decide_eq_false_iff_not] at *
    have e : x.cnt = y.cnt := by omega
    have e2 : x.val = y.val := Or.sto_S.tri _ _ (by rcases h1.2 with h | h; exact absurd e h; exact h) (by rcases h2.2 with h | h; exact absurd e.symm h; exact h)
    cases x; cases y; simp_all
theorem swoT : Sort.SWO ltT := ⟨sto_T.irr, sto_T.tr, sto_T.ntr⟩
theorem c164 (x : Int) : AFn Tryz.prog Γ 164 [.c (.d (.int .i64 x))] [.d (.bool false)] := by
  refine AFn.vc [] Tryz.func164 rfl Tryz.mixed (by kernel_rfl) Tryz.ntmps164 Tryz.results164 (by simp) ?_
  push_cast
theorem c118 (x y : Int) : AFn Tryz.prog Γ 118 [.c (.d (.int .i64 x)), .c (.d (.int .i64 y))] [.d (.int .i64 (cmpI x y))] := by
  refine AFn.vc [] Tryz.func118 rfl Tryz.mixed (by kernel_rfl) Tryz.ntmps118 Tryz.results118 (by simp) ?_
  push_cast
  refine CallL.q (c164 x) ?_
  push_cast
  refine CallL.q (c164 y) ?_
  push_cast
  unfold cmpI
  refine ⟨fun h => by rw [if_pos h], fun h => ⟨fun h2 => by rw [if_neg (by omega), if_pos h2], fun h2 => by rw [if_neg (by omega), if_neg (by omega)]⟩⟩
def orF : List Int → Int
  | [] => 0
  | x :: r => if x = 0 then orF r else x
theorem c117 (l : List Int) (hl : l.length ≤ 1000) : AFn Tryz.prog Γ 117 [.c (.bor 1 (l.map Fc.iD))] [.d (.int .i64 (orF l))] := by
  refine AFn.vc [] Tryz.func117 rfl Tryz.mixed (by kernel_rfl) Tryz.ntmps117 Tryz.results117 (by simp) ?_
  push_cast
  refine LoopV.cnt Tryz.mixed [3, 6, 7] l.length (fun k => [(8, .c (.d (.int .i64 k)))]) (fun k => orF (l.drop k) = orF l) (by simp) ?_ (by push_cast)
  intro k hk hinv
  push_cast
  refine ⟨fun h => ?_, fun h => by rw [← hinv, List.drop_eq_nil_of_le (by omega)]; rfl⟩
  have hlt : k < l.length := by omega
  rw [Fc.drop_cons hlt, orF] at hinv
  refine ⟨hlt, ?_⟩
  refine ⟨fun e => ?_, fun e => ?_⟩
  · rw [if_neg e] at hinv; exact hinv
  · rw [if_pos e] at hinv; exact ⟨by omega, hlt, hinv⟩
theorem c116 (x y : Bk) : AFn Tryz.prog Γ 116 [.agg (x.ds.map C.d), .agg (y.ds.map C.d)] [.d (.int .i64 (cfT x y))] := by
  refine AFn.vc [] Tryz.func116 rfl Tryz.mixed (by kernel_rfl) Tryz.ntmps116 Tryz.results116 (by simp) ?_
  push_cast
  refine CallX.q (c118 y.cnt x.cnt) ?_
  push_cast
  refine CallX.q (c108 x.val y.val) ?_
  push_cast
  refine CallX.q (c117 [cmpI y.cnt x.cnt, Lib.compareBytes x.val y.val] (by simp)) ?_
  push_cast
  unfold cfT orF orF orF
  by_cases h : cmpI y.cnt x.cnt = 0
  · simp only [h, if_true, ne_eq, not_true_eq_false, if_false]
    split
    · next h2 => rw [h2]
    · rfl
  · simp only [h, if_false, ne_eq, not_false_eq_true, if_true]
/-- What a comparison of buckets is asked to do. -/
def cmpBk (cf : Bk → Bk → Int) : List AV → List RV → Prop := fun a r => ∃ x y : Bk, a = [.agg (x.ds.map C.d), .agg (y.ds.map C.d)] ∧ r = [.d (.int .i64 (cf x y))]
theorem bks_scal (l : List Bk) : (l.map Bk.ds).flatten.all D.scal = true := by
  rw [List.all_eq_true]
  intro d hd
  obtain ⟨e, he, hd⟩ := List.mem_flatten.1 hd
  obtain ⟨b, _, rfl⟩ := List.mem_map.1 he
  simp only [Fc.Bk.ds, List.mem_cons, List.not_mem_nil, or_false] at hd
  rcases hd with rfl | rfl <;> rfl
def tab229 : List (List Bool × List Nat) := [([true, true, false, false, false, true, true, true, true, true, true, true, true, true, true, false, false, false], [2, 3, 15]), ([true, true, true, false, false, true, true, true, true, true, true, true, true, true, true, false, false, false], [3, 15]), ([true, true, false, true, false, true, true, true, true, true, true, true, true, true, true, false, false, false], [2, 4, 15]), ([true, true, true, true, false, true, true, true, true, true, true, true, true, true, true, false, false, false], [4, 15]), ([true, true, false, true, true, true, true, true, true, true, true, true, true, true, true, false, false, false], [2, 15]), ([true, true, true, true, true, true, true, true, true, true, true, true, true, true, true, false, false, false], [15]), ([true, true, false, false, false, true, true, true, true, true, true, true, true, true, true, true, false, false], [2, 3]), ([true, true, true, false, false, true, true, true, true, true, true, true, true, true, true, true, false, false], [3]), ([true, true, false, true, false, true, true, true, true, true, true, true, true, true, true, true, false, false], [2, 4]), ([true, true, true, true, false, true, true, true, true, true, true, true, true, true, true, true, false, false], [4]), ([true, true, false, true, true, true, true, true, true, true, true, true, true, true, true, true, false, false], [2]), ([true, true, true, true, true, true, true, true, true, true, true, true, true, true, true, true, false, false], [16]), ([true, true, true, true, true, true, true, true, true, true, true, true, true, true, true, true, true, false], [17]), ([true, true, true, true, true, true, true, true, true, true, true, true, true, true, true, true, true, true], [])]
theorem c229 (cf : Bk → Bk → Int) (d : Array Bk) (a b : Nat) (ha : a ≤ b) (hb : b ≤ d.size) (hd : d.size ≤ 1000000) : RFn Tryz.prog Γ 229 79 2 (d.toList.map Bk.ds) ((Sort.insertionSort (fun x y => decide (cf x y < 0)) d a b).toList.map Bk.ds) [.c (.d (.int .i64 a)), .c (.d (.int .i64 b)), .c (.fn (FnSpec Tryz.prog Γ (cmpBk cf)))] [] := by
  unfold Sort.insertionSort
  generalize hn : d.size = n at *
  generalize hR : Sort.insOuter (fun x y => decide (cf x y < 0)) a b (a + 1) d = R
  refine RFn.vc [1000006] Tryz.func229 rfl Tryz.mixed (by kernel_rfl) Tryz.ntmps229 Tryz.results229 (by simp) bk_len (bks_scal _) rfl bk_len ?_
  push_cast
  refine ⟨by omega, ?_⟩
  refine LoopV.of Tryz.mixed [0, 1, 2, 3] (S := Nat × Array Bk) (fun s => [(8, .c (.d (.int .i64 s.1)))]) (fun s => [.row 79 2 (s.2.toList.map Bk.ds) 0]) (fun s => s.1 ≤ b + 1 ∧ a < s.1 ∧ s.2.size = n ∧ Sort.insOuter (fun x y => decide (cf x y < 0)) a b s.1 s.2 = R) (fun s => b + 1 - s.1) (a + 1, d) ⟨by show a + 1 ≤ _; omega, by show a < a + 1; omega, hn, hR⟩ (by push_cast) ?_
  rintro ⟨i, d1⟩ ⟨h1, h2, h3, h4⟩
  simp only at h1 h2 h3 h4
  push_cast
  refine ⟨fun h => ?_, fun h => ?_⟩
  · rw [Sort.insOuter, if_pos (by omega)] at h4
    generalize hR1 : Sort.insInner (fun x y => decide (cf x y < 0)) a i d1 = R1 at h4
    refine LoopV.of Tryz.mixed [0, 1, 2, 3, 8] (S := Nat × Array Bk) (fun s => [(9, .c (.d (.int .i64 s.1)))]) (fun s => [.row 79 2 (s.2.toList.map Bk.ds) 0]) (fun s => s.1 < n ∧ a ≤ s.1 ∧ s.2.size = n ∧ Sort.insInner (fun x y => decide (cf x y < 0)) a s.1 s.2 = R1) (fun s => s.1) (i, d1) ⟨by show i < n; omega, by show a ≤ i; omega, h3, hR1⟩ (by push_cast) ?_
    rintro ⟨j, d2⟩ ⟨g1, g2, g3, g4⟩
    simp only at g1 g2 g3 g4
    push_cast
    refine ⟨fun k1 => ?_, fun k1 => ?_⟩
    · obtain ⟨jp, rfl⟩ : ∃ jp, j = jp + 1 := ⟨j - 1, by omega⟩
      have e1 : (((jp + 1 : Nat) : Int) - 1).toNat = jp := by omega
      have hl2 : d2.toList.length = n := by simpa using g3
      have q1 : jp + 1 < d2.toList.length := by omega
      have q0 : jp < d2.toList.length := by omega
      refine ⟨by omega, q1, by omega, by omega, by omega, ?_⟩
      refine CallX.fn _ _ ⟨d2.toList[jp + 1], d2.toList[(((jp + 1 : Nat) : Int) - 1).toNat]'(by omega), rfl, rfl⟩ ?_
      push_cast
      have e3 : ((jp : Int) + 1 - 1) = (jp : Int) := by omega
      have hx1 : d2[jp + 1]! = d2.toList[jp + 1] := by rw [getElem!_pos d2 (jp + 1) (by omega)]; simp
      have hx0 : d2[jp]! = d2.toList[jp] := by rw [getElem!_pos d2 jp (by omega)]; simp
      simp only [e3, Int.toNat_natCast]
      rw [Sort.insInner, hx1, hx0] at g4
      refine ⟨fun k2 => ?_, fun k2 => ?_⟩
      · rw [if_pos (by simp only [Bool.and_eq_true, decide_eq_true_eq]; exact ⟨by omega, k2⟩)] at g4
        refine RegV.preF (E := [1000006]) Tryz.mixed 15 [0, 1, 5, 6, 7, 8, 9, 10, 11, 12, 13, 14] (by kernel_rfl) (by kernel_rfl) ?_
        simp only [List.take_succ_cons, List.take_zero]
        push_cast
        have e4 : ((jp : Int) + 1).toNat = jp + 1 := by omega
        simp only [e3, e4, Int.toNat_natCast]
        refine ⟨by omega, by omega, by omega, q0, by omega, q1, by omega, ?_⟩
        refine RegF.tab (E := [1000006]) tab229 [none, some (52, .c (.rowp 0 0 2 jp 0)), none] [some [.row 79 2 ((d2.toList.map Bk.ds).set (jp + 1) d2.toList[jp].ds) 0], none, some [.row 79 2 (((d2.toList.map Bk.ds).set (jp + 1) d2.toList[jp].ds).set jp d2.toList[jp + 1].ds) 0]] (by kernel_rfl) (by kernel_rfl) (by kernel_rfl) ?_ ?_
        · unfold tab229
          simp only [List.take_succ_cons, List.take_zero]
          push_cast
          repeat' (first | refine And.intro ?_ ?_ | exact rfl | omega | (simp only [e3, e4, Int.toNat_natCast]; exact rfl))
          refine ⟨by simp; omega, ?_⟩
          simp only [List.getElem_set_ne (show jp + 1 ≠ jp by omega), List.getElem_map]
          exact ⟨Nat.le_refl _, rfl⟩
        · simp only [List.take_succ_cons, List.take_zero]
          push_cast
          have hsw : (((d2.toList.map Bk.ds).set (jp + 1) [D.str d2.toList[jp].val, D.int IntKind.i64 d2.toList[jp].cnt]).set jp [D.str d2.toList[jp + 1].val, D.int IntKind.i64 d2.toList[jp + 1].cnt]) = (Sort.swp d2 (jp + 1) jp).toList.map Bk.ds := by
            unfold Sort.swp
            rw [Array.toList_setIfInBounds, Array.toList_setIfInBounds, List.map_set, List.map_set, hx1, hx0]
            rfl
          rw [hsw]
          exact ⟨by omega, (jp, Sort.swp d2 (jp + 1) jp), ⟨⟨by show jp < n; omega, by show a ≤ jp; omega, by unfold Sort.swp; simpa using g3, g4⟩, by show jp < jp + 1; omega⟩, by show (jp : Int) = _; omega, rfl⟩
      · rw [if_neg (by intro h; simp only [Bool.and_eq_true, decide_eq_true_eq] at h; omega)] at g4
        exact ⟨by omega, (i + 1, d2), ⟨⟨by show i + 1 ≤ b + 1; omega, by show a < i + 1; omega, g3, by rw [g4]; exact h4⟩, by show b + 1 - (i + 1) < _; omega⟩, rfl, rfl⟩
    · have hj : j = a := by omega
      have g5 : d2 = R1 := by
        rw [← g4, hj]
        cases a with
        | zero => rfl
        | succ a => rw [Sort.insInner, if_neg (by simp)]
      exact ⟨by omega, (i + 1, d2), ⟨⟨by show i + 1 ≤ b + 1; omega, by show a < i + 1; omega, g3, by rw [g5]; exact h4⟩, by show b + 1 - (i + 1) < _; omega⟩, rfl, rfl⟩
  · rw [Sort.insOuter, if_neg (by omega)] at h4
    rw [h4]
end Go.Proofs
