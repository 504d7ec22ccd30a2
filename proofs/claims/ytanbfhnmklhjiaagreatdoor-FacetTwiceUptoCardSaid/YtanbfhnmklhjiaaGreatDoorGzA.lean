/- Part of a proof about this program; no condition of its own. -/
import Derived.Test.YtanbfhnmklhjiaaGreatDoorGzJ
set_option linter.all false
/- Blocks of buckets that change places. No condition. -/
namespace Go.Proofs
open Go Go.Ax Go.Tx Go.Lib Go.Shelf Go.RowKit Go.Fc
set_option maxRecDepth 100000
set_option maxHeartbeats 0
variable {Γ : List (Nat × List D)}
def tab287 : List (List Bool × List Nat) := [([true, true, true, true, false, false, false, false, true, true, true, true, true, true, true, true, true, true, true, true, true, false, false, false], [4, 5, 6, 21]), ([true, true, true, true, true, false, false, false, true, true, true, true, true, true, true, true, true, true, true, true, true, false, false, false], [5, 6, 21]), ([true, true, true, true, false, true, false, false, true, true, true, true, true, true, true, true, true, true, true, true, true, false, false, false], [4, 6, 21]), ([true, true, true, true, true, true, false, false, true, true, true, true, true, true, true, true, true, true, true, true, true, false, false, false], [6, 21]), ([true, true, true, true, false, false, true, false, true, true, true, true, true, true, true, true, true, true, true, true, true, false, false, false], [4, 5, 21]), ([true, true, true, true, true, false, true, false, true, true, true, true, true, true, true, true, true, true, true, true, true, false, false, false], [5, 21]), ([true, true, true, true, false, true, true, false, true, true, true, true, true, true, true, true, true, true, true, true, true, false, false, false], [4, 7, 21]), ([true, true, true, true, true, true, true, false, true, true, true, true, true, true, true, true, true, true, true, true, true, false, false, false], [7, 21]), ([true, true, true, true, false, true, true, true, true, true, true, true, true, true, true, true, true, true, true, true, true, false, false, false], [4, 21]), ([true, true, true, true, true, true, true, true, true, true, true, true, true, true, true, true, true, true, true, true, true, false, false, false], [21]), ([true, true, true, true, false, false, false, false, true, true, true, true, true, true, true, true, true, true, true, true, true, true, false, false], [4, 5, 6]), ([true, true, true, true, true, false, false, false, true, true, true, true, true, true, true, true, true, true, true, true, true, true, false, false], [5, 6]), ([true, true, true, true, false, true, false, false, true, true, true, true, true, true, true, true, true, true, true, true, true, true, false, false], [4, 6]), ([true, true, true, true, true, true, false, false, true, true, true, true, true, true, true, true, true, true, true, true, true, true, false, false], [6]), ([true, true, true, true, false, false, true, false, true, true, true, true, true, true, true, true, true, true, true, true, true, true, false, false], [4, 5]), ([true, true, true, true, true, false, true, false, true, true, true, true, true, true, true, true, true, true, true, true, true, true, false, false], [5]), ([true, true, true, true, false, true, true, false, true, true, true, true, true, true, true, true, true, true, true, true, true, true, false, false], [4, 7]), ([true, true, true, true, true, true, true, false, true, true, true, true, true, true, true, true, true, true, true, true, true, true, false, false], [7]), ([true, true, true, true, false, true, true, true, true, true, true, true, true, true, true, true, true, true, true, true, true, true, false, false], [4]), ([true, true, true, true, true, true, true, true, true, true, true, true, true, true, true, true, true, true, true, true, true, true, false, false], [22]), ([true, true, true, true, true, true, true, true, true, true, true, true, true, true, true, true, true, true, true, true, true, true, true, false], [23]), ([true, true, true, true, true, true, true, true, true, true, true, true, true, true, true, true, true, true, true, true, true, true, true, true], [])]
/-- The first k places from a on and those from b on, exchanged. -/
def swR (d : Array Bk) (a b : Nat) : Nat → Array Bk
  | 0 => d
  | k + 1 => Sort.swp (swR d a b k) (a + k) (b + k)
theorem swR_size (d : Array Bk) (a b : Nat) : ∀ k, (swR d a b k).size = d.size
  | 0 => rfl
  | k + 1 => by
    have := swR_size d a b k
    unfold swR Sort.swp
    simpa using this
theorem c287 (cf : Bk → Bk → Int) (d : Array Bk) (a b n : Nat) (ha : a + n ≤ b) (hb : b + n ≤ d.size) (hd : d.size ≤ 1000000) : RFn Tryz.prog Γ 287 79 2 (d.toList.map Bk.ds) ((swR d a b n).toList.map Bk.ds) [.c (.d (.int .i64 a)), .c (.d (.int .i64 b)), .c (.d (.int .i64 n)), .c (.fn (FnSpec Tryz.prog Γ (cmpBk cf)))] [] := by
  refine RFn.vc [1000003] Tryz.func287 rfl Tryz.mixed (by kernel_rfl) Tryz.ntmps287 Tryz.results287 (by simp) bk_len (bks_scal _) rfl bk_len ?_
  push_cast
  refine LoopV.cntH Tryz.mixed [0, 1, 2, 3] n (fun k => [(10, .c (.d (.int .i64 k)))]) (fun k => [.row 79 2 ((swR d a b k).toList.map Bk.ds) 0]) (fun _ => True) trivial ?_ (by push_cast; rfl)
  intro k hk _
  push_cast
  refine ⟨fun h => ?_, fun h => ?_⟩
  · have hs := swR_size d a b k
    have hsw : swR d a b (k + 1) = Sort.swp (swR d a b k) (a + k) (b + k) := rfl
    rw [hsw]
    generalize swR d a b k = d2 at *
    have hl2 : d2.toList.length = d.size := by simpa using hs
    have q1 : b + k < d2.toList.length := by omega
    have q0 : a + k < d2.toList.length := by omega
    have hx1 : d2[b + k]! = d2.toList[b + k] := by rw [getElem!_pos d2 (b + k) (by omega)]; simp
    have hx0 : d2[a + k]! = d2.toList[a + k] := by rw [getElem!_pos d2 (a + k) (by omega)]; simp
    have e3 : ((a : Int) + (k : Int)).toNat = a + k := by omega
    have e4 : ((b : Int) + (k : Int)).toNat = b + k := by omega
    refine RegV.preF (E := [1000003]) Tryz.mixed 21 [0, 1, 2, 3, 8, 9, 10, 11, 12, 13, 14, 15, 16, 17, 18, 19, 20] (by kernel_rfl) (by kernel_rfl) ?_
    simp only [List.take_succ_cons, List.take_zero]
    push_cast
    simp only [e3, e4, Int.toNat_natCast]
    refine ⟨by omega, by omega, by omega, by omega, q1, by omega, by omega, q0, by omega, ?_⟩
    refine RegF.tab (E := [1000003]) tab287 [none, some (37, .c (.rowp 0 0 2 (b + k) 0)), none] [some [.row 79 2 ((d2.toList.map Bk.ds).set (a + k) d2.toList[b + k].ds) 0], none, some [.row 79 2 (((d2.toList.map Bk.ds).set (a + k) d2.toList[b + k].ds).set (b + k) d2.toList[a + k].ds) 0]] (by kernel_rfl) (by kernel_rfl) (by kernel_rfl) ?_ ?_
    · unfold tab287
      simp only [List.take_succ_cons, List.take_zero]
      push_cast
      repeat' (first | refine And.intro ?_ ?_ | exact rfl | omega | (simp only [e3, e4, Int.toNat_natCast]; exact rfl))
      refine ⟨by simp; omega, ?_⟩
      simp only [List.getElem_set_ne (show a + k ≠ b + k by omega), List.getElem_map]
      exact ⟨Nat.le_refl _, rfl⟩
    · simp only [List.take_succ_cons, List.take_zero]
      push_cast
      have hsw2 : (((d2.toList.map Bk.ds).set (a + k) [D.str d2.toList[b + k].val, D.int IntKind.i64 d2.toList[b + k].cnt]).set (b + k) [D.str d2.toList[a + k].val, D.int IntKind.i64 d2.toList[a + k].cnt]) = (Sort.swp d2 (a + k) (b + k)).toList.map Bk.ds := by
        unfold Sort.swp
        rw [Array.toList_setIfInBounds, Array.toList_setIfInBounds, List.map_set, List.map_set, hx1, hx0]
        rfl
      exact ⟨by omega, by omega, hsw2⟩
  · have : k = n := by omega
    subst this
    rfl
end Go.Proofs

/- Rotation of buckets. No condition. -/
namespace Go.Proofs
open Go Go.Ax Go.Tx Go.Lib Go.Shelf Go.RowKit Go.Fc
set_option maxRecDepth 100000
set_option maxHeartbeats 0
variable {Γ : List (Nat × List D)}
theorem swp_get? (d : Array Bk) (i j t : Nat) (hi : i < d.size) (hj : j < d.size) : (Sort.swp d i j)[t]? = if t = j then d[i]? else if t = i then d[j]? else d[t]? := by
  unfold Sort.swp
  rw [Array.getElem?_setIfInBounds, Array.getElem?_setIfInBounds]
  by_cases h1 : t = j
  · subst h1
    rw [if_pos rfl, if_pos (by simpa using hj), if_pos rfl, getElem!_pos d i hi, Array.getElem?_eq_getElem hi]
  · rw [if_neg (fun e => h1 e.symm), if_neg h1]
    by_cases h2 : t = i
    · subst h2
      rw [if_pos rfl, if_pos hi, if_pos rfl, getElem!_pos d j hj, Array.getElem?_eq_getElem hj]
    · rw [if_neg (fun e => h2 e.symm), if_neg h2]
theorem swR_get (d : Array Bk) (a b : Nat) : ∀ (k t : Nat), a + k ≤ b → b + k ≤ d.size → (swR d a b k)[t]? = if a ≤ t ∧ t < a + k then d[t - a + b]? else if b ≤ t ∧ t < b + k then d[t - b + a]? else d[t]?
  | 0, t, _, _ => by
    show d[t]? = _
    rw [if_neg (by omega), if_neg (by omega)]
  | k + 1, t, h1, h2 => by
    have ih := fun t => swR_get d a b k t (by omega) (by omega)
    have hs := swR_size d a b k
    show (Sort.swp (swR d a b k) (a + k) (b + k))[t]? = _
    rw [swp_get? _ _ _ _ (by omega) (by omega)]
    by_cases e1 : t = b + k
    · subst e1
      rw [if_pos rfl, ih, if_neg (by omega), if_neg (by omega), if_neg (by omega), if_pos (by omega)]
      congr 1; omega
    · rw [if_neg e1]
      by_cases e2 : t = a + k
      · subst e2
        rw [if_pos rfl, ih, if_neg (by omega), if_neg (by omega), if_pos (by omega)]
        congr 1; omega
      · rw [if_neg e2, ih]
        by_cases e3 : a ≤ t ∧ t < a + k
        · rw [if_pos e3, if_pos (by omega)]
        · rw [if_neg e3, if_neg (show ¬ (a ≤ t ∧ t < a + (k + 1)) by omega)]
          by_cases e4 : b ≤ t ∧ t < b + k
          · rw [if_pos e4, if_pos (by omega)]
          · rw [if_neg e4, if_neg (by omega)]
theorem get5 {P X M Y S : List Bk} (t : Nat) : (P ++ X ++ M ++ Y ++ S)[t]? = if t < P.length then P[t]? else if t < P.length + X.length then X[t - P.length]? else if t < P.length + X.length + M.length then M[t - (P.length + X.length)]? else if t < P.length + X.length + M.length + Y.length then Y[t - (P.length + X.length + M.length)]? else S[t - (P.length + X.length + M.length + Y.length)]? := by
  simp only [List.append_assoc]
  by_cases h1 : t < P.length
  · rw [if_pos h1, List.getElem?_append_left h1]
  · rw [if_neg h1, List.getElem?_append_right (by omega)]
    by_cases h2 : t < P.length + X.length
    · rw [if_pos h2, List.getElem?_append_left (by omega)]
    · rw [if_neg h2, List.getElem?_append_right (by omega)]
      by_cases h3 : t < P.length + X.length + M.length
      · rw [if_pos h3, List.getElem?_append_left (by omega)]; congr 1; omega
      · rw [if_neg h3, List.getElem?_append_right (by omega)]
        by_cases h4 : t < P.length + X.length + M.length + Y.length
        · rw [if_pos h4, List.getElem?_append_left (by omega)]; congr 1; omega
        · rw [if_neg h4, List.getElem?_append_right (by omega)]; congr 1; omega
/-- Two blocks of one length change places. -/
theorem swR_list (P X M Y S : List Bk) (h : X.length = Y.length) : (swR (P ++ X ++ M ++ Y ++ S).toArray P.length (P.length + X.length + M.length) X.length).toList = P ++ Y ++ M ++ X ++ S := by
  apply List.ext_getElem?
  intro t
  rw [Array.getElem?_toList, swR_get _ _ _ _ _ (by omega) (by simp; omega)]
  simp only [List.getElem?_toArray, get5]
  rw [h]
  by_cases h1 : t < P.length
  · simp [h1, show ¬ P.length ≤ t by omega, show ¬ P.length + Y.length + M.length ≤ t by omega]
  · by_cases h2 : t < P.length + Y.length
    · simp only [h1, h2, show P.length ≤ t by omega, and_self, if_true, if_false]
      rw [if_neg (by omega), if_neg (by omega), if_neg (by omega), if_pos (by omega)]
      congr 1; omega
    · by_cases h3 : t < P.length + Y.length + M.length
      · rw [if_neg (by omega), if_neg (by omega), if_neg h1, if_neg h2, if_pos h3, if_neg h1, if_neg h2, if_pos h3]
      · by_cases h4 : t < P.length + Y.length + M.length + Y.length
        · rw [if_neg (by omega), if_pos (by omega), if_neg (by omega), if_pos (by omega), if_neg h1, if_neg h2, if_neg h3, if_pos h4]
          congr 1; omega
        · rw [if_neg (by omega), if_neg (by omega), if_neg h1, if_neg h2, if_neg h3, if_neg h4, if_neg h1, if_neg h2, if_neg h3, if_neg h4]
end Go.Proofs

/- Rotation of buckets: the walk. No condition. -/
namespace Go.Proofs
open Go Go.Ax Go.Tx Go.Lib Go.Shelf Go.RowKit Go.Fc
set_option maxRecDepth 100000
set_option maxHeartbeats 0
variable {Γ : List (Nat × List D)}
theorem c287L (cf : Bk → Bk → Int) (P X M Y S L : List Bk) (a b n : Int) (hL : L = P ++ X ++ M ++ Y ++ S) (h : X.length = Y.length) (ea : a = P.length) (eb : b = (P.length + X.length + M.length : Nat)) (en : n = X.length) (hd : L.length ≤ 1000000) :
    RFn Tryz.prog Γ 287 79 2 (L.map Bk.ds) ((P ++ Y ++ M ++ X ++ S).map Bk.ds) [.c (.d (.int .i64 a)), .c (.d (.int .i64 b)), .c (.d (.int .i64 n)), .c (.fn (FnSpec Tryz.prog Γ (cmpBk cf)))] [] := by
  subst hL ea eb en
  have hc := c287 (Γ := Γ) cf (P ++ X ++ M ++ Y ++ S).toArray P.length (P.length + X.length + M.length) X.length (by omega) (by simp; omega) (by simpa using hd)
  rw [swR_list P X M Y S h] at hc
  exact hc
theorem c270 (cf : Bk → Bk → Int) (P X Y S : List Bk) (a m b : Int) (hx : 0 < X.length) (hy : 0 < Y.length) (ea : a = P.length) (em : m = (P.length + X.length : Nat)) (eb : b = (P.length + X.length + Y.length : Nat)) (hd : (P ++ X ++ Y ++ S).length ≤ 1000000) :
    RFn Tryz.prog Γ 270 79 2 ((P ++ X ++ Y ++ S).map Bk.ds) ((P ++ Y ++ X ++ S).map Bk.ds) [.c (.d (.int .i64 a)), .c (.d (.int .i64 m)), .c (.d (.int .i64 b)), .c (.fn (FnSpec Tryz.prog Γ (cmpBk cf)))] [] := by
  have hlen : P.length + X.length + Y.length + S.length ≤ 1000000 := by simpa [Nat.add_assoc] using hd
  generalize hT : P ++ Y ++ X ++ S = T
  generalize hL : P ++ X ++ Y ++ S = L at hd
  have em' : m = ((P.length + X.length : Nat) : Int) := em
  refine RFn.vc [] Tryz.func270 rfl Tryz.mixed (by kernel_rfl) Tryz.ntmps270 Tryz.results270 (by simp) bk_len (bks_scal _) rfl bk_len ?_
  push_cast
  refine ⟨by omega, by omega, ?_⟩
  refine LoopV.of Tryz.mixed [0, 2, 4] (S := List Bk × List Bk × List Bk × List Bk) (fun s => [(10, .c (.d (.int .i64 s.2.1.length))), (11, .c (.d (.int .i64 s.2.2.1.length)))]) (fun s => [.row 79 2 ((s.1 ++ s.2.1 ++ s.2.2.1 ++ s.2.2.2).map Bk.ds) 0])
    (fun s => (0 < s.2.1.length ∧ 0 < s.2.2.1.length) ∧ m = ((s.1.length + s.2.1.length : Nat) : Int) ∧ s.1.length + s.2.1.length + s.2.2.1.length + s.2.2.2.length ≤ 1000000 ∧ s.1 ++ s.2.2.1 ++ s.2.1 ++ s.2.2.2 = T) (fun s => s.2.1.length + s.2.2.1.length) (P, X, Y, S) ⟨⟨hx, hy⟩, em', hlen, hT⟩ (by push_cast; exact ⟨⟨by omega, by omega⟩, by rw [hL]⟩) ?_
  rintro ⟨P1, X1, Y1, S1⟩ ⟨⟨g1, g2⟩, g3, g4, g5⟩
  simp only at g1 g2 g3 g4 g5
  push_cast
  refine ⟨fun k1 => ⟨fun k2 => ⟨by omega, ?_⟩, fun k2 => ⟨by omega, by omega, by omega, ?_⟩⟩, fun k1 => ⟨by omega, ?_⟩⟩
  · have t1 : (X1.take Y1.length).length = Y1.length := by rw [List.length_take]; omega
    have t2 : (X1.drop Y1.length).length = X1.length - Y1.length := List.length_drop ..
    have t3 : X1 = X1.take Y1.length ++ X1.drop Y1.length := (List.take_append_drop _ _).symm
    refine CallL.rfn (j := 0) (ver := 0) (c287L cf P1 (X1.take Y1.length) (X1.drop Y1.length) Y1 S1 (P1 ++ X1 ++ Y1 ++ S1) (m - X1.length) m Y1.length (by simp only [List.append_assoc]; rw [← List.append_assoc (X1.take _), ← t3]) t1 (by omega) (by rw [t1, t2]; omega) (by rw [t1]) (by simp only [List.length_append]; omega)) ?_
    push_cast
    refine ⟨by omega, (P1 ++ Y1, X1.drop Y1.length, X1.take Y1.length, S1), ⟨⟨⟨by show 0 < (X1.drop Y1.length).length; omega, by show 0 < (X1.take Y1.length).length; omega⟩, ?_, ?_, ?_⟩, ?_⟩, ⟨by show ((X1.drop Y1.length).length : Int) = _; omega, by show ((X1.take Y1.length).length : Int) = _; omega⟩, rfl⟩
    · show m = ((P1 ++ Y1).length : Int) + ((X1.drop Y1.length).length : Int)
      rw [t2, List.length_append]; omega
    · show (P1 ++ Y1).length + (X1.drop Y1.length).length + (X1.take Y1.length).length + S1.length ≤ 1000000
      rw [t1, t2, List.length_append]; omega
    · show P1 ++ Y1 ++ X1.take Y1.length ++ X1.drop Y1.length ++ S1 = T
      rw [List.append_assoc (P1 ++ Y1), ← t3]; exact g5
    · show (X1.drop Y1.length).length + (X1.take Y1.length).length < _
      rw [t1, t2]; omega
  · have t1 : (Y1.drop (Y1.length - X1.length)).length = X1.length := by rw [List.length_drop]; omega
    have t2 : (Y1.take (Y1.length - X1.length)).length = Y1.length - X1.length := by rw [List.length_take]; omega
    have t3 : Y1 = Y1.take (Y1.length - X1.length) ++ Y1.drop (Y1.length - X1.length) := (List.take_append_drop _ _).symm
    refine CallL.rfn (j := 0) (ver := 0) (c287L cf P1 X1 (Y1.take (Y1.length - X1.length)) (Y1.drop (Y1.length - X1.length)) S1 (P1 ++ X1 ++ Y1 ++ S1) (m - X1.length) (m + Y1.length - X1.length) X1.length (by simp only [List.append_assoc]; rw [← List.append_assoc (Y1.take _), ← t3]) t1.symm (by omega) (by rw [t2]; omega) rfl (by simp only [List.length_append]; omega)) ?_
    push_cast
    refine ⟨by omega, (P1, Y1.drop (Y1.length - X1.length), Y1.take (Y1.length - X1.length), X1 ++ S1), ⟨⟨⟨by show 0 < (Y1.drop (Y1.length - X1.length)).length; omega, by show 0 < (Y1.take (Y1.length - X1.length)).length; omega⟩, ?_, ?_, ?_⟩, ?_⟩, ⟨by show ((Y1.drop (Y1.length - X1.length)).length : Int) = _; omega, by show ((Y1.take (Y1.length - X1.length)).length : Int) = _; omega⟩, by simp only [List.append_assoc]⟩
    · show m = (P1.length : Int) + ((Y1.drop (Y1.length - X1.length)).length : Int)
      rw [t1]; omega
    · show P1.length + (Y1.drop (Y1.length - X1.length)).length + (Y1.take (Y1.length - X1.length)).length + (X1 ++ S1).length ≤ 1000000
      rw [t1, t2, List.length_append]; omega
    · show P1 ++ Y1.take (Y1.length - X1.length) ++ Y1.drop (Y1.length - X1.length) ++ (X1 ++ S1) = T
      rw [List.append_assoc P1, ← t3, ← List.append_assoc]; exact g5
    · show (Y1.drop (Y1.length - X1.length)).length + (Y1.take (Y1.length - X1.length)).length < _
      rw [t1, t2]; omega
  · have hxy : X1.length = Y1.length := by omega
    refine CallL.rfn (j := 0) (ver := 0) (c287L cf P1 X1 [] Y1 S1 (P1 ++ X1 ++ Y1 ++ S1) (m - X1.length) m X1.length (by simp) hxy (by omega) (by simp; omega) rfl (by simp only [List.length_append]; omega)) ?_
    push_cast
    rw [g5]
end Go.Proofs
