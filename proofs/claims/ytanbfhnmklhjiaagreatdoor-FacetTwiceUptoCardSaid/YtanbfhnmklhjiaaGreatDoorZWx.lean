/- Part of a proof about this program; no condition of its own. -/
import Derived.Test.YtanbfhnmklhjiaaGreatDoorGzA
import Derived.Test.YtanbfhnmklhjiaaGreatDoorGzB
set_option linter.all false
/- symMerge. No condition. -/
namespace Go.Proofs
open Go Go.Ax Go.Tx Go.Lib Go.Shelf Go.RowKit Go.Fc
set_option maxRecDepth 100000
set_option maxHeartbeats 0
variable {Γ : List (Nat × List D)}
theorem getA {P A B S : List Bk} {n t : Nat} (hn : n < (P ++ A ++ B ++ S).length) (ht : t < A.length) (e : n = P.length + t) : (P ++ A ++ B ++ S)[n] = A[t] := by
  subst e
  apply Option.some.inj
  rw [← List.getElem?_eq_getElem, ← List.getElem?_eq_getElem, List.append_assoc, List.getElem?_append_left (by simp; omega), List.getElem?_append_right (by omega)]
  congr 1; omega
theorem asc_lo {B : List Bk} (hB : SrtT B) {x : Bk} {h : Nat} (hh : h < B.length) (k : ltT B[h] x = true) : ∀ t (ht : t < B.length), t ≤ h → ltT B[t] x = true := fun t ht hth => by
  by_cases e : t = h
  · subst e; exact k
  · have h1 := List.pairwise_iff_getElem.1 hB t h ht hh (by omega)
    cases h2 : ltT B[t] x with
    | true => rfl
    | false => rw [sto_T.ntr _ _ _ h1 h2] at k; cases k
theorem asc_hi {B : List Bk} (hB : SrtT B) {x : Bk} {h : Nat} (hh : h < B.length) (k : ltT B[h] x = false) : ∀ t (ht : t < B.length), h ≤ t → ltT B[t] x = false := fun t ht hth => by
  by_cases e : t = h
  · subst e; exact k
  · have h1 := List.pairwise_iff_getElem.1 hB h t hh ht (by omega)
    exact sto_T.ntr _ _ _ h1 k
theorem dsc_lo {B : List Bk} (hB : SrtT B) {x : Bk} {h : Nat} (hh : h < B.length) (k : ltT x B[h] = false) : ∀ t (ht : t < B.length), t ≤ h → ltT x B[t] = false := fun t ht hth => by
  by_cases e : t = h
  · subst e; exact k
  · have h1 := List.pairwise_iff_getElem.1 hB t h ht hh (by omega)
    exact sto_T.ntr _ _ _ k h1
theorem dsc_hi {B : List Bk} (hB : SrtT B) {x : Bk} {h : Nat} (hh : h < B.length) (k : ltT x B[h] = true) : ∀ t (ht : t < B.length), h ≤ t → ltT x B[t] = true := fun t ht hth => by
  by_cases e : t = h
  · subst e; exact k
  · have h1 := List.pairwise_iff_getElem.1 hB h t hh ht (by omega)
    cases h2 : ltT x B[t] with
    | true => rfl
    | false => rw [sto_T.ntr _ _ _ h2 h1] at k; cases k
theorem getB {P A B S : List Bk} {n t : Nat} (hn : n < (P ++ A ++ B ++ S).length) (ht : t < B.length) (e : n = P.length + A.length + t) : (P ++ A ++ B ++ S)[n] = B[t] := by
  subst e
  apply Option.some.inj
  rw [← List.getElem?_eq_getElem, ← List.getElem?_eq_getElem, List.getElem?_append_left (by simp; omega), List.getElem?_append_right (by simp)]
  congr 1; simp
theorem set_swap {X Z : List (List D)} (x y : List D) : ((X ++ x :: y :: Z).set X.length y).set (X.length + 1) x = X ++ y :: x :: Z := by
  rw [List.set_append_right _ _ (Nat.le_refl _), List.set_append_right _ _ (by omega), Nat.sub_self, show X.length + 1 - X.length = 1 by omega]
  rfl
theorem split_at {B : List Bk} {c : Nat} (h : c < B.length) : B.drop c = B[c] :: B.drop (c + 1) := List.drop_eq_getElem_cons h
theorem c238a (P A B S : List Bk) (a m b : Int) (hA1 : A.length = 1) (hB0 : 0 < B.length) (hB : SrtT B) (ea : a = P.length) (em : m = (P.length + A.length : Nat)) (eb : b = (P.length + A.length + B.length : Nat)) (hd : (P ++ A ++ B ++ S).length ≤ 1000000) :
    RFn Tryz.prog Γ 238 79 2 ((P ++ A ++ B ++ S).map Bk.ds) ((P ++ sortT (A ++ B) ++ S).map Bk.ds) [.c (.d (.int .i64 a)), .c (.d (.int .i64 m)), .c (.d (.int .i64 b)), .c (.fn (FnSpec Tryz.prog Γ (cmpBk cfT)))] [] := by
  have hlen : P.length + A.length + B.length + S.length ≤ 1000000 := by simpa [Nat.add_assoc] using hd
  refine RFn.vc [1000011, 1000023] Tryz.func238 rfl Tryz.mixed (by kernel_rfl) Tryz.ntmps238 Tryz.results238 (by simp) bk_len (bks_scal _) rfl bk_len ?_
  push_cast
  refine ⟨by omega, fun k1 => ?_, fun k1 => by omega⟩
  refine LoopV.of Tryz.mixed [0, 1, 4] (S := Nat × Nat) (fun s => [(10, .c (.d (.int .i64 (m + s.1)))), (11, .c (.d (.int .i64 (m + s.2))))]) (fun _ => [.row 79 2 ((P ++ A ++ B ++ S).map Bk.ds) 0])
    (fun s => s.1 ≤ s.2 ∧ s.2 ≤ B.length ∧ (∀ t (ht : t < B.length), t < s.1 → ltT B[t] A[0] = true) ∧ ∀ t (ht : t < B.length), s.2 ≤ t → ltT B[t] A[0] = false) (fun s => s.2 - s.1) (0, B.length) ⟨Nat.zero_le _, Nat.le_refl _, fun t _ h => by simp at h, fun t h1 h2 => by simp only at h2; omega⟩ (by push_cast; omega) ?_
  rintro ⟨i, j⟩ ⟨g1, g2, g3, g4⟩
  simp only at g1 g2 g3 g4
  push_cast
  have eh : ((m + (i : Int) + (m + (j : Int))) / 2).toNat = P.length + A.length + (i + j) / 2 := by omega
  refine ⟨fun k2 => ?_, fun k2 => ?_⟩
  · have hh : (i + j) / 2 < B.length := by omega
    have q1 : ((m + (i : Int) + (m + (j : Int))) / 2).toNat < (P ++ A ++ B ++ S).length := by simp only [List.length_append]; omega
    have q2 : a.toNat < (P ++ A ++ B ++ S).length := by simp only [List.length_append]; omega
    have e1 := getB (P := P) (A := A) (B := B) (S := S) q1 hh eh
    have e2 := getA (P := P) (A := A) (B := B) (S := S) (t := 0) q2 (by omega) (by omega)
    refine ⟨by omega, by omega, by omega, by omega, by omega, by omega, by omega, ?_⟩
    refine CallX.fn _ _ ⟨(P ++ A ++ B ++ S)[((m + (i : Int) + (m + (j : Int))) / 2).toNat], (P ++ A ++ B ++ S)[a.toNat], rfl, rfl⟩ ?_
    push_cast
    rw [e1, e2]
    refine ⟨fun k3 => ?_, fun k3 => ?_⟩
    · have k4 : ltT B[(i + j) / 2] A[0] = true := decide_eq_true k3
      exact ⟨by omega, ((i + j) / 2 + 1, j), ⟨⟨by show (i + j) / 2 + 1 ≤ j; omega, g2, fun t ht h => asc_lo hB hh k4 t ht (by simp only at h; omega), g4⟩, by show j - ((i + j) / 2 + 1) < j - i; omega⟩, by show m + (((i + j) / 2 + 1 : Nat) : Int) = _; omega, rfl⟩
    · have k4 : ltT B[(i + j) / 2] A[0] = false := decide_eq_false (by omega)
      exact ⟨(i, (i + j) / 2), ⟨⟨by show i ≤ (i + j) / 2; omega, by show (i + j) / 2 ≤ _; omega, g3, fun t ht h => asc_hi hB hh k4 t ht h⟩, by show (i + j) / 2 - i < j - i; omega⟩, rfl, by show m + (((i + j) / 2 : Nat) : Int) = _; omega⟩
  · have hij : i = j := by omega
    subst hij
    obtain ⟨x, rfl⟩ : ∃ x, A = [x] := by
      match A, hA1 with
      | [x], _ => exact ⟨x, rfl⟩
    have hT : P ++ sortT ([x] ++ B) ++ S = P ++ B.take i ++ [x] ++ B.drop i ++ S := by
      have : sortT ([x] ++ B) = B.take i ++ [x] ++ B.drop i := by
        refine sortT_eq ?_ ?_
        · rw [List.append_assoc]
          refine List.perm_append_comm.trans ?_
          rw [List.append_assoc]
          refine List.Perm.append_left [x] ?_
          exact (List.perm_append_comm.trans (by rw [List.take_append_drop]))
        · refine merge_one (by rw [List.take_append_drop]; exact hB) rfl (fun y hy z hz => ?_) fun y hy z hz => ?_
          · rw [List.mem_singleton.1 hz]
            obtain ⟨t, ht, rfl⟩ := List.mem_iff_getElem.1 hy
            rw [List.length_take] at ht
            rw [List.getElem_take]
            exact sto_T.asym (g3 t (by omega) (by omega))
          · rw [List.mem_singleton.1 hz]
            obtain ⟨t, ht, rfl⟩ := List.mem_iff_getElem.1 hy
            rw [List.length_drop] at ht
            rw [List.getElem_drop]
            exact g4 (i + t) (by omega) (by omega)
      rw [this]
      simp only [List.append_assoc]
    rw [hT]
    have em2 : m = (P.length : Int) + 1 := by rw [em]; simp
    refine LoopV.cntH Tryz.mixed [0, 10] i (fun c => [(13, .c (.d (.int .i64 (a + c))))]) (fun c => [.row 79 2 ((P ++ B.take c ++ [x] ++ B.drop c ++ S).map Bk.ds) 0]) (fun _ => True) trivial ?_ (by push_cast; omega)
    intro c hc _
    push_cast
    refine ⟨by omega, fun k3 => ?_, fun k3 => ?_⟩
    · have hcB : c < B.length := by omega
      have hsp := split_at hcB
      obtain ⟨X, hX⟩ : ∃ X, X = P ++ B.take c := ⟨_, rfl⟩
      obtain ⟨Z, hZ⟩ : ∃ Z, Z = B.drop (c + 1) ++ S := ⟨_, rfl⟩
      have hXl : X.length = P.length + c := by rw [hX, List.length_append, List.length_take]; omega
      have eL : P ++ B.take c ++ [x] ++ B.drop c ++ S = X ++ x :: B[c] :: Z := by rw [hX, hZ, hsp]; simp only [List.append_assoc]; rfl
      have eL2 : P ++ B.take (c + 1) ++ [x] ++ B.drop (c + 1) ++ S = X ++ B[c] :: x :: Z := by rw [hX, hZ, Fc.take_next hcB]; simp only [List.append_assoc]; rfl
      rw [eL, eL2]
      have hZl : (X ++ x :: B[c] :: Z).length = P.length + 1 + B.length + S.length := by rw [← eL]; simp only [List.length_append, List.length_take, List.length_drop, List.length_cons, List.length_nil]; omega
      have q0 : P.length + c < (X ++ x :: B[c] :: Z).length := by omega
      have q1 : P.length + c + 1 < (X ++ x :: B[c] :: Z).length := by omega
      have x0 : (X ++ x :: B[c] :: Z)[P.length + c] = x := by
        apply Option.some.inj; rw [← List.getElem?_eq_getElem, List.getElem?_append_right (by omega), hXl, Nat.sub_self]; rfl
      have x1 : (X ++ x :: B[c] :: Z)[P.length + c + 1] = B[c] := by
        apply Option.some.inj; rw [← List.getElem?_eq_getElem, List.getElem?_append_right (by omega), hXl, show P.length + c + 1 - (P.length + c) = 1 by omega]; rfl
      have hset : ((((X ++ x :: B[c] :: Z).map Bk.ds).set (P.length + c) B[c].ds).set (P.length + c + 1) x.ds) = (X ++ B[c] :: x :: Z).map Bk.ds := by
        have := set_swap (X := X.map Bk.ds) (Z := Z.map Bk.ds) x.ds B[c].ds
        rw [List.length_map, hXl] at this
        rw [List.map_append, List.map_append, List.map_cons, List.map_cons, List.map_cons, List.map_cons]
        exact this
      generalize B[c] = y at *
      generalize X ++ x :: y :: Z = L at *
      have e3 : (a + (c : Int)).toNat = P.length + c := by omega
      have e4 : (a + (c : Int) + 1).toNat = P.length + c + 1 := by omega
      refine RegV.preF (E := [1000011, 1000023]) Tryz.mixed 15 [0, 1, 5, 6, 7, 8, 9, 10, 11, 12, 13, 14] (by kernel_rfl) (by kernel_rfl) ?_
      simp only [List.take_succ_cons, List.take_zero]
      push_cast
      simp only [e3, e4, x0, x1]
      refine ⟨by omega, by omega, by omega, q1, by omega, q0, by omega, ?_⟩
      refine RegF.tab (E := [1000011, 1000023]) tab229 [none, some (76, .c (.rowp 0 0 2 (P.length + c + 1) 0)), none] [some [.row 79 2 ((L.map Bk.ds).set (P.length + c) y.ds) 0], none, some [.row 79 2 (((L.map Bk.ds).set (P.length + c) y.ds).set (P.length + c + 1) x.ds) 0]] (by kernel_rfl) (by kernel_rfl) (by kernel_rfl) ?_ ?_
      · unfold tab229
        simp only [List.take_succ_cons, List.take_zero]
        push_cast
        repeat' (first | refine And.intro ?_ ?_ | exact rfl | omega | (simp only [e3, e4, x0, x1, Int.toNat_natCast]; exact rfl))
        refine ⟨by first | omega | (simp; omega), ?_⟩
        simp only [List.getElem_set_ne (show P.length + c ≠ P.length + c + 1 by omega), List.getElem_map]
        exact ⟨Nat.le_refl _, rfl⟩
      · simp only [List.take_succ_cons, List.take_zero]
        push_cast
        exact ⟨by omega, by omega, by omega, hset⟩
    · have : c = i := by omega
      subst this
      rfl
end Go.Proofs
