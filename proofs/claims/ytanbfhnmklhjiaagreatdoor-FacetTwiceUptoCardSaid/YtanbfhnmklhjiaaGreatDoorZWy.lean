/- Part of a proof about this program; no condition of its own. -/
import Derived.Test.YtanbfhnmklhjiaaGreatDoorZWx
set_option linter.all false
/- symMerge: a second row of one. No condition. -/
namespace Go.Proofs
open Go Go.Ax Go.Tx Go.Lib Go.Shelf Go.RowKit Go.Fc
set_option maxRecDepth 100000
set_option maxHeartbeats 0
variable {Γ : List (Nat × List D)}
theorem set_swap2 {X Z : List (List D)} (x y : List D) : ((X ++ y :: x :: Z).set (X.length + 1) y).set X.length x = X ++ x :: y :: Z := by
  rw [List.set_append_right _ _ (by omega), show X.length + 1 - X.length = 1 by omega, List.set_append_right _ _ (Nat.le_refl _), Nat.sub_self]
  rfl
theorem c238b (P A B S : List Bk) (a m b : Int) (hA0 : A.length ≠ 1) (hA2 : 0 < A.length) (hB1 : B.length = 1) (hA : SrtT A) (ea : a = P.length) (em : m = (P.length + A.length : Nat)) (eb : b = (P.length + A.length + B.length : Nat)) (hd : (P ++ A ++ B ++ S).length ≤ 1000000) :
    RFn Tryz.prog Γ 238 79 2 ((P ++ A ++ B ++ S).map Bk.ds) ((P ++ sortT (A ++ B) ++ S).map Bk.ds) [.c (.d (.int .i64 a)), .c (.d (.int .i64 m)), .c (.d (.int .i64 b)), .c (.fn (FnSpec Tryz.prog Γ (cmpBk cfT)))] [] := by
  have hlen : P.length + A.length + B.length + S.length ≤ 1000000 := by simpa [Nat.add_assoc] using hd
  obtain ⟨x, rfl⟩ : ∃ x, B = [x] := by
    match B, hB1 with
    | [x], _ => exact ⟨x, rfl⟩
  have eb2 : b = m + 1 := by rw [eb, em]; simp
  simp only [List.length_cons, List.length_nil] at hlen
  refine RFn.vc [1000011, 1000023] Tryz.func238 rfl Tryz.mixed (by kernel_rfl) Tryz.ntmps238 Tryz.results238 (by simp) bk_len (bks_scal _) rfl bk_len ?_
  push_cast
  refine ⟨by omega, fun k1 => by omega, fun _ => ⟨by omega, fun _ => ?_, fun k1 => by omega⟩⟩
  refine LoopV.of Tryz.mixed [0, 2, 4] (S := Nat × Nat) (fun s => [(14, .c (.d (.int .i64 (a + s.1)))), (15, .c (.d (.int .i64 (a + s.2))))]) (fun _ => [.row 79 2 ((P ++ A ++ [x] ++ S).map Bk.ds) 0])
    (fun s => s.1 ≤ s.2 ∧ s.2 ≤ A.length ∧ (∀ t (ht : t < A.length), t < s.1 → ltT x A[t] = false) ∧ ∀ t (ht : t < A.length), s.2 ≤ t → ltT x A[t] = true) (fun s => s.2 - s.1) (0, A.length) ⟨Nat.zero_le _, Nat.le_refl _, fun t _ h => by simp at h, fun t h1 h2 => by simp only at h2; omega⟩ (by push_cast; omega) ?_
  rintro ⟨i, j⟩ ⟨g1, g2, g3, g4⟩
  simp only at g1 g2 g3 g4
  push_cast
  have eh : ((a + (i : Int) + (a + (j : Int))) / 2).toNat = P.length + (i + j) / 2 := by omega
  refine ⟨fun k2 => ?_, fun k2 => ?_⟩
  · have hh : (i + j) / 2 < A.length := by omega
    have q1 : ((a + (i : Int) + (a + (j : Int))) / 2).toNat < (P ++ A ++ [x] ++ S).length := by simp only [List.length_append, List.length_cons, List.length_nil]; omega
    have q2 : m.toNat < (P ++ A ++ [x] ++ S).length := by simp only [List.length_append, List.length_cons, List.length_nil]; omega
    have e1 := getA (P := P) (A := A) (B := [x]) (S := S) q1 hh eh
    have e2 := getB (P := P) (A := A) (B := [x]) (S := S) (t := 0) q2 (by simp) (by omega)
    refine ⟨by omega, by omega, by omega, by omega, by omega, by omega, by omega, ?_⟩
    refine CallX.fn _ _ ⟨(P ++ A ++ [x] ++ S)[m.toNat], (P ++ A ++ [x] ++ S)[((a + (i : Int) + (a + (j : Int))) / 2).toNat], rfl, rfl⟩ ?_
    push_cast
    rw [e1, e2]
    refine ⟨fun k3 => ?_, fun k3 => ?_⟩
    · have k4 : ltT x A[(i + j) / 2] = false := decide_eq_false (by have k3 : 0 ≤ cfT x A[(i + j) / 2] := k3; omega)
      exact ⟨by omega, ((i + j) / 2 + 1, j), ⟨⟨by show (i + j) / 2 + 1 ≤ j; omega, g2, fun t ht h => dsc_lo hA hh k4 t ht (by simp only at h; omega), g4⟩, by show j - ((i + j) / 2 + 1) < j - i; omega⟩, by show a + (((i + j) / 2 + 1 : Nat) : Int) = _; omega, rfl⟩
    · have k4 : ltT x A[(i + j) / 2] = true := decide_eq_true k3
      exact ⟨(i, (i + j) / 2), ⟨⟨by show i ≤ (i + j) / 2; omega, by show (i + j) / 2 ≤ _; omega, g3, fun t ht h => dsc_hi hA hh k4 t ht h⟩, by show (i + j) / 2 - i < j - i; omega⟩, rfl, by show a + (((i + j) / 2 : Nat) : Int) = _; omega⟩
  · have hij : i = j := by omega
    subst hij
    have hT : P ++ sortT (A ++ [x]) ++ S = P ++ A.take i ++ [x] ++ A.drop i ++ S := by
      have : sortT (A ++ [x]) = A.take i ++ [x] ++ A.drop i := by
        refine sortT_eq ?_ ?_
        · rw [List.append_assoc]
          have h1 : (A.take i ++ ([x] ++ A.drop i)).Perm (A.take i ++ (A.drop i ++ [x])) := List.Perm.append_left _ List.perm_append_comm
          refine h1.trans ?_
          rw [← List.append_assoc, List.take_append_drop]
        · refine merge_one (by rw [List.take_append_drop]; exact hA) rfl (fun y hy z hz => ?_) fun y hy z hz => ?_
          · rw [List.mem_singleton.1 hz]
            obtain ⟨t, ht, rfl⟩ := List.mem_iff_getElem.1 hy
            rw [List.length_take] at ht
            rw [List.getElem_take]
            exact g3 t (by omega) (by omega)
          · rw [List.mem_singleton.1 hz]
            obtain ⟨t, ht, rfl⟩ := List.mem_iff_getElem.1 hy
            rw [List.length_drop] at ht
            rw [List.getElem_drop]
            exact sto_T.asym (g4 (i + t) (by omega) (by omega))
      rw [this]
      simp only [List.append_assoc]
    rw [hT]
    refine LoopV.cntH Tryz.mixed [0, 14] (A.length - i) (fun c => [(17, .c (.d (.int .i64 (m - c))))]) (fun c => [.row 79 2 ((P ++ A.take (A.length - c) ++ [x] ++ A.drop (A.length - c) ++ S).map Bk.ds) 0]) (fun _ => True) trivial ?_ (by push_cast; exact ⟨by omega, by simp⟩)
    intro c hc _
    push_cast
    refine ⟨fun k3 => ?_, fun k3 => ?_⟩
    · have hcB : A.length - c - 1 < A.length := by omega
      obtain ⟨e, he⟩ : ∃ e, e = A.length - c - 1 := ⟨_, rfl⟩
      have he1 : A.length - c = e + 1 := by omega
      have he2 : A.length - (c + 1) = e := by omega
      have heA : e < A.length := by omega
      rw [he1, he2]
      obtain ⟨X, hX⟩ : ∃ X, X = P ++ A.take e := ⟨_, rfl⟩
      obtain ⟨Z, hZ⟩ : ∃ Z, Z = A.drop (e + 1) ++ S := ⟨_, rfl⟩
      have hXl : X.length = P.length + e := by rw [hX, List.length_append, List.length_take]; omega
      have eL : P ++ A.take (e + 1) ++ [x] ++ A.drop (e + 1) ++ S = X ++ A[e] :: x :: Z := by rw [hX, hZ, Fc.take_next heA]; simp only [List.append_assoc]; rfl
      have eL2 : P ++ A.take e ++ [x] ++ A.drop e ++ S = X ++ x :: A[e] :: Z := by rw [hX, hZ, split_at heA]; simp only [List.append_assoc]; rfl
      rw [eL, eL2]
      have hZl : (X ++ A[e] :: x :: Z).length = P.length + 1 + A.length + S.length := by rw [← eL]; simp only [List.length_append, List.length_take, List.length_drop, List.length_cons, List.length_nil]; omega
      have q0 : P.length + e < (X ++ A[e] :: x :: Z).length := by omega
      have q1 : P.length + e + 1 < (X ++ A[e] :: x :: Z).length := by omega
      have x0 : (X ++ A[e] :: x :: Z)[P.length + e] = A[e] := by
        apply Option.some.inj; rw [← List.getElem?_eq_getElem, List.getElem?_append_right (by omega), hXl, Nat.sub_self]; rfl
      have x1 : (X ++ A[e] :: x :: Z)[P.length + e + 1] = x := by
        apply Option.some.inj; rw [← List.getElem?_eq_getElem, List.getElem?_append_right (by omega), hXl, show P.length + e + 1 - (P.length + e) = 1 by omega]; rfl
      have hset : ((((X ++ A[e] :: x :: Z).map Bk.ds).set (P.length + e + 1) A[e].ds).set (P.length + e) x.ds) = (X ++ x :: A[e] :: Z).map Bk.ds := by
        have := set_swap2 (X := X.map Bk.ds) (Z := Z.map Bk.ds) x.ds A[e].ds
        rw [List.length_map, hXl] at this
        rw [List.map_append, List.map_append, List.map_cons, List.map_cons, List.map_cons, List.map_cons]
        exact this
      generalize A[e] = y at *
      generalize X ++ y :: x :: Z = L at *
      have e3 : (m - (c : Int)).toNat = P.length + e + 1 := by omega
      have e4 : (m - (c : Int) - 1).toNat = P.length + e := by omega
      refine RegV.preF (E := [1000011, 1000023]) Tryz.mixed 15 [0, 1, 5, 6, 7, 8, 9, 10, 11, 12, 13, 14] (by kernel_rfl) (by kernel_rfl) ?_
      simp only [List.take_succ_cons, List.take_zero]
      push_cast
      simp only [e3, e4, x0, x1]
      refine ⟨by omega, by omega, by omega, q0, by omega, q1, by omega, ?_⟩
      refine RegF.tab (E := [1000011, 1000023]) tab229 [none, some (128, .c (.rowp 0 0 2 (P.length + e) 0)), none] [some [.row 79 2 ((L.map Bk.ds).set (P.length + e + 1) y.ds) 0], none, some [.row 79 2 (((L.map Bk.ds).set (P.length + e + 1) y.ds).set (P.length + e) x.ds) 0]] (by kernel_rfl) (by kernel_rfl) (by kernel_rfl) ?_ ?_
      · unfold tab229
        simp only [List.take_succ_cons, List.take_zero]
        push_cast
        repeat' (first | refine And.intro ?_ ?_ | exact rfl | omega | (simp only [e3, e4, x0, x1, Int.toNat_natCast]; exact rfl))
        refine ⟨by first | omega | (simp; omega), ?_⟩
        simp only [List.getElem_set_ne (show P.length + e + 1 ≠ P.length + e by omega), List.getElem_map]
        exact ⟨Nat.le_refl _, rfl⟩
      · simp only [List.take_succ_cons, List.take_zero]
        push_cast
        exact ⟨by omega, by omega, by omega, hset⟩
    · have : A.length - c = i := by omega
      rw [this]
end Go.Proofs
