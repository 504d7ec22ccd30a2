/- Walks of the chapter on privacy, tenth part: what Hide keeps. -/
import Derived.Test.YtjnljbimandmcaaPWi
set_option linter.all false
namespace Go.Proofs
open Go Go.Ax Go.Pv
set_option maxRecDepth 100000
variable {Γ : List (Nat × List D)}
theorem first_vis (R C : Nat) (cs : List Int) (hO : Okn R C cs) (hR : 2 ≤ R) (hC : 2 ≤ C) (h : 0 ≤ firstF R C cs) : ∃ y : Nat, nextF R C cs (firstF R C cs).toNat = (y : Int) ∧ ∃ hy : y < cs.length, cs[y] ≠ -1 := by
  have hn := next_ok R C cs hO hR hC h
  have hb := next_bd R C cs hO _ (first_lt h)
  generalize nextF R C cs (firstF R C cs).toNat = y at *
  obtain ⟨y, rfl⟩ := Int.eq_ofNat_of_zero_le hn
  have hy : y < cs.length := by omega
  exact ⟨y, rfl, hy, by have := hb.2.2 hn; simpa [List.getElem?_eq_getElem hy] using this⟩
theorem hideLoop_safe (R C : Nat) (hR : 2 ≤ R) (hC : 2 ≤ C) : ∀ (m : Nat) (cs : List Int), Okn R C cs → cs.countP (fun v => decide (v ≠ -1)) ≤ m → firstF R C (hideLoop R C m cs) < 0
  | 0, cs, hO, hv => by
    apply Classical.byContradiction
    intro hn
    obtain ⟨y, _, hy, hv2⟩ := first_vis R C cs hO hR hC (by simp only [hideLoop] at hn; omega)
    have := vis_set cs y hy hv2
    omega
  | m + 1, cs, hO, hv => by
    simp only [hideLoop]
    split
    · assumption
    · next h =>
      obtain ⟨y, e, hy, hv2⟩ := first_vis R C cs hO hR hC (by omega)
      have := vis_set cs y hy hv2
      rw [e, Int.toNat_natCast]
      exact hideLoop_safe R C hR hC m _ (Okn.of_len hO (by simp)) (by omega)
theorem hideLoop_cells (R C : Nat) : ∀ (m : Nat) (cs : List Int) (i : Nat), (hideLoop R C m cs).getD i 0 = -1 ∨ (hideLoop R C m cs).getD i 0 = cs.getD i 0
  | 0, cs, i => .inr rfl
  | m + 1, cs, i => by
    simp only [hideLoop]
    split
    · exact .inr rfl
    · rcases hideLoop_cells R C m (cs.set (nextF R C cs (firstF R C cs).toNat).toNat (-1)) i with h | h
      · exact .inl h
      · rw [h]
        simp only [List.getD_eq_getElem?_getD, List.getElem?_set]
        split
        · split
          · exact .inl rfl
          · next h1 h2 => subst h1; rw [List.getElem?_eq_none (by omega)]; exact .inr rfl
        · exact .inr rfl
theorem hideLoop_len (R C : Nat) : ∀ (m : Nat) (cs : List Int), (hideLoop R C m cs).length = cs.length
  | 0, cs => rfl
  | m + 1, cs => by
    simp only [hideLoop]; split
    · rfl
    · rw [hideLoop_len R C m, List.length_set]
/-- What Hide returns. -/
structure Hid (R C : Nat) (cs us : List Int) (k : Int) : Prop where
  len : us.length = cs.length
  right : rightB ⟨R, C, us⟩ = true
  safe : firstF R C us < 0
  keeps : ∀ (i : Nat) (h : i < us.length) (h' : i < cs.length), us[i] = -1 ∨ (us[i] = cs[i] ∧ ¬ (1 ≤ cs[i] ∧ cs[i] < k))
theorem hide_hid {R C : Nat} {cs : List Int} (k : Int) (hO : Okn R C cs) (hR : 2 ≤ R) (hC : 2 ≤ C) (hr : rightB ⟨R, C, cs⟩ = true) : Hid R C cs (hideLoop R C cs.length (hide0 cs k)) k := by
  have hl0 : (hide0 cs k).length = cs.length := by simp [hide0]
  have hlen : (hideLoop R C cs.length (hide0 cs k)).length = cs.length := by rw [hideLoop_len, hl0]
  have hk : ∀ (i : Nat) (h : i < (hideLoop R C cs.length (hide0 cs k)).length) (h' : i < cs.length), (hideLoop R C cs.length (hide0 cs k))[i] = -1 ∨ ((hideLoop R C cs.length (hide0 cs k))[i] = cs[i] ∧ ¬ (1 ≤ cs[i] ∧ cs[i] < k)) := by
    intro i h h'
    have hc := hideLoop_cells R C cs.length (hide0 cs k) i
    simp only [List.getD_eq_getElem?_getD, List.getElem?_eq_getElem h, List.getElem?_eq_getElem (show i < (hide0 cs k).length by omega), Option.getD_some] at hc
    rcases hc with hc | hc
    · exact .inl hc
    · rw [hc]
      simp only [hide0, List.getElem_map]
      by_cases a : 1 ≤ cs[i] ∧ cs[i] < k
      · rw [if_pos a]; exact .inl rfl
      · rw [if_neg a]; exact .inr ⟨rfl, a⟩
  refine ⟨hlen, ?_, hideLoop_safe R C hR hC _ _ (Okn.of_len hO hl0) (by rw [← hl0]; exact List.countP_le_length), hk⟩
  have hrr := right_le hr
  unfold rightB
  rw [Bool.and_eq_true]
  refine ⟨decide_eq_true ?_, List.all_eq_true.2 fun v hv => decide_eq_true ?_⟩
  · have h1 := hO.r1
    have h2 := hO.r8
    have h3 := hO.c1
    have h4 := hO.c8
    refine ⟨by show (1 : Int) ≤ R; omega, by show (R : Int) ≤ 8; omega, by show (1 : Int) ≤ C; omega, by show (C : Int) ≤ 8; omega, ?_⟩
    show ((hideLoop R C cs.length (hide0 cs k)).length : Int) = (R : Int) * C
    rw [hlen, hO.len]; exact Int.natCast_mul _ _
  · obtain ⟨i, hi, rfl⟩ := List.getElem_of_mem hv
    have hi' : i < (hideLoop R C cs.length (hide0 cs k)).length := hi
    rcases hk i hi (by omega) with h | ⟨h, _⟩
    · rw [show (Tab.mk R C (hideLoop R C cs.length (hide0 cs k))).cells[i] = -1 from h]; omega
    · rw [show (Tab.mk R C (hideLoop R C cs.length (hide0 cs k))).cells[i] = cs[i] from h]; exact hrr _ (List.getElem_mem _)
theorem c6 (t : Tab) (k : Int) : AFn Try.prog Γ 6 [.agg (t.ds.map C.d), .c (.d (.int .i64 k))] [.d (.bool true)] := by
  refine AFn.vc [] Try.func6 rfl Try.mixed (by kernel_rfl) Try.ntmps6 Try.results6 (by simp) ?_
  push_cast
  refine ⟨fun h => ?_, fun h => ?_⟩
  · refine CallL.q (c10 t) ?_
    push_cast
    refine ⟨fun hr => ?_, fun _ => ?_⟩
    · refine CallL.q (c25 t (by omega)) ?_
      push_cast
      refine ⟨fun ho => ⟨fun h3 => ⟨fun h4 => ?_, fun h4 => ?_⟩, fun h3 => ?_⟩, fun _ => ?_⟩
      · refine CallL.q c9 ?_
        push_cast
      · obtain ⟨R, C, ht, hO⟩ := okn_of hr
        obtain ⟨rows, cols, cs⟩ := t
        cases ht
        dsimp only at h3 h4 hO h ⊢
        have hh := hide_hid k hO (by omega) (by omega) hr
        refine CallL.q (c23' ⟨R, C, cs⟩ _ k (by dsimp only; omega) (hideF_eq R C cs k hr ho h3 h4)) ?_
        generalize hideLoop R C cs.length (hide0 cs k) = us at *
        have hOu := Okn.of_len hO hh.len
        push_cast
        refine CallL.q (c10 ⟨R, C, us⟩) ?_
        rw [hh.right]
        push_cast
        refine CallL.q (c14 R C us hOu) ?_
        rw [hh.right, decide_eq_true hh.safe]
        push_cast
        have hlen := hh.len
        refine LoopV.cnt Try.mixed [1, 2, 5, 59] us.length (fun i => [(60, .c (.d (.int .i64 i)))]) (fun _ => True) trivial ?_ (by push_cast)
        intro i hi _
        push_cast
        refine ⟨fun h2 => ?_, fun h2 => ?_⟩
        · have hi' : i < us.length := by omega
          have hk := hh.keeps i hi' (by omega)
          refine ⟨hi', ?_⟩
          repeat' (first | apply And.intro | intro _ | refine Exists.intro (by omega) ?_)
          all_goals first | omega | skip
        · refine CallL.q c9 ?_
          push_cast
      · refine CallL.q c9 ?_
        push_cast
      · refine CallL.q c9 ?_
        push_cast
    · refine CallL.q c9 ?_
      push_cast
  · refine CallL.q c9 ?_
    push_cast
end Go.Proofs
