/- Walks of the chapter on privacy, fifth part. -/
import Derived.Test.YtjnljbimandmcaaPWd
set_option linter.all false
namespace Go.Proofs
open Go Go.Ax Go.Pv
set_option maxRecDepth 100000
variable {Γ : List (Nat × List D)}
def bC (b : Bool) : C := .d (.bool b)
attribute [push_cast] bC
@[push_cast] theorem lowCs_bC (n : Nat) : ∀ l : List Bool, lowCs n (l.map bC) = True
  | [] => by simp [lowCs]
  | b :: l => by simp only [List.map_cons, lowCs]; exact eq_true ⟨trivial, of_eq_true (lowCs_bC n l)⟩
theorem F_set : ∀ (l : List Bool) (i : Nat), i < l.length → (l.set i true).countP (!·) + (if l.getD i false = true then 0 else 1) = l.countP (!·)
  | [], _, h => by simp at h
  | a :: l, 0, _ => by cases a <;> simp
  | a :: l, i + 1, h => by
    have := F_set l i (by simpa using h)
    cases a <;> simp_all <;> omega
theorem getD_set {l : List Bool} {i j : Nat} (h : (l.set i true).getD j false = true) : i = j ∨ l.getD j false = true := by
  by_cases e : i = j
  · exact .inl e
  · right; simpa [List.getElem?_set_ne e] using h
structure Snd (R C : Nat) (cs : List Int) (x : Nat) (rows cols : List Bool) : Prop where
  lr : rows.length = 8
  lc : cols.length = 8
  b : rows.getD (x / C) false = true
  sr : ∀ i, rows.getD i false = true → Rch R C cs x (x / C) i
  sc : ∀ j, cols.getD j false = true → Rch R C cs x (x / C) (R + j)
theorem set_keep {l : List Bool} {i j : Nat} (h : l.getD j false = true) : (l.set i true).getD j false = true := by
  have hl := getD_out h
  by_cases e : i = j
  · subst e; simp [hl]
  · simpa [List.getElem?_set_ne e] using h
theorem Snd.grow {R C : Nat} {cs : List Int} {x : Nat} {rows cols : List Bool} (h : Snd R C cs x rows cols) {k : Nat} (hk : k < cs.length) (hh : hidB cs x k = true) (hn : rows.getD (k / C) false ≠ cols.getD (k % C) false) : Snd R C cs x (rows.set (k / C) true) (cols.set (k % C) true) := by
  have hrk : Rch R C cs x (x / C) (k / C) ∧ Rch R C cs x (x / C) (R + k % C) := by
    cases h1 : rows.getD (k / C) false
    · have h2 : cols.getD (k % C) false = true := by cases h2 : cols.getD (k % C) false <;> simp_all
      exact ⟨.toRow k hk hh (h.sc _ h2), h.sc _ h2⟩
    · exact ⟨h.sr _ h1, .toCol k hk hh (h.sr _ h1)⟩
  refine ⟨by simp [h.lr], by simp [h.lc], set_keep h.b, fun i hi => ?_, fun j hj => ?_⟩
  · rcases getD_set hi with rfl | hi
    · exact hrk.1
    · exact h.sr _ hi
  · rcases getD_set hj with rfl | hj
    · exact hrk.2
    · exact h.sc _ hj
theorem Snd.done {R C : Nat} {cs : List Int} (hO : Okn R C cs) {x : Nat} (hx : x < cs.length) {rows cols : List Bool} (h : Snd R C cs x rows cols) (hc : ∀ k, k < cs.length → hidB cs x k = true → rows.getD (k / C) false = cols.getD (k % C) false) : (!cols.getD (x % C) false) = detF R C cs x := by
  have key : ∀ v, Rch R C cs x (x / C) v → (v < R → rows.getD v false = true) ∧ (∀ j, v = R + j → cols.getD j false = true) := by
    intro v hv
    induction hv with
    | base => exact ⟨fun _ => h.b, fun j e => by have := hO.div hx; omega⟩
    | toCol k hk hh _ ih =>
      refine ⟨fun hl => by omega, fun j e => ?_⟩
      have : j = k % C := by omega
      subst this
      rw [← hc k hk hh]; exact ih.1 (hO.div hk)
    | toRow k hk hh _ ih =>
      refine ⟨fun _ => ?_, fun j e => by have := hO.div hk; omega⟩
      rw [hc k hk hh]; exact ih.2 _ rfl
  have hd := det_iff R C cs hO x hx
  cases hq : cols.getD (x % C) false
  · symm; simp only [Bool.not_false]
    refine hd.2 fun hr => ?_
    have := (key _ hr).2 _ rfl
    rw [hq] at this; cases this
  · symm; simp only [Bool.not_true]
    cases hq2 : detF R C cs x
    · rfl
    · exact absurd (h.sc _ hq) (hd.1 hq2)
def fl (l : List Bool) : Nat := l.countP (!·)
structure InS (R C : Nat) (cs : List Int) (x : Nat) (rows0 cols0 : List Bool) (k : Nat) (rows cols : List Bool) (g : Bool) : Prop where
  s : Snd R C cs x rows cols
  hk : k ≤ cs.length
  le : fl rows + fl cols ≤ fl rows0 + fl cols0
  g1 : g = true → fl rows + fl cols < fl rows0 + fl cols0
  g0 : g = false → rows = rows0 ∧ cols = cols0 ∧ ∀ j, j < k → hidB cs x j = true → rows.getD (j / C) false = cols.getD (j % C) false
theorem InS.next {R C : Nat} {cs : List Int} {x : Nat} {rows0 cols0 : List Bool} {k : Nat} {rows cols : List Bool} {g : Bool} (h : InS R C cs x rows0 cols0 k rows cols g) (hk : k < cs.length) (hq : hidB cs x k = true → rows.getD (k / C) false = cols.getD (k % C) false) : InS R C cs x rows0 cols0 (k + 1) rows cols g := by
  refine ⟨h.s, hk, h.le, h.g1, fun hg => ⟨(h.g0 hg).1, (h.g0 hg).2.1, fun j hj hh => ?_⟩⟩
  by_cases e : j = k
  · subst e; exact hq hh
  · exact (h.g0 hg).2.2 j (by omega) hh
theorem InS.set {R C : Nat} {cs : List Int} (hO : Okn R C cs) {x : Nat} {rows0 cols0 : List Bool} {k : Nat} {rows cols : List Bool} {g : Bool} (h : InS R C cs x rows0 cols0 k rows cols g) (hk : k < cs.length) (hh : hidB cs x k = true) (hq : rows.getD (k / C) false ≠ cols.getD (k % C) false) : InS R C cs x rows0 cols0 (k + 1) (rows.set (k / C) true) (cols.set (k % C) true) true := by
  have hd := hO.div hk
  have hm := hO.mod k
  have hR := hO.r8
  have hC := hO.c8
  have f1 := F_set rows (k / C) (by rw [h.s.lr]; omega)
  have f2 := F_set cols (k % C) (by rw [h.s.lc]; omega)
  have hlt : fl (rows.set (k / C) true) + fl (cols.set (k % C) true) < fl rows + fl cols := by
    unfold fl
    by_cases a : rows.getD (k / C) false = true
    · rw [if_pos a] at f1
      rw [if_neg (fun b => hq (a.trans b.symm))] at f2
      omega
    · rw [if_neg a] at f1
      split at f2 <;> omega
  have := h.le
  exact ⟨h.s.grow hk hh hq, hk, by omega, fun _ => by omega, fun hf => by cases hf⟩
theorem set_bC (l : List Bool) (i : Nat) (h : i < l.length) : List.take (i * 1) (List.map bC l) ++ [Ax.C.d (D.bool true)] ++ List.drop (i * 1 + 1) (List.map bC l) = List.map bC (l.set i true) := by
  rw [List.set_eq_take_append_cons_drop, if_pos h]
  simp [bC]
theorem c32 (R C : Nat) (cs : List Int) (hO : Okn R C cs) (x : Nat) (hx : x < cs.length) : AFn Try.prog Γ 32 [.agg (Tab.cs ⟨R, C, cs⟩), .c (.d (.int .i64 x))] [.d (.bool (detF R C cs x))] := by
  refine AFn.vc [] Try.func32 rfl Try.mixed (by kernel_rfl) Try.ntmps32 Try.results32 (by simp) ?_
  have hle := hO.le
  have hC1 := hO.c1
  have hR := hO.r8
  have hC := hO.c8
  have hd := hO.div hx
  have hm := hO.mod x
  have g1 : (x : Int) / C = ((x / C : Nat) : Int) := (Int.natCast_ediv _ _).symm
  have g2 : (x : Int) % C = ((x % C : Nat) : Int) := (Int.natCast_emod _ _).symm
  push_cast
  refine ⟨⟨by omega, by omega⟩, by rw [g1]; omega, by omega, ?_⟩
  refine LoopV.of Try.mixed [1, 2, 5, 6] (S := List Bool × List Bool × Bool) (fun s => [(7, .c (.d (.bool s.2.2)))]) (fun s => [.box 24 (Tab.cs ⟨R, C, cs⟩), .box 49 (s.1.map bC), .box 49 (s.2.1.map bC)]) (fun s => Snd R C cs x s.1 s.2.1 ∧ (s.2.2 = false → ∀ k, k < cs.length → hidB cs x k = true → s.1.getD (k / C) false = s.2.1.getD (k % C) false)) (fun s => fl s.1 + fl s.2.1 + if s.2.2 = true then 1 else 0) ((List.replicate 8 false).set (x / C) true, List.replicate 8 false, true) ?_ ?_ ?_
  · refine ⟨⟨by simp, by simp, ?_, fun i hi => ?_, fun j hj => ?_⟩, fun h => by cases h⟩
    · have : x / C < 8 := by omega
      simp [this]
    · rcases getD_set hi with rfl | h
      · exact .base
      · exfalso
        by_cases e : i < 8
        · rw [List.getD_eq_getElem?_getD, List.getElem?_replicate, if_pos e] at h; cases h
        · rw [List.getD_eq_getElem?_getD, List.getElem?_replicate, if_neg e] at h; cases h
    · exfalso
      by_cases e : j < 8
      · dsimp only at hj; rw [List.getD_eq_getElem?_getD, List.getElem?_replicate, if_pos e] at hj; cases hj
      · dsimp only at hj; rw [List.getD_eq_getElem?_getD, List.getElem?_replicate, if_neg e] at hj; cases hj
  · push_cast
    have h8 : x / C < 8 := by omega
    generalize x / C = q at h8
    have : q = 0 ∨ q = 1 ∨ q = 2 ∨ q = 3 ∨ q = 4 ∨ q = 5 ∨ q = 6 ∨ q = 7 := by omega
    rcases this with rfl | rfl | rfl | rfl | rfl | rfl | rfl | rfl <;> rfl
  intro s hs
  obtain ⟨rows, cols, g⟩ := s
  obtain ⟨hS, hg⟩ := hs
  dsimp only at hS hg
  push_cast
  refine ⟨fun hgt => ?_, fun hgf => ?_⟩
  · refine LoopV.of Try.mixed [1, 2, 5, 6, 19, 20] (S := Nat × List Bool × List Bool × Bool) (fun s => [(7, .c (.d (.bool s.2.2.2))), (21, .c (.d (.int .i64 s.1)))]) (fun s => [.box 24 (Tab.cs ⟨R, C, cs⟩), .box 49 (s.2.1.map bC), .box 49 (s.2.2.1.map bC)]) (fun s => InS R C cs x rows cols s.1 s.2.1 s.2.2.1 s.2.2.2) (fun s => cs.length - s.1) (0, rows, cols, false) ⟨hS, by omega, Nat.le_refl _, (by intro h; cases h), fun _ => ⟨rfl, rfl, fun j hj => by omega⟩⟩ (by push_cast) ?_
    intro s hs
    obtain ⟨k, rows', cols', g'⟩ := s
    dsimp only at hs
    have hk := hs.hk
    have hlr := hs.s.lr
    have hlc := hs.s.lc
    push_cast
    refine ⟨fun h => ?_, fun h => ?_⟩
    · have hk' : k < cs.length := by omega
      have hd' := hO.div hk'
      have hm' := hO.mod k
      have e1 : (k : Int) / C = ((k / C : Nat) : Int) := (Int.natCast_ediv _ _).symm
      have e2 : (k : Int) % C = ((k % C : Nat) : Int) := (Int.natCast_emod _ _).symm
      have r1 : rows'.getD (k / C) false = rows'[k / C * 1]'(by omega) := by simp [List.getElem?_eq_getElem (show k / C < rows'.length by omega)]
      have r2 : cols'.getD (k % C) false = cols'[k % C * 1]'(by omega) := by simp [List.getElem?_eq_getElem (show k % C < cols'.length by omega)]
      have hhid : hidB cs x k = true ↔ cs[k] = -1 ∧ ¬ (k : Int) = x := by
        simp [hidB, List.getElem?_eq_getElem hk']; omega
      refine ⟨hk', ⟨by omega, by omega⟩, by omega, fun a => ⟨fun b => ⟨by rw [e1]; omega, by omega, by rw [e2]; omega, by omega, fun c => ?_, fun c => ?_⟩, fun b => ?_⟩, fun a => ?_⟩
      · refine ⟨by rw [e1]; omega, by omega, by rw [e2]; omega, by omega, ⟨by omega, by omega⟩, (k + 1, rows'.set (k / C) true, cols'.set (k % C) true, true), ⟨hs.set hO hk' (hhid.2 ⟨a, b⟩) (by rw [r1, r2]; exact c), by show cs.length - (k + 1) < _; omega⟩, ⟨rfl, rfl⟩, set_bC _ _ (by omega), set_bC _ _ (by omega)⟩
      · refine ⟨⟨by omega, by omega⟩, (k + 1, rows', cols', g'), ⟨hs.next hk' (fun _ => by rw [r1, r2]; simpa using c), by show cs.length - (k + 1) < _; omega⟩, ⟨rfl, rfl⟩, rfl, rfl⟩
      · refine ⟨⟨by omega, by omega⟩, (k + 1, rows', cols', g'), ⟨hs.next hk' (fun hh => absurd b (hhid.1 hh).2), by show cs.length - (k + 1) < _; omega⟩, ⟨rfl, rfl⟩, rfl, rfl⟩
      · refine ⟨⟨by omega, by omega⟩, (k + 1, rows', cols', g'), ⟨hs.next hk' (fun hh => absurd (hhid.1 hh).1 a), by show cs.length - (k + 1) < _; omega⟩, ⟨rfl, rfl⟩, rfl, rfl⟩
    · obtain rfl : k = cs.length := by omega
      refine ⟨(rows', cols', g'), ⟨⟨hs.s, fun hgf => (hs.g0 hgf).2.2⟩, ?_⟩, rfl, rfl, rfl⟩
      have h1 := hs.le
      have h2 := hs.g1
      rw [if_pos hgt]
      dsimp only
      split
      · rename_i hq; have := h2 hq; omega
      · omega
  · refine ⟨by omega, by rw [g2]; omega, by rw [hS.lc]; omega, ?_⟩
    rw [← Snd.done hO hx hS (hg hgf)]
    simp [List.getElem?_eq_getElem (show x % C < cols.length by rw [hS.lc]; omega)]
end Go.Proofs
