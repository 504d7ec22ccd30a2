/- Part of a proof about this program; no condition of its own. -/
import Derived.Test.YtanbfhnmklhjiaaGreatDoorP38
import Derived.Test.YtanbfhnmklhjiaaGreatDoorP24
set_option linter.all false
/- slices.IndexFunc and slices.DeleteFunc of strings and of numbers, by whatever function. No condition. -/
namespace Go.Fc
open Go Go.Ax
theorem fI_none {α : Type} {p : α → Bool} : ∀ {l : List α} {k : Nat}, fI p k l = -1 → ∀ x ∈ l, p x = false
  | [], _, _, x, hx => by cases hx
  | y :: r, k, h, x, hx => by
    unfold fI at h
    split at h
    · omega
    · next hy =>
      rcases List.mem_cons.1 hx with rfl | hx
      · simpa using hy
      · exact fI_none h x hx
theorem fI_some {α : Type} {p : α → Bool} : ∀ {l : List α} {k i : Nat}, fI p k l = ((k + i : Nat) : Int) → ∃ h : i < l.length, p l[i] = true ∧ (l.take i).filter (fun x => !p x) = l.take i
  | [], k, i, h => by unfold fI at h; omega
  | y :: r, k, i, h => by
    unfold fI at h
    split at h
    · next hy =>
      have : i = 0 := by omega
      subst this
      exact ⟨by simp, by simpa using hy, rfl⟩
    · next hy =>
      have hb := fI_bd p r (k + 1)
      cases i with
      | zero =>
        rcases Ax.fI_spec p r (k + 1) with ⟨h1, _⟩ | ⟨j, h1, _⟩ <;> omega
      | succ i =>
        obtain ⟨h1, h2, h3⟩ := fI_some (l := r) (k := k + 1) (i := i) (by rw [h]; congr 1; omega)
        refine ⟨by simp; omega, by simpa using h2, ?_⟩
        rw [List.take_succ_cons, List.filter_cons_of_pos (by simpa using hy), h3]
structure Thin {α : Type} (p : α → Bool) (l : List α) (j : Nat) (R : List α) : Prop where
  jle : j ≤ l.length
  len : R.length = l.length
  le : ((l.take j).filter fun x => !p x).length ≤ j
  pre : R.take ((l.take j).filter fun x => !p x).length = (l.take j).filter fun x => !p x
  post : R.drop j = l.drop j
theorem Thin.start {α : Type} {p : α → Bool} {l : List α} {i : Nat} (hi : i < l.length) (h1 : p l[i] = true) (h2 : (l.take i).filter (fun x => !p x) = l.take i) : (l.take (i + 1)).filter (fun x => !p x) = l.take i ∧ Thin p l (i + 1) l := by
  have e : (l.take (i + 1)).filter (fun x => !p x) = l.take i := by
    rw [List.take_succ_eq_append_getElem hi, List.filter_append, h2]
    simp [h1]
  have hl : (l.take i).length = i := by rw [List.length_take]; omega
  exact ⟨e, by omega, rfl, by rw [e, hl]; omega, by rw [e, hl], rfl⟩
theorem Thin.at {α : Type} {p : α → Bool} {l R : List α} {j : Nat} (h : Thin p l j R) (hj : j < l.length) : ∃ hr : j < R.length, R[j] = l[j] := by
  have hr : j < R.length := by rw [h.len]; exact hj
  refine ⟨hr, ?_⟩
  have h1 : (R.drop j)[0]? = (l.drop j)[0]? := by rw [h.post]
  rw [List.getElem?_drop, List.getElem?_drop, List.getElem?_eq_getElem (by omega), List.getElem?_eq_getElem (by omega)] at h1
  simpa using h1
theorem Thin.drop {α : Type} {p : α → Bool} {l R : List α} {j : Nat} (h : Thin p l j R) (hj : j < l.length) (hp : p l[j] = true) : (l.take (j + 1)).filter (fun x => !p x) = (l.take j).filter (fun x => !p x) ∧ Thin p l (j + 1) R := by
  have e : (l.take (j + 1)).filter (fun x => !p x) = (l.take j).filter (fun x => !p x) := by
    rw [List.take_succ_eq_append_getElem hj, List.filter_append]
    simp [hp]
  have hle := h.le
  exact ⟨e, by omega, h.len, by rw [e]; omega, by rw [e]; exact h.pre, by rw [← List.drop_drop, h.post, List.drop_drop]⟩
theorem Thin.keep {α : Type} {p : α → Bool} {l R : List α} {j : Nat} (h : Thin p l j R) (hj : j < l.length) (hp : p l[j] = false) : ((l.take (j + 1)).filter (fun x => !p x)).length = ((l.take j).filter (fun x => !p x)).length + 1 ∧ Thin p l (j + 1) (R.set ((l.take j).filter fun x => !p x).length l[j]) := by
  have e : (l.take (j + 1)).filter (fun x => !p x) = (l.take j).filter (fun x => !p x) ++ [l[j]] := by
    rw [List.take_succ_eq_append_getElem hj, List.filter_append]
    simp [hp]
  have hle := h.le
  have hlen := h.len
  refine ⟨by rw [e]; simp, by omega, by rw [List.length_set]; exact h.len, by rw [e]; simp; omega, ?_, ?_⟩
  · rw [e, List.length_append, List.length_singleton]
    apply List.ext_getElem?
    intro k
    have hpre := h.pre
    generalize (l.take j).filter (fun x => !p x) = F at *
    rw [List.getElem?_take, List.getElem?_set, List.getElem?_append]
    by_cases h1 : k < F.length
    · rw [if_pos (by omega), if_neg (by omega), if_pos h1]
      have h5 : (R.take F.length)[k]? = R[k]? := by rw [List.getElem?_take, if_pos h1]
      rw [hpre] at h5
      exact h5.symm
    · by_cases h2 : k = F.length
      · subst h2
        rw [if_pos (by omega), if_pos rfl, if_pos (by omega), if_neg (by omega), Nat.sub_self]; rfl
      · rw [if_neg (by omega), if_neg (by omega)]
        rw [List.getElem?_eq_none (by simp; omega)]
  · rw [List.drop_set_of_lt (by omega), ← List.drop_drop, h.post, List.drop_drop]
end Go.Fc
namespace Go.Proofs
open Go Go.Ax Go.Tx Go.Lib Go.RowKit Go.Fc
set_option maxRecDepth 100000
set_option maxHeartbeats 0
variable {Γ : List (Nat × List D)} {M : Int}
theorem sD1_len {l : List Str} : ∀ e ∈ l.map Fc.sD, e.length = 1 := fun e he => by
  obtain ⟨x, _, rfl⟩ := List.mem_map.1 he
  rfl
def predS (Q : Str → Prop) (p : Str → Bool) : List AV → List RV → Prop := fun a r => ∃ s : Str, Q s ∧ a = [.c (.d (.str s))] ∧ r = [.d (.bool (p s))]
def predI (p : Int → Bool) : List AV → List RV → Prop := fun a r => ∃ n : Int, a = [.c (.d (.int .i64 n))] ∧ r = [.d (.bool (p n))]
theorem c150 (l : List Str) (Q : Str → Prop) (p : Str → Bool) (hQ : ∀ s ∈ l, Q s) (hl : l.length ≤ 2000000) : AFn Tryz.prog Γ 150 [.c (.bor 1 (l.map Fc.sD)), .c (.fn (FnSpec Tryz.prog Γ (predS Q p)))] [.d (.int .i64 (fI p 0 l))] := by
  refine AFn.vc [] Tryz.func150 rfl Tryz.mixed (by kernel_rfl) Tryz.ntmps150 Tryz.results150 (by simp) ?_
  push_cast
  refine LoopV.cnt Tryz.mixed [0, 1, 7] l.length (fun k => [(8, .c (.d (.int .i64 k)))]) (fun k => fI p k (l.drop k) = fI p 0 l) (by simp) ?_ (by push_cast)
  intro k hk hinv
  push_cast
  refine ⟨fun h => ?_, fun h => ?_⟩
  · have hlt : k < l.length := by omega
    refine ⟨hlt, CallL.fn _ _ ⟨l[k], hQ _ (List.getElem_mem hlt), rfl, rfl⟩ ?_⟩
    push_cast
    refine ⟨fun a => ?_, fun a => ⟨by omega, by omega, ?_⟩⟩
    · rw [← hinv, Fc.drop_cons (by omega), fI, if_pos a]
    · rw [← hinv, Fc.drop_cons (show k < l.length by omega), fI, if_neg (by simp [a])]
  · rw [← hinv, List.drop_eq_nil_of_le (by omega)]; rfl
theorem c215 (l : List Int) (p : Int → Bool) (hl : l.length ≤ 2000000) : AFn Tryz.prog Γ 215 [.c (.bor 1 (l.map Fc.iD)), .c (.fn (FnSpec Tryz.prog Γ (predI p)))] [.d (.int .i64 (fI p 0 l))] := by
  refine AFn.vc [] Tryz.func215 rfl Tryz.mixed (by kernel_rfl) Tryz.ntmps215 Tryz.results215 (by simp) ?_
  push_cast
  refine LoopV.cnt Tryz.mixed [0, 1, 7] l.length (fun k => [(8, .c (.d (.int .i64 k)))]) (fun k => fI p k (l.drop k) = fI p 0 l) (by simp) ?_ (by push_cast)
  intro k hk hinv
  push_cast
  refine ⟨fun h => ?_, fun h => ?_⟩
  · have hlt : k < l.length := by omega
    refine ⟨hlt, CallL.fn _ _ ⟨l[k], rfl, rfl⟩ ?_⟩
    push_cast
    refine ⟨fun a => ?_, fun a => ⟨by omega, by omega, ?_⟩⟩
    · rw [← hinv, Fc.drop_cons (by omega), fI, if_pos a]
    · rw [← hinv, Fc.drop_cons (show k < l.length by omega), fI, if_neg (by simp [a])]
  · rw [← hinv, List.drop_eq_nil_of_le (by omega)]; rfl
theorem c90 (l : List Str) (Q : Str → Prop) (p : Str → Bool) (hQ : ∀ s ∈ l, Q s) (hl : l.length ≤ 2000000) : RMv Tryz.prog Γ 90 9 1 (l.map Fc.sD) ((l.filter fun x => !p x).map Fc.sD) [.c (.fn (FnSpec Tryz.prog Γ (predS Q p)))] := by
  refine RMv.vcX [] [11] Tryz.func90 rfl Tryz.mixed (by kernel_rfl) Tryz.ntmps90 Tryz.results90 (by simp) sD1_len (by simp [Fc.sD, D.scal]) sD1_len ?_
  push_cast
  refine CallL.q (c150 l Q p hQ hl) ?_ (.cons (ArgOk.own rfl) (.cons ArgOk.fn .nil))
  push_cast
  have hb := fI_bd p l 0
  refine ⟨fun h => ?_, fun h => ?_⟩
  · have hn := fI_none h
    rw [List.filter_eq_self.2 fun x hx => by rw [hn x hx]; rfl]
  · obtain ⟨i, hi⟩ : ∃ i : Nat, fI p 0 l = i := ⟨(fI p 0 l).toNat, by omega⟩
    obtain ⟨h1, h2, h3⟩ := fI_some (l := l) (p := p) (k := 0) (i := i) (by rw [hi, Nat.zero_add])
    rw [hi] at h ⊢
    clear hb
    obtain ⟨hf0, ht0⟩ := Thin.start h1 h2 h3
    have hfl : ((l.take (i + 1)).filter fun x => !p x).length = i := by rw [hf0, List.length_take]; omega
    refine ⟨⟨by omega, by omega⟩, ?_⟩
    refine LoopV.of Tryz.mixed [0, 1] (S := Nat × List Str) (fun s => [(5, .c (.d (.int .i64 (((l.take s.1).filter fun x => !p x).length : Nat)))), (6, .c (.d (.int .i64 (s.1 : Nat))))]) (fun s => [.row 9 1 (s.2.map Fc.sD) 0]) (fun s => Thin p l s.1 s.2) (fun s => l.length - s.1) (i + 1, l) ht0 (by rw [hfl]; push_cast) ?_
    rintro ⟨j, R⟩ ht
    simp only at ht
    push_cast
    have hlen := ht.len
    have hle := ht.le
    refine ⟨fun h4 => ?_, fun h4 => ?_⟩
    · have hjl : j < l.length := by omega
      obtain ⟨hr, he⟩ := ht.at hjl
      refine ⟨h4, hr, ?_⟩
      simp only [he]
      refine CallL.fn _ _ ⟨l[j], hQ _ (List.getElem_mem hjl), rfl, rfl⟩ ?_
      push_cast
      refine ⟨fun h5 => ?_, fun h5 => ?_⟩
      · obtain ⟨k1, k2⟩ := ht.keep hjl h5
        refine ⟨by omega, by omega, ⟨by omega, by omega⟩, ⟨by omega, by omega⟩, (j + 1, R.set ((l.take j).filter fun x => !p x).length l[j]), ⟨k2, by show l.length - (j + 1) < _; omega⟩, ⟨by show (((l.take (j + 1)).filter fun x => !p x).length : Int) = _; rw [k1]; push_cast, by push_cast⟩, ?_⟩
        rw [List.map_set]; rfl
      · obtain ⟨k1, k2⟩ := ht.drop hjl h5
        refine ⟨⟨by omega, by omega⟩, (j + 1, R), ⟨k2, by show l.length - (j + 1) < _; omega⟩, ⟨by show (((l.take (j + 1)).filter fun x => !p x).length : Int) = _; rw [k1], by push_cast⟩, rfl⟩
    · have hjl : j = l.length := by have := ht.jle; omega
      subst hjl
      have hpre := ht.pre
      rw [List.take_length] at hpre hle ⊢
      intro hok
      refine AXc.region ?_
      refine AXl.pre [] 0 3 hok ?_
      push_cast
      refine ⟨⟨by omega, Nat.le_refl _⟩, ?_⟩
      refine AXl.clear (te := 9) (els := R.map Fc.sD) (lo := (l.filter fun x => !p x).length) (n := R.length - (l.filter fun x => !p x).length) (z := .str []) (zv := .string ⟨#[]⟩) Tryz.underlying42 Tryz.zeroValue9 rfl (fun V => Dr.str []) rfl rfl (by rw [List.length_map]; omega) ?_
      refine AXl.nil ?_
      push_cast
      clear hok
      refine ⟨⟨by omega, by omega⟩, ⟨by omega, by omega⟩, ?_⟩
      rw [List.take_append_of_le_length (by rw [List.length_take, List.length_map]; omega), List.take_take, Nat.min_self, ← List.map_take, hpre]
theorem c151 (l : List Int) (p : Int → Bool) (hl : l.length ≤ 2000000) : RMv Tryz.prog Γ 151 3 1 (l.map Fc.iD) ((l.filter fun x => !p x).map Fc.iD) [.c (.fn (FnSpec Tryz.prog Γ (predI p)))] := by
  refine RMv.vcX [] [11] Tryz.func151 rfl Tryz.mixed (by kernel_rfl) Tryz.ntmps151 Tryz.results151 (by simp) iD_len (by simp [Fc.iD, D.scal]) iD_len ?_
  push_cast
  refine CallL.q (c215 l p hl) ?_ (.cons (ArgOk.own rfl) (.cons ArgOk.fn .nil))
  push_cast
  have hb := fI_bd p l 0
  refine ⟨fun h => ?_, fun h => ?_⟩
  · have hn := fI_none h
    rw [List.filter_eq_self.2 fun x hx => by rw [hn x hx]; rfl]
  · obtain ⟨i, hi⟩ : ∃ i : Nat, fI p 0 l = i := ⟨(fI p 0 l).toNat, by omega⟩
    obtain ⟨h1, h2, h3⟩ := fI_some (l := l) (p := p) (k := 0) (i := i) (by rw [hi, Nat.zero_add])
    rw [hi] at h ⊢
    clear hb
    obtain ⟨hf0, ht0⟩ := Thin.start h1 h2 h3
    have hfl : ((l.take (i + 1)).filter fun x => !p x).length = i := by rw [hf0, List.length_take]; omega
    refine ⟨⟨by omega, by omega⟩, ?_⟩
    refine LoopV.of Tryz.mixed [0, 1] (S := Nat × List Int) (fun s => [(5, .c (.d (.int .i64 (((l.take s.1).filter fun x => !p x).length : Nat)))), (6, .c (.d (.int .i64 (s.1 : Nat))))]) (fun s => [.row 3 1 (s.2.map Fc.iD) 0]) (fun s => Thin p l s.1 s.2) (fun s => l.length - s.1) (i + 1, l) ht0 (by rw [hfl]; push_cast) ?_
    rintro ⟨j, R⟩ ht
    simp only at ht
    push_cast
    have hlen := ht.len
    have hle := ht.le
    refine ⟨fun h4 => ?_, fun h4 => ?_⟩
    · have hjl : j < l.length := by omega
      obtain ⟨hr, he⟩ := ht.at hjl
      refine ⟨h4, hr, ?_⟩
      simp only [he]
      refine CallL.fn _ _ ⟨l[j], rfl, rfl⟩ ?_
      push_cast
      refine ⟨fun h5 => ?_, fun h5 => ?_⟩
      · obtain ⟨k1, k2⟩ := ht.keep hjl h5
        refine ⟨by omega, by omega, ⟨by omega, by omega⟩, ⟨by omega, by omega⟩, (j + 1, R.set ((l.take j).filter fun x => !p x).length l[j]), ⟨k2, by show l.length - (j + 1) < _; omega⟩, ⟨by show (((l.take (j + 1)).filter fun x => !p x).length : Int) = _; rw [k1]; push_cast, by push_cast⟩, ?_⟩
        rw [List.map_set]; rfl
      · obtain ⟨k1, k2⟩ := ht.drop hjl h5
        refine ⟨⟨by omega, by omega⟩, (j + 1, R), ⟨k2, by show l.length - (j + 1) < _; omega⟩, ⟨by show (((l.take (j + 1)).filter fun x => !p x).length : Int) = _; rw [k1], by push_cast⟩, rfl⟩
    · have hjl : j = l.length := by have := ht.jle; omega
      subst hjl
      have hpre := ht.pre
      rw [List.take_length] at hpre hle ⊢
      intro hok
      refine AXc.region ?_
      refine AXl.pre [] 0 3 hok ?_
      push_cast
      refine ⟨⟨by omega, Nat.le_refl _⟩, ?_⟩
      refine AXl.clear (te := 3) (els := R.map Fc.iD) (lo := (l.filter fun x => !p x).length) (n := R.length - (l.filter fun x => !p x).length) (z := .int .i64 0) (zv := .int .i64 0) Tryz.underlying43 Tryz.zeroValue3 rfl (fun V => Dr.int .i64 0) rfl rfl (by rw [List.length_map]; omega) ?_
      refine AXl.nil ?_
      push_cast
      clear hok
      refine ⟨⟨by omega, by omega⟩, ⟨by omega, by omega⟩, ?_⟩
      rw [List.take_append_of_le_length (by rw [List.length_take, List.length_map]; omega), List.take_take, Nat.min_self, ← List.map_take, hpre]
end Go.Proofs

/- turned; the closures of Rename and turned. No condition. -/
namespace Go.Proofs
open Go Go.Ax Go.Tx Go.Lib Go.RowKit Go.Fc
set_option maxRecDepth 100000
set_option maxHeartbeats 0
variable {Γ : List (Nat × List D)} {M : Int}
theorem Tryz.callOk153 : CallOk Tryz.prog 153 := ⟨_, Tryz.func153, by kernel_rfl, by kernel_rfl⟩
theorem c152 (n fr : Int) : AFn Tryz.prog Γ 152 [.c (.d (.int .i64 n)), .c (.ptr [.int .i64 fr])] [.d (.bool (decide (n = fr)))] := by
  refine AFn.vc [] Tryz.func152 rfl Tryz.mixed (by kernel_rfl) Tryz.ntmps152 Tryz.results152 (by simp) ?_
  push_cast
theorem c92 (hM : (0, [D.int .i64 M]) ∈ Γ) (v norm : Str) (hv : validF v = true) (hl : v.length ≤ 100000) : AFn Tryz.prog Γ 92 [.c (.d (.str v)), .c (.ptr [.str norm])] [.d (.bool (decide (normF v = norm)))] := by
  refine AFn.vc [] Tryz.func92 rfl Tryz.mixed (by kernel_rfl) Tryz.ntmps92 Tryz.results92 (by simp) ?_
  push_cast
  refine CallX.q (c79 hM v hl hv) ?_
  push_cast
theorem c95 (ids : List Int) (self into fr : Int) (hl : ids.length ≤ 1000000) : AFn Tryz.prog Γ 95 [.c (.d (.lst 1 (ids.map Fc.iD))), .c (.d (.int .i64 self)), .c (.d (.int .i64 into)), .c (.d (.int .i64 fr))] [.d (.lst 1 ((turnL ids self into fr).map Fc.iD))] := by
  generalize hR : turnL ids self into fr = R
  unfold turnL at hR
  refine AFn.vc [] Tryz.func95 rfl Tryz.mixed (by kernel_rfl) Tryz.ntmps95 Tryz.results95 (by simp) ?_
  push_cast
  refine CallL.q (c85 ids fr (by omega)) ?_
  push_cast
  refine ⟨fun h => ?_, fun h => ?_⟩
  · rw [if_neg h] at hR
    rw [hR]
  · rw [if_pos h] at hR
    refine CallL.own (c93 ids (by omega)) ?_
    push_cast
    refine CallL.rmv (j := 1) (ver := 0) (c151 ids (fun x => decide (x = fr)) (by omega)) ?_ (ha := .cons (ArgR.clo (Γ := Γ) (i := 1) (caps := [0]) (F := predI fun x => decide (x = fr)) ⟨_, Tryz.func152, by kernel_rfl, by kernel_rfl⟩ (dss := [[.int .i64 fr]]) rfl (by simp) (fun a r h => by obtain ⟨x, rfl, rfl⟩ := h; exact c152 x fr)) .nil)
    push_cast
    have hfl := List.length_filter_le (fun x => !decide (x = fr)) ids
    generalize hF : ids.filter (fun x => !decide (x = fr)) = F at *
    refine ⟨fun e => ?_, fun e => ?_⟩
    · rw [if_neg e] at hR
      refine ⟨⟨by omega, by omega⟩, ?_⟩
      have hrow : F.map Fc.iD ++ [[.int .i64 into]] = (F ++ [into]).map Fc.iD := by simp [Fc.iD]
      simp only [hrow]
      have hp := (List.mergeSort_perm (F ++ [into]) fun x y => decide (x ≤ y)).length_eq
      refine CallL.rowIn (Tryz.rowSort (F ++ [into]) (by simp; omega)) iD_len rfl Tryz.callOk84 ?_
      push_cast
      refine CallL.row (Tryz.rowCompact _ (by rw [hp]; simp; omega)) iD_len rfl Tryz.callOk153 ?_
      push_cast
      rw [hR]
    · rw [if_pos e, List.append_nil] at hR
      have hp := (List.mergeSort_perm F fun x y => decide (x ≤ y)).length_eq
      refine CallL.rowIn (Tryz.rowSort F (by omega)) iD_len rfl Tryz.callOk84 ?_
      push_cast
      refine CallL.row (Tryz.rowCompact _ (by rw [hp]; omega)) iD_len rfl Tryz.callOk153 ?_
      push_cast
      rw [hR]
end Go.Proofs

/- Rename. No condition. -/
namespace Go.Proofs
open Go Go.Ax Go.Tx Go.Lib Go.RowKit Go.Fc
set_option maxRecDepth 100000
set_option maxHeartbeats 0
variable {Γ : List (Nat × List D)} {M : Int}
def tab39 : List (List Bool × List Nat) := [([false, false, false, false, false, false, false, false, false, false, false, false, false, false], [0, 1, 5]), ([true, false, false, false, false, false, false, false, false, false, false, false, false, false], [1, 5]), ([false, true, false, false, false, false, false, false, false, false, false, false, false, false], [0, 2, 5]), ([false, false, false, false, false, true, false, false, false, false, false, false, false, false], [0, 1, 6]), ([true, true, false, false, false, false, false, false, false, false, false, false, false, false], [2, 5]), ([true, false, false, false, false, true, false, false, false, false, false, false, false, false], [1, 6]), ([false, true, true, false, false, false, false, false, false, false, false, false, false, false], [0, 3, 5]), ([false, true, false, false, false, true, false, false, false, false, false, false, false, false], [0, 2, 6]), ([false, false, false, false, false, true, true, false, false, false, false, false, false, false], [0, 1, 7]), ([true, true, true, false, false, false, false, false, false, false, false, false, false, false], [3, 5]), ([true, true, false, false, false, true, false, false, false, false, false, false, false, false], [2, 6]), ([true, false, false, false, false, true, true, false, false, false, false, false, false, false], [1, 7]), ([false, true, true, true, false, false, false, false, false, false, false, false, false, false], [0, 4, 5]), ([false, true, true, false, false, true, false, false, false, false, false, false, false, false], [0, 3, 6]), ([false, true, false, false, false, true, true, false, false, false, false, false, false, false], [0, 2, 7]), ([false, false, false, false, false, true, true, true, false, false, false, false, false, false], [0, 1, 8]), ([true, true, true, true, false, false, false, false, false, false, false, false, false, false], [4, 5]), ([true, true, true, false, false, true, false, false, false, false, false, false, false, false], [3, 6]), ([true, true, false, false, false, true, true, false, false, false, false, false, false, false], [2, 7]), ([true, false, false, false, false, true, true, true, false, false, false, false, false, false], [1, 8]), ([false, true, true, true, true, false, false, false, false, false, false, false, false, false], [0, 5]), ([false, true, true, true, false, true, false, false, false, false, false, false, false, false], [0, 4, 6]), ([false, true, true, false, false, true, true, false, false, false, false, false, false, false], [0, 3, 7]), ([false, true, false, false, false, true, true, true, false, false, false, false, false, false], [0, 2, 8]), ([false, false, false, false, false, true, true, true, true, false, false, false, false, false], [0, 1, 9]), ([true, true, true, true, true, false, false, false, false, false, false, false, false, false], [5]), ([true, true, true, true, false, true, false, false, false, false, false, false, false, false], [4, 6]), ([true, true, true, false, false, true, true, false, false, false, false, false, false, false], [3, 7]), ([true, true, false, false, false, true, true, true, false, false, false, false, false, false], [2, 8]), ([true, false, false, false, false, true, true, true, true, false, false, false, false, false], [1, 9]), ([false, true, true, true, true, true, false, false, false, false, false, false, false, false], [0, 6]), ([false, true, true, true, false, true, true, false, false, false, false, false, false, false], [0, 4, 7]), ([false, true, true, false, false, true, true, true, false, false, false, false, false, false], [0, 3, 8]), ([false, true, false, false, false, true, true, true, true, false, false, false, false, false], [0, 2, 9]), ([false, false, false, false, false, true, true, true, true, true, false, false, false, false], [0, 1]), ([true, true, true, true, true, true, false, false, false, false, false, false, false, false], [6]), ([true, true, true, true, false, true, true, false, false, false, false, false, false, false], [4, 7]), ([true, true, true, false, false, true, true, true, false, false, false, false, false, false], [3, 8]), ([true, true, false, false, false, true, true, true, true, false, false, false, false, false], [2, 9]), ([true, false, false, false, false, true, true, true, true, true, false, false, false, false], [1]), ([false, true, true, true, true, true, true, false, false, false, false, false, false, false], [0, 7]), ([false, true, true, true, false, true, true, true, false, false, false, false, false, false], [0, 4, 8]), ([false, true, true, false, false, true, true, true, true, false, false, false, false, false], [0, 3, 9]), ([false, true, false, false, false, true, true, true, true, true, false, false, false, false], [0, 2]), ([true, true, true, true, true, true, true, false, false, false, false, false, false, false], [7]), ([true, true, true, true, false, true, true, true, false, false, false, false, false, false], [4, 8]), ([true, true, true, false, false, true, true, true, true, false, false, false, false, false], [3, 9]), ([true, true, false, false, false, true, true, true, true, true, false, false, false, false], [2]), ([false, true, true, true, true, true, true, true, false, false, false, false, false, false], [0, 8]), ([false, true, true, true, false, true, true, true, true, false, false, false, false, false], [0, 4, 9]), ([false, true, true, false, false, true, true, true, true, true, false, false, false, false], [0, 3]), ([true, true, true, true, true, true, true, true, false, false, false, false, false, false], [8]), ([true, true, true, true, false, true, true, true, true, false, false, false, false, false], [4, 9]), ([true, true, true, false, false, true, true, true, true, true, false, false, false, false], [3]), ([false, true, true, true, true, true, true, true, true, false, false, false, false, false], [0, 9]), ([false, true, true, true, false, true, true, true, true, true, false, false, false, false], [0, 4]), ([true, true, true, true, true, true, true, true, true, false, false, false, false, false], [9]), ([true, true, true, true, false, true, true, true, true, true, false, false, false, false], [4]), ([false, true, true, true, true, true, true, true, true, true, false, false, false, false], [0, 10]), ([true, true, true, true, true, true, true, true, true, true, false, false, false, false], [10]), ([false, true, true, true, true, true, true, true, true, true, true, false, false, false], [0]), ([true, true, true, true, true, true, true, true, true, true, true, false, false, false], [11]), ([true, true, true, true, true, true, true, true, true, true, true, true, false, false], [12]), ([true, true, true, true, true, true, true, true, true, true, true, true, true, false], [13]), ([true, true, true, true, true, true, true, true, true, true, true, true, true, true], [])]
theorem c39 (h2 : (2, firstD) ∈ Γ) (h3 : (3, acceptD) ∈ Γ) (hM : (0, [D.int .i64 M]) ∈ Γ) (l : List Au) (hl : l.length ≤ 2000000) (id : Int) (s : Str) (h1 : s.length ≤ 100000) (hv : validF s = true) (hs : ∀ a ∈ l, a.see.length ≤ 1000000 ∧ ∀ t ∈ headsA a, t.length ≤ 100000 ∧ validF t = true) (hb : 0 ≤ placeP l id → AuB (renL l id s)) : AFn Tryz.prog Γ 39 [.c (.d (.lst 5 (l.map Au.ds))), .c (.d (.int .i64 id)), .c (.d (.str s))] [.d (.lst 5 ((renameP l id s).1.map Au.ds)), .d (.int .i64 (renameP l id s).2)] := by
  generalize hR : renameP l id s = R
  unfold renameP at hR
  have hbd := fI_bd (fun a => decide (a.id = id)) l 0
  refine AFn.vc [1000009] Tryz.func39 rfl Tryz.mixed (by kernel_rfl) Tryz.ntmps39 Tryz.results39 (by simp) ?_
  push_cast
  refine CallL.q (c78 l id hl) ?_
  push_cast
  rw [show fI (fun a => decide (a.id = id)) 0 l = placeP l id from rfl] at *
  refine ⟨fun h => ?_, fun h => ?_⟩
  · rw [if_pos h] at hR
    rw [← hR]
    exact ⟨rfl, rfl⟩
  · rw [if_neg (by omega)] at hR
    have hb := hb h
    unfold renL at hR hb
    obtain ⟨p, hp⟩ : ∃ p : Nat, placeP l id = p := ⟨(placeP l id).toNat, by omega⟩
    rw [hp] at hR hbd hb ⊢
    rw [Int.toNat_natCast] at hR hb
    have hlt : p < l.length := by omega
    obtain ⟨hs1, hs2⟩ := hs _ (List.getElem_mem hlt)
    refine CallL.own (c88 l hl) ?_
    push_cast
    refine ⟨by omega, ?_⟩
    refine CallL.fwF _ (Fw.openRow (i := 0) (kk := p) rfl (by simpa using hlt)) ?_
    simp only [List.getElem_map]
    have hds : l[p].ds.map C.d = [.d (.int .i64 l[p].id), .d (.int .i64 l[p].kind), .d (.str l[p].hd), .d (.lst 1 (l[p].see.map Fc.sD)), .d (.lst 1 (l[p].above.map Fc.iD))] := rfl
    rw [hds]
    push_cast
    refine CallL.q (c79 hM s h1 hv) ?_
    push_cast
    refine CallL.own (c91 l[p].see (by omega)) ?_
    push_cast
    refine CallL.rmv (j := 2) (ver := 0) (c90 l[p].see (fun v => v.length ≤ 100000 ∧ validF v = true) (fun v => decide (normF v = normF s)) (fun v hv => hs2 v (by simp [headsA, hv])) (by omega)) ?_ (ha := .cons (ArgR.clo (Γ := Γ) (i := 2) (caps := [1]) (F := predS (fun v => v.length ≤ 100000 ∧ validF v = true) (fun v => decide (normF v = normF s))) ⟨_, Tryz.func92, by kernel_rfl, by kernel_rfl⟩ (dss := [[.str (normF s)]]) rfl (by simp) (fun a r h => by obtain ⟨x, ⟨q1, q2⟩, rfl, rfl⟩ := h; exact c92 hM x (normF s) q2 q1)) .nil)
    push_cast
    obtain ⟨hh1, hh2⟩ := hs2 l[p].hd (by simp [headsA])
    refine CallX.q (c79 hM l[p].hd hh1 hh2) ?_
    push_cast
    have hfl := List.length_filter_le (fun x => !decide (normF x = normF s)) l[p].see
    have hren : renA s l[p] = { l[p] with hd := s, see := (l[p].see.filter fun x => !decide (normF x = normF s)) ++ if normF l[p].hd = normF s then [] else [l[p].hd] } := rfl
    have hset : ∀ see : List Str, (renA s l[p]).see = see → (l.map Au.ds).set p [.int .i64 l[p].id, .int .i64 l[p].kind, .str s, .lst 1 (see.map Fc.sD), .lst 1 (l[p].above.map Fc.iD)] = (l.modify p (renA s)).map Au.ds := fun see he => by
      apply List.ext_getElem
      · simp
      · intro j h1 h2
        simp only [List.getElem_set, List.getElem_map, List.getElem_modify]
        by_cases e : p = j
        · subst e
          subst he
          simp only [if_true]
          rfl
        · simp [e]
    have hR1 : R.1 = (chkP (l.modify p (renA s))).1 := by rw [hR]
    have hR2 : R.2 = (chkP (l.modify p (renA s))).2 := by rw [hR]
    generalize hF : l[p].see.filter (fun x => !decide (normF x = normF s)) = F at *
    refine ⟨fun e => ?_, fun e => ?_⟩
    · rw [if_neg e] at hren
      have hap : F.map Fc.sD ++ [[.str l[p].hd]] = (F ++ [l[p].hd]).map Fc.sD := by simp [Fc.sD]
      refine RegV.tab (E := [1000009]) Tryz.mixed tab39 [some (40, AV.c (.rowp 0 0 5 p 0)), some (41, AV.c (.rowp 0 0 5 p 0)), some (42, AV.c (.rowp 0 0 5 p 0)), some (43, AV.c (.rowp 0 0 5 p 3)), some (44, .c (.own 2 1)), some (45, AV.c (.rowp 0 0 5 p 0)), some (46, AV.c (.rowp 0 0 5 p 0)), some (47, AV.c (.rowp 0 0 5 p 2)), some (48, .c (.d (.str l[p].hd))), some (49, .c (.d (.lst 1 [[.str l[p].hd]]))), some (50, .c (.own 2 2)), some (51, AV.c (.rowp 0 0 5 p 0)), some (52, AV.c (.rowp 0 0 5 p 3)), none]
        [none, none, none, none, none, none, none, none, none, none, some [.opn 45 5 (l.map Au.ds) p [.d (.int .i64 l[p].id), .d (.int .i64 l[p].kind), .d (.str l[p].hd), .own 2 1, .d (.lst 1 (l[p].above.map Fc.iD))] 0, .box 9 [.d (.str (normF s))], .row 9 1 ((F ++ [l[p].hd]).map Fc.sD) 2], none, none, some [.opn 45 5 (l.map Au.ds) p [.d (.int .i64 l[p].id), .d (.int .i64 l[p].kind), .d (.str l[p].hd), .own 2 2, .d (.lst 1 (l[p].above.map Fc.iD))] 0, .box 9 [.d (.str (normF s))], .row 9 1 ((F ++ [l[p].hd]).map Fc.sD) 2]] (by kernel_rfl) (by kernel_rfl) rfl ?_ ?_
      · push_cast [tab39, hap]
        repeat' (first | refine And.intro ?_ ?_ | omega | exact rfl)
      · push_cast
        refine CallL.fwF _ ((Fw.freezeOpn 0 3 (i := 2) rfl rfl rfl).trans (Fw.closeRow (i := 0) (kk := p) (ds := [.int .i64 l[p].id, .int .i64 l[p].kind, .str s, .lst 1 ((F ++ [l[p].hd]).map Fc.sD), .lst 1 (l[p].above.map Fc.iD)]) rfl)) ?_
        push_cast
        rw [hset (F ++ [l[p].hd]) (by rw [hren])]
        refine CallL.frm [] [(57, .c (.d (.lst 5 ((l.modify p (renA s)).map Au.ds))))] [] ?_ ?_
        · push_cast
        push_cast
        refine CallL.q (c86 h2 h3 hM (l.modify p (renA s)) hb) ?_
        push_cast
        rw [hR1, hR2]
        exact ⟨rfl, rfl⟩
    · rw [if_pos e] at hren
      refine CallL.fwF _ ((Fw.freezeOpn 0 3 (i := 2) rfl rfl rfl).trans (Fw.closeRow (i := 0) (kk := p) (ds := [.int .i64 l[p].id, .int .i64 l[p].kind, .str s, .lst 1 ((F).map Fc.sD), .lst 1 (l[p].above.map Fc.iD)]) rfl)) ?_
      push_cast
      rw [hset (F) (by rw [hren]; exact List.append_nil _)]
      refine CallL.frm [] [(57, .c (.d (.lst 5 ((l.modify p (renA s)).map Au.ds))))] [] ?_ ?_
      · push_cast
      push_cast
      refine CallL.q (c86 h2 h3 hM (l.modify p (renA s)) hb) ?_
      push_cast
      rw [hR1, hR2]
      exact ⟨rfl, rfl⟩
end Go.Proofs
