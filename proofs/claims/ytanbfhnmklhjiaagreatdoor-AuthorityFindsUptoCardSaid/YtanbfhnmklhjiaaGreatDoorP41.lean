/- Part of a proof about this program; no condition of its own. -/
import Derived.Test.YtanbfhnmklhjiaaGreatDoorP40
set_option linter.all false
/- The statements on authorities: Keeps. No condition. -/
namespace Go.Fc
open Go Go.Ax Go.Tx Go.Proofs
theorem SmB.ins {l : List Au} {a : Au} (h : SmB l) (hl : l.length ≤ 30) (hs : smallA a = true) (hi : AbI a) : SmB (insL l a) := by
  have hlow : lowA l a.id ≤ l.length := List.findIdx_le_length
  have key : ∀ b ∈ insL l a, b = a ∨ b ∈ l := fun b hb => by
    unfold insL at hb
    simp only [List.mem_append, List.mem_singleton] at hb
    rcases hb with (hb | hb) | hb
    · exact .inr (List.mem_of_mem_take hb)
    · exact .inl hb
    · exact .inr (List.mem_of_mem_drop hb)
  obtain ⟨s1, s2, s3⟩ := small_one hs
  refine ⟨?_, fun b hb => ?_, fun b hb => ?_, fun b hb s hss => ?_, fun b hb => ?_⟩
  · unfold insL
    simp only [List.length_append, List.length_take, List.length_drop, List.length_singleton]
    omega
  · rcases key b hb with rfl | hb
    · omega
    · exact h.see b hb
  · rcases key b hb with rfl | hb
    · omega
    · exact h.ab b hb
  · rcases key b hb with rfl | hb
    · have := s3 s hss; omega
    · exact h.hd b hb s hss
  · rcases key b hb with rfl | hb
    · exact hi
    · exact h.abi b hb
theorem mod_mem {l : List Au} {p : Nat} {f : Au → Au} {b : Au} (hb : b ∈ l.modify p f) : b ∈ l ∨ ∃ a ∈ l, b = f a := by
  obtain ⟨i, hi, rfl⟩ := List.mem_iff_getElem.1 hb
  rw [List.length_modify] at hi
  rw [List.getElem_modify]
  split
  · exact .inr ⟨_, List.getElem_mem hi, rfl⟩
  · exact .inl (List.getElem_mem hi)
theorem SmB.ren {l : List Au} {id : Int} {s : Str} (h : SmB l) (hsee : ∀ a ∈ l, a.see.length ≤ 11) (hs : s.length ≤ 260) : SmB (renL l id s) := by
  have hse : ∀ a ∈ l, ∀ t ∈ (renA s a).see, t ∈ headsA a := fun a _ t ht => by
    unfold renA at ht
    simp only [List.mem_append, List.mem_filter] at ht
    rcases ht with ht | ht
    · exact List.mem_cons_of_mem _ ht.1
    · split at ht
      · cases ht
      · rw [List.mem_singleton.1 ht]; exact List.mem_cons_self
  refine ⟨by unfold renL; rw [List.length_modify]; exact h.n, fun b hb => ?_, fun b hb => ?_, fun b hb t ht => ?_, fun b hb => ?_⟩ <;> rcases mod_mem hb with hb | ⟨a, ha, rfl⟩
  · exact h.see b hb
  · have h1 := hsee a ha
    have h2 := List.length_filter_le (fun v => !decide (normF v = normF s)) a.see
    show (renA s a).see.length ≤ 40
    unfold renA
    simp only [List.length_append]
    split <;> simp <;> omega
  · exact h.ab b hb
  · exact h.ab a ha
  · exact h.hd b hb t ht
  · rcases List.mem_cons.1 ht with e | ht
    · have e : t = s := e
      rw [e]; omega
    · exact h.hd a ha t (hse a ha t ht)
  · exact h.abi b hb
  · exact h.abi a ha
theorem SmB.set {l : List Au} {id : Int} {ab : List Int} (h : SmB l) (hl : ab.length ≤ 20) (hi : ∀ x ∈ ab, -9223372036854775808 ≤ x ∧ x ≤ 9223372036854775807) : SmB (setL l id ab) := by
  refine ⟨by unfold setL; rw [List.length_modify]; exact h.n, fun b hb => ?_, fun b hb => ?_, fun b hb t ht => ?_, fun b hb => ?_⟩ <;> rcases mod_mem hb with hb | ⟨a, ha, rfl⟩
  · exact h.see b hb
  · exact h.see a ha
  · exact h.ab b hb
  · exact hl
  · exact h.hd b hb t ht
  · exact h.hd a ha t ht
  · exact h.abi b hb
  · exact hi
theorem turnL_len (ids : List Int) (self into fr : Int) : (turnL ids self into fr).length ≤ ids.length + 1 := by
  unfold turnL
  split
  · have h1 := Lib.compact_length_le (((ids.filter fun x => !decide (x = fr)) ++ if self = into then [] else [into]).mergeSort fun x y => decide (x ≤ y))
    rw [List.length_mergeSort, List.length_append] at h1
    have h2 := List.length_filter_le (fun x => !decide (x = fr)) ids
    have h3 : (if self = into then ([] : List Int) else [into]).length ≤ 1 := by split <;> simp
    omega
  · omega
theorem compact_mem (l : List Int) (x : Int) (h : x ∈ Lib.compact l) : x ∈ l := by
  unfold Lib.compact Lib.compactUpTo at h
  obtain ⟨i, hi, rfl⟩ := List.mem_map.1 h
  have hi := List.mem_range.1 (List.mem_filter.1 hi).1
  rw [getElem!_pos l.toArray i (by simpa using hi)]
  simp
theorem turnL_mem {ids : List Int} {self into fr x : Int} (h : x ∈ turnL ids self into fr) : x = into ∨ x ∈ ids := by
  unfold turnL at h
  split at h
  · have h := compact_mem _ _ h
    rw [(List.mergeSort_perm _ _).mem_iff, List.mem_append] at h
    rcases h with h | h
    · exact .inr (List.mem_filter.1 h).1
    · split at h
      · cases h
      · exact .inl (List.mem_singleton.1 h)
  · exact .inr h
theorem SmB.mer {l : List Au} {b : Au} {into fr : Int} (h : SmB l) (hsee : ∀ a ∈ l, a.see.length ≤ 11 ∧ a.above.length ≤ 8) (hb : b.see.length ≤ 11 ∧ ∀ s ∈ headsA b, s.length ≤ 2000) (hi : -9223372036854775808 ≤ into ∧ into ≤ 9223372036854775807) : SmB (merL l b into fr) := by
  have key : ∀ x ∈ merL l b into fr, ∃ a ∈ l, x = merA b into fr a := fun x hx => by
    unfold merL at hx
    obtain ⟨a, ha, rfl⟩ := List.mem_map.1 hx
    exact ⟨a, (List.mem_filter.1 ha).1, rfl⟩
  refine ⟨?_, fun x hx => ?_, fun x hx => ?_, fun x hx t ht => ?_, fun x hx => ?_⟩
  · unfold merL
    rw [List.length_map]
    have := List.length_filter_le (fun x : Au => !decide (x.id = fr)) l
    have := h.n
    omega
  all_goals obtain ⟨a, ha, rfl⟩ := key x hx
  · have := hsee a ha
    show (if a.id = into then a.see ++ headsA b else a.see).length ≤ 40
    split
    · rw [List.length_append]; simp only [headsA, List.length_cons]; omega
    · omega
  · have := hsee a ha
    have := turnL_len a.above a.id into fr
    show (turnL a.above a.id into fr).length ≤ 20
    omega
  · rcases List.mem_cons.1 ht with rfl | ht
    · exact h.hd a ha _ List.mem_cons_self
    · have ht : t ∈ (if a.id = into then a.see ++ headsA b else a.see) := ht
      split at ht
      · rcases List.mem_append.1 ht with ht | ht
        · exact h.hd a ha t (List.mem_cons_of_mem _ ht)
        · exact hb.2 t ht
      · exact h.hd a ha t (List.mem_cons_of_mem _ ht)
  · intro y hy
    rcases turnL_mem hy with rfl | hy
    · exact hi
    · exact h.abi a ha y hy
theorem chk_fst {l : List Au} (h : (chkP l).2 = 0) : (chkP l).1 = l := by rw [(chk_ok h).1]
theorem add_fst {l : List Au} {a : Au} (h : (addF l a).2 = 0) : (addF l a).1 = insL l a := by
  unfold addF at *
  split at h
  · exact absurd h (by decide)
  · next e => rw [if_neg e]; exact chk_fst h
theorem ren_fst {l : List Au} {id : Int} {s : Str} (h : (renameP l id s).2 = 0) : (renameP l id s).1 = renL l id s := by
  unfold renameP at *
  split at h
  · exact absurd h (by decide)
  · next e => rw [if_neg e]; exact chk_fst h
theorem set_fst {l : List Au} {id : Int} {ab : List Int} (h : (setAboveP l id ab).2 = 0) : (setAboveP l id ab).1 = setL l id ab := by
  unfold setAboveP at *
  split at h
  · exact absurd h (by decide)
  · next e => rw [if_neg e]; exact chk_fst h
theorem mer_fst {l : List Au} {into fr : Int} (h : (mergeP l into fr).2 = 0) : (mergeP l into fr).1 = merL l ((getA l fr).getD default) into fr := by
  unfold mergeP at *
  split at h
  · next e =>
    rw [if_pos e]
    split at h
    · exact absurd h (by decide)
    · next e2 => rw [if_neg e2]; exact chk_fst h
  · exact absurd h (by decide)
end Go.Fc
namespace Go.Proofs
open Go Go.Ax Go.Tx Go.Lib Go.RowKit Go.Fc
set_option maxRecDepth 100000
set_option maxHeartbeats 0
variable {Γ : List (Nat × List D)} {M : Int}
theorem c9 (h2 : (2, firstD) ∈ Γ) (h3 : (3, acceptD) ∈ Γ) (hM : (0, [D.int .i64 M]) ∈ Γ) (l : List Au) (ha : AuSm2 l) (hi : ∀ a ∈ l, AbI a) (a : Au) (hsa : a.see.length ≤ 2000000 ∧ ∀ s ∈ headsA a, s.length ≤ 2000000) (hia : AbI a) (into fr : Int) (hin : -9223372036854775808 ≤ into ∧ into ≤ 9223372036854775807) : AFn Tryz.prog Γ 9 [.c (.d (.lst 5 (l.map Au.ds))), .agg (a.ds.map C.d), .c (.d (.int .i64 into)), .c (.d (.int .i64 fr))] [.d (.bool true)] := by
  refine AFn.vc [] Tryz.func9 rfl Tryz.mixed (by kernel_rfl) Tryz.ntmps9 Tryz.results9 (by simp) ?_
  push_cast
  refine CallL.q (c24 h2 h3 hM) ?_
  push_cast
  refine CallL.q (c26 l ha.see) ?_
  push_cast
  intro g1
  refine CallL.q (c26 [a] (fun x hx => by rw [List.mem_singleton.1 hx]; exact hsa.1)) ?_
  push_cast
  intro g2
  refine CallL.q (c25 a.hd (by have := hsa.2 a.hd (by simp [headsA]); omega)) ?_
  push_cast
  intro g3
  have hB := small_b g1 hi
  have hl30 : l.length ≤ 30 := by unfold smallAs at g1; simp at g1; omega
  have hall : ∀ x ∈ l, smallA x = true := fun x hx => by
    unfold smallAs at g1
    simp only [Bool.and_eq_true, decide_eq_true_eq, List.all_eq_true] at g1
    exact g1.2 x hx
  have hone : smallA a = true := by
    unfold smallAs at g2
    simp only [Bool.and_eq_true, decide_eq_true_eq, List.all_eq_true] at g2
    exact g2.2 a (by simp)
  obtain ⟨s1, s2, s3⟩ := small_one hone
  refine CallL.q (c33 h2 h3 hM l hB.auB) ?_
  push_cast
  intro g4
  have hBi := hB.ins hl30 hone hia
  refine CallL.q (c37 h2 h3 hM l (by omega) a hBi.auB) ?_
  push_cast
  have hadd : (addF l a).2 = 0 → (addF l a).1 = insL l a ∧ rightP (insL l a) = 0 ∧ removeP (insL l a) a.id = (l, 0) := fun e => by
    obtain ⟨x, e1, e2, e3⟩ := add_remove g4 e
    have e4 := add_fst e
    rw [e1] at e4
    have e4 : x = insL l a := e4
    rw [e1]
    subst e4
    exact ⟨rfl, e2, e3⟩
  generalize addF l a = F at *
  have hgetB : ∀ id, ((getA l id).getD default).see.length ≤ 11 ∧ ∀ s ∈ headsA ((getA l id).getD default), s.length ≤ 2000 := fun id => by
    cases hg : getA l id with
    | none => exact ⟨by show ([] : List Str).length ≤ _; simp, fun s hs => by
        have hs : s ∈ [([] : Str)] := hs
        rw [List.mem_singleton.1 hs]; simp⟩
    | some b =>
      obtain ⟨q1, q2, q3⟩ := small_one (hall b (getA_mem hg).1)
      exact ⟨q1, fun s hs => by have := q3 s hs; omega⟩
  have hgetF : ∀ id, (-9223372036854775808 ≤ ((getA l id).getD default).kind ∧ ((getA l id).getD default).kind ≤ 9223372036854775807) ∧ ∀ s ∈ headsA ((getA l id).getD default), s.length ≤ 100000 ∧ validF s = true := fun id => by
    cases hg : getA l id with
    | none => exact ⟨by show (_ : Int) ≤ (default : Au).kind ∧ (default : Au).kind ≤ _; exact ⟨by decide, by decide⟩, fun s hs => by
        have hs : s ∈ [([] : Str)] := hs
        rw [List.mem_singleton.1 hs]; exact ⟨by simp, rfl⟩⟩
    | some b => exact ((forms_fit hB (rightP_ok g4).2.1) b (getA_mem hg).1).2
  have hBr := hB.ren (id := into) (s := a.hd) (fun x hx => (small_one (hall x hx)).1) (s3 a.hd (by simp [headsA]))
  have hBs := hB.set (id := into) (ab := a.above) (by omega) hia
  have hBm := hB.mer (b := (getA l fr).getD default) (into := into) (fr := fr) (fun x hx => ⟨(small_one (hall x hx)).1, (small_one (hall x hx)).2.1⟩) (hgetB fr) hin
  have hk := rename_keeps (l := l) (id := into) (s := a.hd)
  have hk1 := ren_fst (l := l) (id := into) (s := a.hd)
  have hm := merge_keeps (into := into) (fr := fr) g4
  have hm1 := mer_fst (l := l) (into := into) (fr := fr)
  have hsk := set_keeps (l := l) (id := into) (ab := a.above)
  have hs1 := set_fst (l := l) (id := into) (ab := a.above)
  have hfit := forms_fit hB (rightP_ok g4).2.1
  have w39 := c39 (Γ := Γ) h2 h3 hM l (by omega) into a.hd (by have := s3 a.hd (by simp [headsA]); omega) g3 (fun x hx => ⟨by have := (small_one (hall x hx)).1; omega, (hfit x hx).2.2⟩) (fun _ => hBr.auB)
  have w41 := c41 (Γ := Γ) h2 h3 hM l (by omega) into a.above (by omega) (fun _ => hBs.auB)
  have w42 := c42 (Γ := Γ) h2 h3 hM l (by omega) into fr (fun x hx => ⟨by have := (small_one (hall x hx)).1; omega, by have := (small_one (hall x hx)).2.1; omega⟩) hBm.auB
  generalize renameP l into a.hd = RN at *
  generalize setAboveP l into a.above = SA at *
  generalize mergeP l into fr = MG at *
  refine ⟨fun e => ?_, fun e => ?_⟩
  · obtain ⟨f1, f2, f3⟩ := hadd e
    rw [f1]
    have w38 := c38 (Γ := Γ) (insL l a) (by have := hBi.n; omega) a.id (fun x hx => by have := hBi.ab x hx; omega)
    rw [f3] at w38
    refine CallL.q w38 ?_
    push_cast
    have w33 := c33 (Γ := Γ) h2 h3 hM (insL l a) hBi.auB
    rw [f2] at w33
    refine CallL.q w33 ?_
    push_cast
    have w32 := c32 (Γ := Γ) l l (by omega) (fun x hx => by have := hB.see x hx; have := hB.ab x hx; omega) (fun x hx => by have := hB.see x hx; have := hB.ab x hx; omega)
    rw [decide_eq_true rfl] at w32
    refine CallL.q w32 ?_
    push_cast
    refine CallL.q (c28 l into (by omega)) ?_
    push_cast
    refine CallL.q (c28 l fr (by omega)) ?_
    push_cast
    have hA1 := hgetF into
    have hA2 := hgetF fr
    have hA3 := hgetB into
    have hA4 := hgetB fr
    generalize gA : (getA l into).getD default = A at *
    generalize gB : (getA l fr).getD default = B at *
    refine CallL.q w39 ?_
    push_cast
    refine ⟨fun e1 => ?_, fun e1 => ?_⟩
    · obtain ⟨x, k1, k2, k3, k4⟩ := hk e1
      have k5 := hk1 e1
      rw [k1] at k5
      have k5 : x = renL l into a.hd := k5
      rw [k1]
      subst k5
      have hxn := hBr.n
      have hxok := rightP_ok k2
      push_cast
      refine CallL.q (c28 (renL l into a.hd) into (by omega)) ?_
      push_cast
      generalize (getA (renL l into a.hd) into).getD default = N at *
      have w33 := c33 (Γ := Γ) h2 h3 hM (renL l into a.hd) hBr.auB
      rw [k2] at w33
      refine CallL.q w33 ?_
      push_cast
      have w40 := c40 (Γ := Γ) hM (renL l into a.hd) (by omega) hxok.2.2.1 (forms_fit hBr hxok.2.1) { A with see := [] } hA1.1 (by simp) (fun s hs => hA1.2 s (by
        have hs : s ∈ [A.hd] := hs
        rw [List.mem_singleton.1 hs]; exact List.mem_cons_self)) into
      rw [k3] at w40
      refine CallL.q w40 ?_ (.cons ArgOk.d (.cons (ArgOk.aggn rfl (.cons (.refl _) (.cons (.refl _) (.cons (.refl _) (.cons (.nil _) (.cons (.refl _) .nil)))))) (.cons ArgOk.d .nil)))
      push_cast
      refine ⟨fun e => absurd k4 e, fun _ => ?_⟩
      refine CallL.q w41 ?_
      push_cast
      refine ⟨fun e2 => ?_, fun e2 => ?_⟩
      · obtain ⟨y, m1, m2⟩ := hsk e2
        have m3 := hs1 e2
        rw [m1] at m3
        have m3 : y = setL l into a.above := m3
        rw [m1]
        subst m3
        push_cast
        have w33 := c33 (Γ := Γ) h2 h3 hM (setL l into a.above) hBs.auB
        rw [m2] at w33
        refine CallL.q w33 ?_
        push_cast
        refine CallL.q (c28 l into (by omega)) ?_
        push_cast
        rw [gA]
        push_cast
        refine CallL.q w42 ?_
        push_cast
        intro e3
        obtain ⟨z, n1, n2, n3, n4, n5⟩ := hm e3
        have n6 := hm1 e3
        rw [n1] at n6
        have n6 : z = merL l B into fr := n6
        rw [n1]
        subst n6
        push_cast
        have hmn := hBm.n
        have hmok := rightP_ok n2
        have w33' := c33 (Γ := Γ) h2 h3 hM (merL l B into fr) hBm.auB
        rw [n2] at w33'
        refine CallL.q w33' ?_
        push_cast
        have hmf := forms_fit hBm hmok.2.1
        have w40a := c40 (Γ := Γ) hM (merL l B into fr) (by omega) hmok.2.2.1 hmf A hA1.1 (by omega) hA1.2 into
        rw [n4] at w40a
        have w40b := c40 (Γ := Γ) hM (merL l B into fr) (by omega) hmok.2.2.1 hmf B hA2.1 (by omega) hA2.2 into
        rw [n5] at w40b
        refine ⟨⟨by omega, by omega⟩, fun _ => ?_, fun e => absurd n3 (by omega)⟩
        refine CallL.q w40a ?_
        push_cast
        refine CallL.q w40b ?_
        push_cast
      · refine CallL.q (c28 l into (by omega)) ?_
        push_cast
        rw [gA]
        push_cast
        refine CallL.q w42 ?_
        push_cast
        intro e3
        obtain ⟨z, n1, n2, n3, n4, n5⟩ := hm e3
        have n6 := hm1 e3
        rw [n1] at n6
        have n6 : z = merL l B into fr := n6
        rw [n1]
        subst n6
        push_cast
        have hmn := hBm.n
        have hmok := rightP_ok n2
        have w33' := c33 (Γ := Γ) h2 h3 hM (merL l B into fr) hBm.auB
        rw [n2] at w33'
        refine CallL.q w33' ?_
        push_cast
        have hmf := forms_fit hBm hmok.2.1
        have w40a := c40 (Γ := Γ) hM (merL l B into fr) (by omega) hmok.2.2.1 hmf A hA1.1 (by omega) hA1.2 into
        rw [n4] at w40a
        have w40b := c40 (Γ := Γ) hM (merL l B into fr) (by omega) hmok.2.2.1 hmf B hA2.1 (by omega) hA2.2 into
        rw [n5] at w40b
        refine ⟨⟨by omega, by omega⟩, fun _ => ?_, fun e => absurd n3 (by omega)⟩
        refine CallL.q w40a ?_
        push_cast
        refine CallL.q w40b ?_
        push_cast
    · refine CallL.q w41 ?_
      push_cast
      refine ⟨fun e2 => ?_, fun e2 => ?_⟩
      · obtain ⟨y, m1, m2⟩ := hsk e2
        have m3 := hs1 e2
        rw [m1] at m3
        have m3 : y = setL l into a.above := m3
        rw [m1]
        subst m3
        push_cast
        have w33 := c33 (Γ := Γ) h2 h3 hM (setL l into a.above) hBs.auB
        rw [m2] at w33
        refine CallL.q w33 ?_
        push_cast
        refine CallL.q (c28 l into (by omega)) ?_
        push_cast
        rw [gA]
        push_cast
        refine CallL.q w42 ?_
        push_cast
        intro e3
        obtain ⟨z, n1, n2, n3, n4, n5⟩ := hm e3
        have n6 := hm1 e3
        rw [n1] at n6
        have n6 : z = merL l B into fr := n6
        rw [n1]
        subst n6
        push_cast
        have hmn := hBm.n
        have hmok := rightP_ok n2
        have w33' := c33 (Γ := Γ) h2 h3 hM (merL l B into fr) hBm.auB
        rw [n2] at w33'
        refine CallL.q w33' ?_
        push_cast
        have hmf := forms_fit hBm hmok.2.1
        have w40a := c40 (Γ := Γ) hM (merL l B into fr) (by omega) hmok.2.2.1 hmf A hA1.1 (by omega) hA1.2 into
        rw [n4] at w40a
        have w40b := c40 (Γ := Γ) hM (merL l B into fr) (by omega) hmok.2.2.1 hmf B hA2.1 (by omega) hA2.2 into
        rw [n5] at w40b
        refine ⟨⟨by omega, by omega⟩, fun _ => ?_, fun e => absurd n3 (by omega)⟩
        refine CallL.q w40a ?_
        push_cast
        refine CallL.q w40b ?_
        push_cast
      · refine CallL.q (c28 l into (by omega)) ?_
        push_cast
        rw [gA]
        push_cast
        refine CallL.q w42 ?_
        push_cast
        intro e3
        obtain ⟨z, n1, n2, n3, n4, n5⟩ := hm e3
        have n6 := hm1 e3
        rw [n1] at n6
        have n6 : z = merL l B into fr := n6
        rw [n1]
        subst n6
        push_cast
        have hmn := hBm.n
        have hmok := rightP_ok n2
        have w33' := c33 (Γ := Γ) h2 h3 hM (merL l B into fr) hBm.auB
        rw [n2] at w33'
        refine CallL.q w33' ?_
        push_cast
        have hmf := forms_fit hBm hmok.2.1
        have w40a := c40 (Γ := Γ) hM (merL l B into fr) (by omega) hmok.2.2.1 hmf A hA1.1 (by omega) hA1.2 into
        rw [n4] at w40a
        have w40b := c40 (Γ := Γ) hM (merL l B into fr) (by omega) hmok.2.2.1 hmf B hA2.1 (by omega) hA2.2 into
        rw [n5] at w40b
        refine ⟨⟨by omega, by omega⟩, fun _ => ?_, fun e => absurd n3 (by omega)⟩
        refine CallL.q w40a ?_
        push_cast
        refine CallL.q w40b ?_
        push_cast
  · refine CallL.q (c28 l into (by omega)) ?_
    push_cast
    refine CallL.q (c28 l fr (by omega)) ?_
    push_cast
    have hA1 := hgetF into
    have hA2 := hgetF fr
    have hA3 := hgetB into
    have hA4 := hgetB fr
    generalize gA : (getA l into).getD default = A at *
    generalize gB : (getA l fr).getD default = B at *
    refine CallL.q w39 ?_
    push_cast
    refine ⟨fun e1 => ?_, fun e1 => ?_⟩
    · obtain ⟨x, k1, k2, k3, k4⟩ := hk e1
      have k5 := hk1 e1
      rw [k1] at k5
      have k5 : x = renL l into a.hd := k5
      rw [k1]
      subst k5
      have hxn := hBr.n
      have hxok := rightP_ok k2
      push_cast
      refine CallL.q (c28 (renL l into a.hd) into (by omega)) ?_
      push_cast
      generalize (getA (renL l into a.hd) into).getD default = N at *
      have w33 := c33 (Γ := Γ) h2 h3 hM (renL l into a.hd) hBr.auB
      rw [k2] at w33
      refine CallL.q w33 ?_
      push_cast
      have w40 := c40 (Γ := Γ) hM (renL l into a.hd) (by omega) hxok.2.2.1 (forms_fit hBr hxok.2.1) { A with see := [] } hA1.1 (by simp) (fun s hs => hA1.2 s (by
        have hs : s ∈ [A.hd] := hs
        rw [List.mem_singleton.1 hs]; exact List.mem_cons_self)) into
      rw [k3] at w40
      refine CallL.q w40 ?_ (.cons ArgOk.d (.cons (ArgOk.aggn rfl (.cons (.refl _) (.cons (.refl _) (.cons (.refl _) (.cons (.nil _) (.cons (.refl _) .nil)))))) (.cons ArgOk.d .nil)))
      push_cast
      refine ⟨fun e => absurd k4 e, fun _ => ?_⟩
      refine CallL.q w41 ?_
      push_cast
      refine ⟨fun e2 => ?_, fun e2 => ?_⟩
      · obtain ⟨y, m1, m2⟩ := hsk e2
        have m3 := hs1 e2
        rw [m1] at m3
        have m3 : y = setL l into a.above := m3
        rw [m1]
        subst m3
        push_cast
        have w33 := c33 (Γ := Γ) h2 h3 hM (setL l into a.above) hBs.auB
        rw [m2] at w33
        refine CallL.q w33 ?_
        push_cast
        refine CallL.q (c28 l into (by omega)) ?_
        push_cast
        rw [gA]
        push_cast
        refine CallL.q w42 ?_
        push_cast
        intro e3
        obtain ⟨z, n1, n2, n3, n4, n5⟩ := hm e3
        have n6 := hm1 e3
        rw [n1] at n6
        have n6 : z = merL l B into fr := n6
        rw [n1]
        subst n6
        push_cast
        have hmn := hBm.n
        have hmok := rightP_ok n2
        have w33' := c33 (Γ := Γ) h2 h3 hM (merL l B into fr) hBm.auB
        rw [n2] at w33'
        refine CallL.q w33' ?_
        push_cast
        have hmf := forms_fit hBm hmok.2.1
        have w40a := c40 (Γ := Γ) hM (merL l B into fr) (by omega) hmok.2.2.1 hmf A hA1.1 (by omega) hA1.2 into
        rw [n4] at w40a
        have w40b := c40 (Γ := Γ) hM (merL l B into fr) (by omega) hmok.2.2.1 hmf B hA2.1 (by omega) hA2.2 into
        rw [n5] at w40b
        refine ⟨⟨by omega, by omega⟩, fun _ => ?_, fun e => absurd n3 (by omega)⟩
        refine CallL.q w40a ?_
        push_cast
        refine CallL.q w40b ?_
        push_cast
      · refine CallL.q (c28 l into (by omega)) ?_
        push_cast
        rw [gA]
        push_cast
        refine CallL.q w42 ?_
        push_cast
        intro e3
        obtain ⟨z, n1, n2, n3, n4, n5⟩ := hm e3
        have n6 := hm1 e3
        rw [n1] at n6
        have n6 : z = merL l B into fr := n6
        rw [n1]
        subst n6
        push_cast
        have hmn := hBm.n
        have hmok := rightP_ok n2
        have w33' := c33 (Γ := Γ) h2 h3 hM (merL l B into fr) hBm.auB
        rw [n2] at w33'
        refine CallL.q w33' ?_
        push_cast
        have hmf := forms_fit hBm hmok.2.1
        have w40a := c40 (Γ := Γ) hM (merL l B into fr) (by omega) hmok.2.2.1 hmf A hA1.1 (by omega) hA1.2 into
        rw [n4] at w40a
        have w40b := c40 (Γ := Γ) hM (merL l B into fr) (by omega) hmok.2.2.1 hmf B hA2.1 (by omega) hA2.2 into
        rw [n5] at w40b
        refine ⟨⟨by omega, by omega⟩, fun _ => ?_, fun e => absurd n3 (by omega)⟩
        refine CallL.q w40a ?_
        push_cast
        refine CallL.q w40b ?_
        push_cast
    · refine CallL.q w41 ?_
      push_cast
      refine ⟨fun e2 => ?_, fun e2 => ?_⟩
      · obtain ⟨y, m1, m2⟩ := hsk e2
        have m3 := hs1 e2
        rw [m1] at m3
        have m3 : y = setL l into a.above := m3
        rw [m1]
        subst m3
        push_cast
        have w33 := c33 (Γ := Γ) h2 h3 hM (setL l into a.above) hBs.auB
        rw [m2] at w33
        refine CallL.q w33 ?_
        push_cast
        refine CallL.q (c28 l into (by omega)) ?_
        push_cast
        rw [gA]
        push_cast
        refine CallL.q w42 ?_
        push_cast
        intro e3
        obtain ⟨z, n1, n2, n3, n4, n5⟩ := hm e3
        have n6 := hm1 e3
        rw [n1] at n6
        have n6 : z = merL l B into fr := n6
        rw [n1]
        subst n6
        push_cast
        have hmn := hBm.n
        have hmok := rightP_ok n2
        have w33' := c33 (Γ := Γ) h2 h3 hM (merL l B into fr) hBm.auB
        rw [n2] at w33'
        refine CallL.q w33' ?_
        push_cast
        have hmf := forms_fit hBm hmok.2.1
        have w40a := c40 (Γ := Γ) hM (merL l B into fr) (by omega) hmok.2.2.1 hmf A hA1.1 (by omega) hA1.2 into
        rw [n4] at w40a
        have w40b := c40 (Γ := Γ) hM (merL l B into fr) (by omega) hmok.2.2.1 hmf B hA2.1 (by omega) hA2.2 into
        rw [n5] at w40b
        refine ⟨⟨by omega, by omega⟩, fun _ => ?_, fun e => absurd n3 (by omega)⟩
        refine CallL.q w40a ?_
        push_cast
        refine CallL.q w40b ?_
        push_cast
      · refine CallL.q (c28 l into (by omega)) ?_
        push_cast
        rw [gA]
        push_cast
        refine CallL.q w42 ?_
        push_cast
        intro e3
        obtain ⟨z, n1, n2, n3, n4, n5⟩ := hm e3
        have n6 := hm1 e3
        rw [n1] at n6
        have n6 : z = merL l B into fr := n6
        rw [n1]
        subst n6
        push_cast
        have hmn := hBm.n
        have hmok := rightP_ok n2
        have w33' := c33 (Γ := Γ) h2 h3 hM (merL l B into fr) hBm.auB
        rw [n2] at w33'
        refine CallL.q w33' ?_
        push_cast
        have hmf := forms_fit hBm hmok.2.1
        have w40a := c40 (Γ := Γ) hM (merL l B into fr) (by omega) hmok.2.2.1 hmf A hA1.1 (by omega) hA1.2 into
        rw [n4] at w40a
        have w40b := c40 (Γ := Γ) hM (merL l B into fr) (by omega) hmok.2.2.1 hmf B hA2.1 (by omega) hA2.2 into
        rw [n5] at w40b
        refine ⟨⟨by omega, by omega⟩, fun _ => ?_, fun e => absurd n3 (by omega)⟩
        refine CallL.q w40a ?_
        push_cast
        refine CallL.q w40b ?_
        push_cast
end Go.Proofs
