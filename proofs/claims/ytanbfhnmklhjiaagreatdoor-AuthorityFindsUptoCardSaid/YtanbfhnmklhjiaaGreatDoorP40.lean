/- Part of a proof about this program; no condition of its own. -/
import Derived.Test.YtanbfhnmklhjiaaGreatDoorP39
import Derived.Test.YtanbfhnmklhjiaaGreatDoorP19
set_option linter.all false
/- Merge. No condition. -/
namespace Go.Ax
theorem Fw.freezeBox {pm : Pm} {st : St} (j c : Nat) {i : Nat} {t tb : TypeId} {sz ver : Nat} {els : List (List D)} {cs : List C} (hj : st.heap[j]? = some (.box tb cs)) (hc : cs[c]? = some (.own i ver)) (hi : st.heap[i]? = some (.row t sz els ver)) :
    Fw pm st ⟨st.env, (st.heap.set i .dead).set j (LB.box tb (cs.set c (C.d (.lst sz els))))⟩ := fun _ _ _ _ _ s => s.freezeBox j c hj hc hi
end Go.Ax
namespace Go.Proofs
open Go Go.Ax Go.Tx Go.Lib Go.RowKit Go.Fc
set_option maxRecDepth 100000
set_option maxHeartbeats 0
variable {Γ : List (Nat × List D)} {M : Int}
def tab42 : List (List Bool × List Nat) := [([false, false, false, false, false, false, false, false], [0, 3]), ([true, false, false, false, false, false, false, false], [1, 3]), ([false, false, false, true, false, false, false, false], [0]), ([true, true, false, false, false, false, false, false], [2, 3]), ([true, false, false, true, false, false, false, false], [1]), ([true, true, true, false, false, false, false, false], [3]), ([true, true, false, true, false, false, false, false], [2]), ([true, true, true, true, false, false, false, false], [4]), ([true, true, true, true, true, false, false, false], [5]), ([true, true, true, true, true, true, false, false], [6]), ([true, true, true, true, true, true, true, false], [7]), ([true, true, true, true, true, true, true, true], [])]
theorem c42 (h2 : (2, firstD) ∈ Γ) (h3 : (3, acceptD) ∈ Γ) (hM : (0, [D.int .i64 M]) ∈ Γ) (l : List Au) (hl : l.length ≤ 1000000) (into fr : Int) (hs : ∀ a ∈ l, a.see.length ≤ 1000000 ∧ a.above.length ≤ 1000000) (hb : AuB (merL l ((getA l fr).getD default) into fr)) : AFn Tryz.prog Γ 42 [.c (.d (.lst 5 (l.map Au.ds))), .c (.d (.int .i64 into)), .c (.d (.int .i64 fr))] [.d (.lst 5 ((mergeP l into fr).1.map Au.ds)), .d (.int .i64 (mergeP l into fr).2)] := by
  generalize hR : mergeP l into fr = R
  unfold mergeP at hR
  have hBs : ((getA l fr).getD default).see.length ≤ 1000000 := by
    cases hg : getA l fr with
    | none => show ([] : List Str).length ≤ _; simp
    | some b => exact (hs b (getA_mem hg).1).1
  refine AFn.vc [59, 1000013] Tryz.func42 rfl Tryz.mixed (by kernel_rfl) Tryz.ntmps42 Tryz.results42 (by simp) ?_
  push_cast
  refine CallL.q (c28 l into (by omega)) ?_
  push_cast
  refine CallL.q (c28 l fr (by omega)) ?_
  push_cast
  generalize (getA l into).getD default = A at *
  generalize (getA l fr).getD default = B at *
  generalize (getA l into).isSome = ia at *
  generalize (getA l fr).isSome = ib at *
  have r9 : ¬ (ia = true ∧ ib = true) → R.1 = [] ∧ 9 = R.2 := fun h => by rw [if_neg h] at hR; rw [← hR]; exact ⟨rfl, rfl⟩
  refine ⟨fun e1 => ⟨fun e2 => r9 (by simp [e2]), fun e2 => ?_⟩, fun e1 => r9 (by simp [e1])⟩
  rw [if_pos ⟨e1, e2⟩] at hR
  have r1 : (into = fr ∨ ¬ A.kind = B.kind) → R.1 = [] ∧ 1 = R.2 := fun h => by rw [if_pos h] at hR; rw [← hR]; exact ⟨rfl, rfl⟩
  refine ⟨fun e3 => ⟨fun e4 => r1 (.inr e4), fun e4 => ?_⟩, fun e3 => r1 (.inl e3)⟩
  rw [if_neg (fun h => h.elim e3 fun h => h e4)] at hR
  refine LoopV.nilrow 12 45 5 ?_
  push_cast
  refine LoopV.of Tryz.mixed [1, 2, 10, 43, 44] (S := Nat × List Au) (fun s => [(12, .c (.own 2 s.2.length)), (45, .c (.d (.int .i64 (s.1 : Nat))))]) (fun s => [.box 45 [.d (.int .i64 A.id), .d (.int .i64 A.kind), .d (.str A.hd), .d (.lst 1 (A.see.map Fc.sD)), .d (.lst 1 (A.above.map Fc.iD))], .box 45 [.d (.int .i64 B.id), .d (.int .i64 B.kind), .d (.str B.hd), .d (.lst 1 (B.see.map Fc.sD)), .d (.lst 1 (B.above.map Fc.iD))], .row 45 5 (s.2.map Au.ds) s.2.length]) (fun s => s.1 ≤ l.length ∧ s.2.length ≤ s.1 ∧ s.2 ++ merL (l.drop s.1) B into fr = merL l B into fr) (fun s => l.length - s.1) (0, []) ⟨Nat.zero_le _, Nat.zero_le _, rfl⟩ (by push_cast) ?_
  rintro ⟨k, O⟩ ⟨hk, hO, hinv⟩
  simp only at hk hO hinv
  push_cast
  refine ⟨fun h => ?_, fun h => ?_⟩
  · have hlt : k < l.length := by omega
    obtain ⟨hx1, hx2⟩ := hs _ (List.getElem_mem hlt)
    have hmer : merL (l.drop k) B into fr = (if l[k].id = fr then [] else [merA B into fr l[k]]) ++ merL (l.drop (k + 1)) B into fr := by
      unfold merL
      rw [Fc.drop_cons hlt]
      by_cases e : l[k].id = fr
      · rw [List.filter_cons_of_neg (by simp [e]), if_pos e]; rfl
      · rw [List.filter_cons_of_pos (by simp [e]), if_neg e]; rfl
    rw [hmer] at hinv
    refine ⟨hlt, fun e5 => ?_, fun e5 => ?_⟩
    · rw [if_pos e5, List.nil_append] at hinv
      exact ⟨⟨by omega, by omega⟩, (k + 1, O), ⟨⟨by show k + 1 ≤ _; omega, by show O.length ≤ k + 1; omega, hinv⟩, by show l.length - (k + 1) < _; omega⟩, ⟨rfl, by push_cast⟩, rfl, rfl⟩
    · rw [if_neg e5] at hinv
      have fin : ∀ x : Au, x = merA B into fr l[k] → (O ++ [x]) ++ merL (l.drop (k + 1)) B into fr = merL l B into fr := fun x hx => by rw [hx, ← hinv]; simp
      refine ⟨fun e6 => ?_, fun e6 => ?_⟩
      · have hap : l[k].see.map Fc.sD ++ (headsA B).map Fc.sD = (l[k].see ++ headsA B).map Fc.sD := by rw [List.map_append]
        have hhl : (headsA B).length = B.see.length + 1 := rfl
        refine RegV.tab (E := [59, 1000013]) Tryz.mixed tab42 [some (57, .c (.loc 3 3)), some (58, .c (.d (.lst 1 (l[k].see.map Fc.sD)))), some (59, .c (.own 4 0)), some (60, .agg [.d (.int .i64 B.id), .d (.int .i64 B.kind), .d (.str B.hd), .d (.lst 1 (B.see.map Fc.sD)), .d (.lst 1 (B.above.map Fc.iD))]), some (61, .c (.d (.lst 1 ((headsA B).map Fc.sD)))), some (62, .c (.own 4 1)), some (63, .c (.loc 3 3)), none]
          [none, none, some [.box 45 [.d (.int .i64 A.id), .d (.int .i64 A.kind), .d (.str A.hd), .d (.lst 1 (A.see.map Fc.sD)), .d (.lst 1 (A.above.map Fc.iD))], .box 45 [.d (.int .i64 B.id), .d (.int .i64 B.kind), .d (.str B.hd), .d (.lst 1 (B.see.map Fc.sD)), .d (.lst 1 (B.above.map Fc.iD))], .row 45 5 (O.map Au.ds) O.length, .box 45 [.d (.int .i64 l[k].id), .d (.int .i64 l[k].kind), .d (.str l[k].hd), .d (.lst 1 (l[k].see.map Fc.sD)), .d (.lst 1 (l[k].above.map Fc.iD))], .row 9 1 (l[k].see.map Fc.sD) 0], none, none, some [.box 45 [.d (.int .i64 A.id), .d (.int .i64 A.kind), .d (.str A.hd), .d (.lst 1 (A.see.map Fc.sD)), .d (.lst 1 (A.above.map Fc.iD))], .box 45 [.d (.int .i64 B.id), .d (.int .i64 B.kind), .d (.str B.hd), .d (.lst 1 (B.see.map Fc.sD)), .d (.lst 1 (B.above.map Fc.iD))], .row 45 5 (O.map Au.ds) O.length, .box 45 [.d (.int .i64 l[k].id), .d (.int .i64 l[k].kind), .d (.str l[k].hd), .d (.lst 1 (l[k].see.map Fc.sD)), .d (.lst 1 (l[k].above.map Fc.iD))], .row 9 1 ((l[k].see ++ headsA B).map Fc.sD) 1], none, some [.box 45 [.d (.int .i64 A.id), .d (.int .i64 A.kind), .d (.str A.hd), .d (.lst 1 (A.see.map Fc.sD)), .d (.lst 1 (A.above.map Fc.iD))], .box 45 [.d (.int .i64 B.id), .d (.int .i64 B.kind), .d (.str B.hd), .d (.lst 1 (B.see.map Fc.sD)), .d (.lst 1 (B.above.map Fc.iD))], .row 45 5 (O.map Au.ds) O.length, .box 45 [.d (.int .i64 l[k].id), .d (.int .i64 l[k].kind), .d (.str l[k].hd), .own 4 1, .d (.lst 1 (l[k].above.map Fc.iD))], .row 9 1 ((l[k].see ++ headsA B).map Fc.sD) 1]] (by kernel_rfl) (by kernel_rfl) rfl ?_ ?_
        · push_cast [tab42, hap]
          repeat' (first | refine And.intro ?_ ?_ | omega | (refine CallL.own (c91 l[k].see (by omega)) ?_; push_cast; exact rfl) | (refine CallL.q (c94 B (by omega)) ?_; push_cast; exact rfl) | exact rfl)
        · push_cast
          refine CallL.fwF _ (Fw.freezeBox 3 3 (i := 4) rfl rfl rfl) ?_
          push_cast
          refine CallL.q (c95 l[k].above l[k].id into fr hx2) ?_
          push_cast
          have hme : Au.ds (merA B into fr l[k]) = [.int .i64 l[k].id, .int .i64 l[k].kind, .str l[k].hd, .lst 1 ((l[k].see ++ headsA B).map Fc.sD), .lst 1 ((turnL l[k].above l[k].id into fr).map Fc.iD)] := by
            unfold merA Au.ds
            simp only [if_pos e6]
          exact ⟨⟨by omega, by omega⟩, ⟨by omega, by omega⟩, (k + 1, O ++ [merA B into fr l[k]]), ⟨⟨by show k + 1 ≤ _; omega, by simp; omega, fin _ rfl⟩, by show l.length - (k + 1) < _; omega⟩, ⟨by simp, by push_cast⟩, by simp only [List.map_append, List.map_cons, List.map_nil, hme], by simp⟩
      · refine CallL.q (c95 l[k].above l[k].id into fr hx2) ?_
        push_cast
        have hme : Au.ds (merA B into fr l[k]) = [.int .i64 l[k].id, .int .i64 l[k].kind, .str l[k].hd, .lst 1 (l[k].see.map Fc.sD), .lst 1 ((turnL l[k].above l[k].id into fr).map Fc.iD)] := by
          unfold merA Au.ds
          simp only [if_neg e6]
        exact ⟨⟨by omega, by omega⟩, ⟨by omega, by omega⟩, (k + 1, O ++ [merA B into fr l[k]]), ⟨⟨by show k + 1 ≤ _; omega, by simp; omega, fin _ rfl⟩, by show l.length - (k + 1) < _; omega⟩, ⟨by simp, by push_cast⟩, by simp only [List.map_append, List.map_cons, List.map_nil, hme], by simp⟩
  · rw [List.drop_eq_nil_of_le (by omega)] at hinv
    have hO2 : O = merL l B into fr := by rw [← hinv]; simp [merL]
    subst hO2
    have hR1 : R.1 = (chkP (merL l B into fr)).1 := by rw [hR]
    have hR2 : R.2 = (chkP (merL l B into fr)).2 := by rw [hR]
    refine CallL.frm [] [(77, .c (.d (.lst 5 ((merL l B into fr).map Au.ds))))] [] ?_ ?_
    · push_cast
    push_cast
    refine CallL.q (c86 h2 h3 hM (merL l B into fr) hb) ?_
    push_cast
    rw [hR1, hR2]
    exact ⟨rfl, rfl⟩
end Go.Proofs

/- The examples of chapter 13. No condition. -/
namespace Go.Proofs
open Go Go.Ax Go.Tx Go.Lib Go.RowKit Go.Fc
set_option maxRecDepth 100000
set_option maxHeartbeats 0
variable {Γ : List (Nat × List D)} {M : Int}
def houndsS : Str := [104, 111, 117, 110, 100, 115]
theorem ex1 : findP animalsL 3 houndsS = (2, false, true) := by kernel_rfl
theorem ex2 : findP animalsL 3 [68, 79, 71, 83] = (2, true, true) := by kernel_rfl
theorem ex3 : rightP animalsL = 0 := by kernel_rfl
theorem ex4 : renameP animalsL 2 [72, 111, 117, 110, 100, 115] = ([⟨1, 3, [65, 110, 105, 109, 97, 108, 115], [], []⟩, ⟨2, 3, [72, 111, 117, 110, 100, 115], [[68, 111, 103, 115]], [1]⟩], 0) := by kernel_rfl
theorem ex5 : (removeP animalsL 1).2 = 10 := by kernel_rfl
def rightQ (l : List Au) : Int := if 64 < l.length then 13 else if formsE none l = 0 then (if twiceA l = true then 7 else if firstE (above1 l) l = 0 then (if (l.any fun a => decide (a.id ∈ bfsA l a.id)) = true then 11 else 0) else firstE (above1 l) l) else formsE none l
theorem rightQ_eq (l : List Au) : rightP l = rightQ l := by
  have : loopP l = l.any fun a => decide (a.id ∈ bfsA l a.id) := by
    unfold loopP
    congr 1
    funext a
    exact decide_eq_decide.2 (mem_aboveP _ _ _)
  unfold rightP rightQ checkP
  rw [this]
theorem ex6 : (setAboveP animalsL 1 [2]).2 = 11 := by
  have h : setAboveP animalsL 1 [2] = chkP (setL animalsL 1 [2]) := if_neg (by show ¬ placeP animalsL 1 < 0; rw [show placeP animalsL 1 = 0 by kernel_rfl]; omega)
  rw [h]
  show rightP (setL animalsL 1 [2]) = 11
  rw [rightQ_eq]
  kernel_rfl
theorem ex7 : (addF animalsL ⟨3, 3, [100, 111, 103, 115], [], []⟩).2 = 7 := by kernel_rfl
theorem ex8 : aboveP animalsL 2 = [1] := by kernel_rfl
theorem ex9 : belowP animalsL 1 = [2] := by kernel_rfl
theorem animals_nl : Nl (.lst 5 animalsR) (.lst 5 (animalsL.map Au.ds)) :=
  Nl.rows (.cons (.cons (.refl _) (.cons (.refl _) (.cons (.refl _) (.cons (.nil _) (.cons (.nil _) .nil))))) (.cons (.cons (.refl _) (.cons (.refl _) (.cons (.refl _) (.cons (.refl _) (.cons (.refl _) .nil))))) .nil))
theorem AFn.nl {P : Program} {f : FuncId} {args : List AV} {x y : D} (h : AFn P Γ f args [.d x]) (hn : Nl x y) : AFn P Γ f args [.d y] :=
  ⟨h.call, fun V w vals hv ha => (h.run V w vals hv ha).mono fun e w' ⟨V', vs, h1, h2, h3, h4, h5, h6⟩ => by
    cases h5 with | cons q1 q2 =>
    cases q2
    exact ⟨V', _, h1, h2, h3, h4, .cons (hn.dr q1) .nil, h6⟩⟩
theorem c71' : AFn Tryz.prog Γ 71 [] [.d (.lst 5 (animalsL.map Au.ds))] := AFn.nl c71 animals_nl
theorem animals_fit : ∀ a ∈ animalsL, a.see.length ≤ 2000000 ∧ (-9223372036854775808 ≤ a.kind ∧ a.kind ≤ 9223372036854775807) ∧ ∀ s ∈ headsA a, s.length ≤ 100000 ∧ validF s = true := by
  intro a ha
  simp only [animalsL, List.mem_cons, List.not_mem_nil, or_false] at ha
  rcases ha with rfl | rfl
  · refine ⟨by decide, ⟨by decide, by decide⟩, fun s hs => ?_⟩
    simp only [headsA, List.mem_cons, List.not_mem_nil, or_false] at hs
    subst hs
    exact ⟨by decide, by kernel_rfl⟩
  · refine ⟨by decide, ⟨by decide, by decide⟩, fun s hs => ?_⟩
    simp only [headsA, List.mem_cons, List.not_mem_nil, or_false] at hs
    rcases hs with rfl | rfl
    · exact ⟨by decide, by kernel_rfl⟩
    · exact ⟨by decide, by kernel_rfl⟩
theorem animals_see : ∀ a ∈ animalsL, a.see.length ≤ 1000000 := by decide
def auBok (l : List Au) : Bool := decide (l.length ≤ 2000000) && l.all fun a => decide (a.see.length ≤ 2000000) && ((headsA a).all fun s => decide (s.length ≤ 100000)) && decide (a.above.length ≤ 2000000) && a.above.all fun x => decide (-9223372036854775808 ≤ x) && decide (x ≤ 9223372036854775807)
theorem auBok_ok {l : List Au} (h : auBok l = true) : AuB l := by
  unfold auBok at h
  simp only [Bool.and_eq_true, decide_eq_true_eq, List.all_eq_true] at h
  refine ⟨h.1, fun a ha => ⟨(h.2 a ha).1.1.1, (h.2 a ha).1.1.2⟩, fun a ha => (h.2 a ha).1.2, fun x hx => ?_⟩
  unfold allUp at hx
  obtain ⟨a, ha, hxa⟩ := List.mem_flatMap.1 hx
  exact (h.2 a ha).2 x hxa
theorem c24 (h2 : (2, firstD) ∈ Γ) (h3 : (3, acceptD) ∈ Γ) (hM : (0, [D.int .i64 M]) ∈ Γ) : AFn Tryz.prog Γ 24 [] [.d (.bool true)] := by
  refine AFn.vc [] Tryz.func24 rfl Tryz.mixed (by kernel_rfl) Tryz.ntmps24 Tryz.results24 (by simp) ?_
  push_cast
  refine CallL.q c71' ?_
  push_cast
  have hl : animalsL.length ≤ 2000000 := by decide
  have ht : twiceA animalsL = false := by kernel_rfl
  have q1 := c30 (Γ := Γ) hM animalsL hl ht animals_fit 3 (by decide) houndsS (by decide) (by kernel_rfl)
  rw [ex1] at q1
  refine CallL.q q1 ?_
  push_cast
  have q2 := c30 (Γ := Γ) hM animalsL hl ht animals_fit 3 (by decide) [68, 79, 71, 83] (by decide) (by kernel_rfl)
  rw [ex2] at q2
  refine CallL.q q2 ?_
  push_cast
  have hB : AuB animalsL := auBok_ok (by kernel_rfl)
  have q3 := c33 (Γ := Γ) h2 h3 hM animalsL hB
  rw [ex3] at q3
  refine CallL.q q3 ?_
  push_cast
  have q4 := c39 (Γ := Γ) h2 h3 hM animalsL hl 2 [72, 111, 117, 110, 100, 115] (by decide) (by kernel_rfl) (fun a ha => ⟨animals_see a ha, (animals_fit a ha).2.2⟩) (fun _ => auBok_ok (by kernel_rfl))
  rw [ex4] at q4
  refine CallL.q q4 ?_
  push_cast
  have q5 := c45 (Γ := Γ) [[68, 111, 103, 115]] [[68, 111, 103, 115]] (by decide)
  refine CallL.q q5 ?_
  push_cast
  have q6 := c38 (Γ := Γ) animalsL hl 1 (by decide)
  rw [ex5] at q6
  generalize (removeP animalsL 1).1 = X6 at q6
  refine CallL.q q6 ?_
  push_cast
  have q7 := c41 (Γ := Γ) h2 h3 hM animalsL hl 1 [2] (by decide) (fun _ => auBok_ok (by kernel_rfl))
  rw [ex6] at q7
  generalize (setAboveP animalsL 1 [2]).1 = X7 at q7
  refine CallL.q q7 ?_
  push_cast
  have q8 := c37 (Γ := Γ) h2 h3 hM animalsL hl ⟨3, 3, [100, 111, 103, 115], [], []⟩ (auBok_ok (by kernel_rfl))
  rw [ex7] at q8
  generalize (addF animalsL ⟨3, 3, [100, 111, 103, 115], [], []⟩).1 = X8 at q8
  refine CallL.q q8 ?_ (.cons ArgOk.d (.cons (ArgOk.aggn rfl (.cons (.refl _) (.cons (.refl _) (.cons (.refl _) (.cons (.nil _) (.cons (.nil _) .nil)))))) .nil))
  push_cast
  have q9 := c34 (Γ := Γ) animalsL 2 hl (by decide) (by decide)
  rw [ex8] at q9
  refine CallL.q q9 ?_
  push_cast
  have qa := c51 (Γ := Γ) [1] [1] (by decide)
  refine CallL.q qa ?_
  push_cast
  have qb := c35 (Γ := Γ) animalsL 1 hl (by decide) (by decide)
  rw [ex9] at qb
  refine CallL.q qb ?_
  push_cast
  have qc := c51 (Γ := Γ) [2] [2] (by decide)
  refine CallL.q qc ?_
  push_cast
end Go.Proofs

/- The statements on authorities: Finds and Turns. No condition. -/
namespace Go.Fc
open Go Go.Ax Go.Tx Go.Proofs
theorem rightA_ok2 {l : List Au} (h : rightA l = 0) : l.length ≤ 64 ∧ formsE none l = 0 ∧ twiceA l = false ∧ firstE (above1 l) l = 0 ∧ loopE l = false := by
  unfold rightA at h
  split at h
  · omega
  · next h0 =>
    split at h
    · next h1 =>
      split at h
      · omega
      · next h2 =>
        split at h
        · next h3 =>
          split at h
          · omega
          · next h4 => exact ⟨by omega, h1, by simpa using h2, h3, by simpa using h4⟩
        · next h3 => exact absurd h h3
    · next h1 => exact absurd h h1
structure AuSm2 (l : List Au) : Prop where
  see : ∀ a ∈ l, a.see.length ≤ 2000000
  hd : ∀ a ∈ l, ∀ s ∈ headsA a, s.length ≤ 2000000
def AbI (a : Au) : Prop := ∀ x ∈ a.above, -9223372036854775808 ≤ x ∧ x ≤ 9223372036854775807
structure SmB (l : List Au) : Prop where
  n : l.length ≤ 60
  see : ∀ a ∈ l, a.see.length ≤ 40
  ab : ∀ a ∈ l, a.above.length ≤ 20
  hd : ∀ a ∈ l, ∀ s ∈ headsA a, s.length ≤ 2000
  abi : ∀ a ∈ l, AbI a
theorem SmB.auB {l : List Au} (h : SmB l) : AuB l :=
  ⟨by have := h.n; omega, fun a ha => ⟨by have := h.see a ha; omega, fun s hs => by have := h.hd a ha s hs; omega⟩, fun a ha => by have := h.ab a ha; omega, fun x hx => by
    unfold allUp at hx
    obtain ⟨a, ha, hxa⟩ := List.mem_flatMap.1 hx
    exact h.abi a ha x hxa⟩
theorem small_one {a : Au} (h : smallA a = true) : a.see.length ≤ 11 ∧ a.above.length ≤ 8 ∧ ∀ s ∈ headsA a, s.length ≤ 260 := by
  unfold smallA at h
  simp only [Bool.and_eq_true, decide_eq_true_eq, List.all_eq_true] at h
  exact ⟨by have := h.1; simp [headsA] at this; omega, h.2.1, h.2.2⟩
theorem small_b {l : List Au} (h : smallAs l = true) (hi : ∀ a ∈ l, AbI a) : SmB l := by
  unfold smallAs at h
  simp only [Bool.and_eq_true, decide_eq_true_eq, List.all_eq_true] at h
  exact ⟨by omega, fun a ha => by have := (small_one (h.2 a ha)).1; omega, fun a ha => by have := (small_one (h.2 a ha)).2.1; omega, fun a ha s hs => by have := (small_one (h.2 a ha)).2.2 s hs; omega, hi⟩
theorem SmB.up {l : List Au} (h : SmB l) : (allUp l).length ≤ 1200 := by
  rw [allUp_len]
  have h1 := ab_le 20 l h.ab
  have h2 : l.length * 20 ≤ 60 * 20 := Nat.mul_le_mul_right 20 h.n
  omega
theorem forms_fit {l : List Au} (h : SmB l) (hf : formsE none l = 0) : ∀ a ∈ l, a.see.length ≤ 2000000 ∧ (-9223372036854775808 ≤ a.kind ∧ a.kind ≤ 9223372036854775807) ∧ ∀ s ∈ headsA a, s.length ≤ 100000 ∧ validF s = true := fun a ha => by
  obtain ⟨k1, k2, k3⟩ := shapeA_ok (formsE_ok hf a ha).1
  exact ⟨by omega, ⟨by omega, by omega⟩, fun s hs => ⟨by have := (k3 s hs).2.1; omega, (k3 s hs).1⟩⟩
end Go.Fc
namespace Go.Proofs
open Go Go.Ax Go.Tx Go.Lib Go.RowKit Go.Fc
set_option maxRecDepth 100000
set_option maxHeartbeats 0
variable {Γ : List (Nat × List D)} {M : Int}
theorem c7 (h2 : (2, firstD) ∈ Γ) (h3 : (3, acceptD) ∈ Γ) (hM : (0, [D.int .i64 M]) ∈ Γ) (l : List Au) (ha : AuSm2 l) (hi : ∀ a ∈ l, AbI a) (id kind : Int) (hk : -9223372036854775808 ≤ kind ∧ kind ≤ 9223372036854775807) (s : Str) (hs : s.length ≤ 2000000) : AFn Tryz.prog Γ 7 [.c (.d (.lst 5 (l.map Au.ds))), .c (.d (.int .i64 id)), .c (.d (.int .i64 kind)), .c (.d (.str s))] [.d (.bool true)] := by
  refine AFn.vc [] Tryz.func7 rfl Tryz.mixed (by kernel_rfl) Tryz.ntmps7 Tryz.results7 (by simp) ?_
  push_cast
  refine CallL.q (c24 h2 h3 hM) ?_
  push_cast
  intro g1
  refine CallL.q (c25 s (by omega)) ?_
  push_cast
  intro g2
  refine CallL.q (c26 l ha.see) ?_
  push_cast
  intro g3
  refine CallL.q (c27 l ha.see ha.hd) ?_
  push_cast
  intro g4
  have hb := small_b g3 hi
  obtain ⟨r1, r2, r3, r4, r5⟩ := rightA_ok2 g4
  have hl := hb.n
  have hfit := forms_fit hb r2
  refine CallL.q (c28 l id (by omega)) ?_
  push_cast
  refine CallL.q (c29 l id (by omega)) ?_
  push_cast
  have hAs : ((getA l id).getD default).see.length ≤ 2000000 ∧ ((getA l id).getD default).above.length ≤ 2000000 := by
    cases hg : getA l id with
    | none => exact ⟨by show ([] : List Str).length ≤ _; simp, by show ([] : List Int).length ≤ _; simp⟩
    | some b =>
      have := (getA_mem hg).1
      exact ⟨by have := hb.see b this; show b.see.length ≤ _; omega, by have := hb.ab b this; show b.above.length ≤ _; omega⟩
  generalize (getA l id).getD default = A at *
  generalize (getA l id).isSome = ia at *
  refine CallL.q (c30 hM l (by omega) r3 hfit kind hk s (by omega) g2) ?_
  push_cast
  have q31 := c31 (Γ := Γ) l (by omega) (fun a ha => ⟨(hfit a ha).1, fun t ht => by have := ((hfit a ha).2.2 t ht).1; omega⟩) kind s (by omega)
  rw [← find_eq (twice_nodup r3)] at q31
  refine CallL.q q31 ?_
  push_cast
  generalize findP l kind s = F at *
  have q32 := c32 (Γ := Γ) [A] [A] (by simp) (fun x hx => by rw [List.mem_singleton.1 hx]; exact hAs) (fun x hx => by rw [List.mem_singleton.1 hx]; exact hAs)
  rw [decide_eq_true rfl] at q32
  refine ⟨CallL.q q32 ?_, fun h => by simp at h⟩
  push_cast
  intro h; simp at h
theorem c8 (h2 : (2, firstD) ∈ Γ) (h3 : (3, acceptD) ∈ Γ) (hM : (0, [D.int .i64 M]) ∈ Γ) (l : List Au) (ha : AuSm2 l) (hi : ∀ a ∈ l, AbI a) : AFn Tryz.prog Γ 8 [.c (.d (.lst 5 (l.map Au.ds)))] [.d (.bool true)] := by
  refine AFn.vc [] Tryz.func8 rfl Tryz.mixed (by kernel_rfl) Tryz.ntmps8 Tryz.results8 (by simp) ?_
  push_cast
  refine CallL.q (c24 h2 h3 hM) ?_
  push_cast
  refine CallL.q (c26 l ha.see) ?_
  push_cast
  intro g1
  have hb := small_b g1 hi
  have hl := hb.n
  have hup := hb.up
  have hab := hb.auB
  refine CallL.q (c33 h2 h3 hM l hab) ?_
  push_cast
  intro g2
  obtain ⟨r1, r2, r3, r4, r5⟩ := rightP_ok g2
  refine LoopV.cnt Tryz.mixed [0] l.length (fun i => [(3, .c (.d (.int .i64 i)))]) (fun _ => True) trivial ?_
  intro i hi2 _
  push_cast
  intro h4
  have hlt : i < l.length := by omega
  refine ⟨hlt, ?_⟩
  have hlen : ∀ id, (aboveP l id).length ≤ 1200 := fun id => by have := aboveP_len l id; omega
  have hbl : ∀ id, (belowP l id).length ≤ 60 := fun id => by
    unfold belowP
    rw [List.length_map]
    have := List.length_filter_le (fun a : Au => decide (id ∈ aboveP l a.id)) l
    omega
  refine CallL.q (c34 l l[i].id (by omega) (by omega) hab.abi) ?_
  push_cast
  refine ⟨hlt, ?_⟩
  refine CallL.q (c35 l l[i].id (by omega) (by omega) hab.abi) ?_
  push_cast
  refine ⟨hlt, ?_⟩
  refine CallL.q (c36 (aboveP l l[i].id) l[i].id (by have := hlen l[i].id; omega)) ?_
  push_cast
  have hno := loop_no r5 (List.getElem_mem hlt)
  have hno2 : l[i].id ∉ belowP l l[i].id := fun hc => hno ((mem_below_at (List.getElem_mem hlt)).1 hc)
  refine ⟨fun _ => ⟨hlt, ?_⟩, fun e => absurd e hno⟩
  refine CallL.q (c36 (belowP l l[i].id) l[i].id (by have := hbl l[i].id; omega)) ?_
  push_cast
  refine ⟨fun e => absurd e hno2, fun _ => ?_⟩
  refine LoopV.cnt Tryz.mixed [0, 3, 4] l.length (fun k => [(6, .c (.d (.int .i64 k)))]) (fun _ => True) trivial ?_
  intro k hk _
  push_cast
  refine ⟨fun h5 => ?_, fun h5 => ?_⟩
  · have hkt : k < l.length := by omega
    refine ⟨hkt, ?_⟩
    refine CallX.q (c36 (aboveP l l[i].id) l[k].id (by have := hlen l[i].id; omega)) ?_
    push_cast
    refine ⟨hkt, ?_⟩
    refine CallX.q (c35 l l[k].id (by omega) (by omega) hab.abi) ?_
    push_cast
    refine ⟨hlt, ?_⟩
    refine CallX.q (c36 (belowP l l[k].id) l[i].id (by have := hbl l[k].id; omega)) ?_
    push_cast
    have heq : decide (l[k].id ∈ aboveP l l[i].id) = decide (l[i].id ∈ belowP l l[k].id) := decide_eq_decide.2 (mem_below_at (List.getElem_mem hlt)).symm
    refine ⟨fun e => absurd heq e, fun _ => ⟨hkt, ?_⟩⟩
    refine CallL.q (c36 (aboveP l l[i].id) l[k].id (by have := hlen l[i].id; omega)) ?_
    push_cast
    refine ⟨fun e => ⟨hkt, ?_⟩, fun e => ?_⟩
    · refine CallL.q (c34 l l[k].id (by omega) (by omega) hab.abi) ?_
      push_cast
      have htr : ∀ z ∈ aboveP l l[k].id, z ∈ aboveP l l[i].id := fun z hz => above_trans e hz
      have hlk := hlen l[k].id
      generalize aboveP l l[k].id = Z at *
      refine LoopV.cnt Tryz.mixed [0, 3, 4, 6, 7] Z.length (fun j => [(8, .c (.d (.int .i64 j)))]) (fun _ => True) trivial ?_
      intro j hj _
      push_cast
      refine ⟨fun h6 => ?_, fun h6 => ?_⟩
      · have hjt : j < Z.length := by omega
        refine ⟨hjt, ?_⟩
        refine CallL.q (c36 (aboveP l l[i].id) Z[j] (by have := hlen l[i].id; omega)) ?_
        push_cast
        exact ⟨fun e2 => absurd (htr _ (List.getElem_mem hjt)) e2, fun _ => ⟨⟨by omega, by omega⟩, hjt⟩⟩
      · exact ⟨⟨by omega, by omega⟩, hkt⟩
    · exact ⟨⟨by omega, by omega⟩, hkt⟩
  · exact ⟨⟨by omega, by omega⟩, hlt⟩
end Go.Proofs
