/- Walks of the chapter on formats, ninth part: the reference's ways. -/
import Derived.Test.YtimehiamdikinaaFWh
set_option linter.all false
namespace Go.Proofs
open Go Go.Ax Go.Fm
set_option maxRecDepth 100000
variable {Γ : List (Nat × List D)}
def optI : Option Nat → Int
  | some k => k
  | none => -1
theorem optI_step (p : Nat → Bool) (j : Nat) : optI ((List.range (j + 1)).find? p) = if optI ((List.range j).find? p) < 0 then (if p j = true then (j : Int) else -1) else optI ((List.range j).find? p) := by
  rw [List.range_succ, List.find?_append]
  cases (List.range j).find? p with
  | none => cases hp : p j <;> simp [optI, hp]
  | some k =>
    have : ¬ ((k : Int) < 0) := by omega
    simp [optI, this]
theorem c15 (l : List Fmt) (start year : Int) (ho : OkL l) (h5 : -9223372036854775808 ≤ year) (h6 : year ≤ 9223372036854775807) : AFn Try.prog Γ 15 [.c (.d (.lst 7 (l.map Fmt.ds))), .c (.d (.int .i64 start)), .c (.d (.int .i64 year))] [.d (.lst 1 ((pathF l start year).map iD))] := by
  have hlen := ho.len
  have hto : ∀ f ∈ l, f.to.length ≤ 1000000 := fun f hf => (ho.ok f hf).t
  refine AFn.vc [79] Try.func15 rfl Try.mixed (by kernel_rfl) Try.ntmps15 Try.results15 (by simp) ?_
  push_cast
  refine CallL.q (c35 l start (by omega)) ?_
  push_cast
  have hfl : findF l start < l.length := fI_lt _ _
  refine ⟨fun h => ?_, fun h => ?_⟩
  · unfold pathF; rw [if_pos h]
  unfold pathF; rw [if_neg (by omega)]
  generalize hi0 : (findF l start).toNat = i0
  have hi0' : i0 < l.length := by omega
  have hc : findF l start = (i0 : Int) := by omega
  rw [hc]
  refine LoopV.cnt Try.mixed [0, 1, 2, 7] l.length (fun k => [(8, .c (.d (.int .i64 ((List.range k).foldl (bestStep l i0 year) (i0, 0)).1))), (9, .c (.d (.int .i64 ((List.range k).foldl (bestStep l i0 year) (i0, 0)).2))), (10, .c (.d (.int .i64 k)))]) (fun _ => True) trivial ?_ (by push_cast; exact ⟨rfl, rfl⟩)
  intro k hk _
  have hb := best_lt l i0 year hi0' k hk
  have hst : (List.range (k + 1)).foldl (bestStep l i0 year) (i0, 0) = bestStep l i0 year ((List.range k).foldl (bestStep l i0 year) (i0, 0)) k := by rw [List.range_succ, List.foldl_append]; rfl
  have hfin : k = l.length → ((List.range k).foldl (bestStep l i0 year) (i0, 0)).1 = bestF l i0 year := fun e => by rw [e]; rfl
  generalize (List.range k).foldl (bestStep l i0 year) (i0, 0) = b at *
  generalize (List.range (k + 1)).foldl (bestStep l i0 year) (i0, 0) = b' at *
  push_cast
  refine ⟨fun h => ?_, fun h => ?_⟩
  · have hk' : k < l.length := by omega
    have hdl : (distF l k).length = l.length := distN_len l k l.length
    have g1 : (distF l k).getD i0 0 = (distF l k)[i0]'(by omega) := getD_at _ _
    unfold bestStep at hst
    rw [g1, getD_at hk', getD_at hb] at hst
    have v1 := ho.ok _ (List.getElem_mem hk')
    have v2 := ho.ok _ (List.getElem_mem hb)
    refine ⟨hk', ?_⟩
    refine CallL.q (c36 l ho.uniq k hk' hlen hto) ?_
    push_cast
    refine ⟨by omega, hk', ?_⟩
    refine CallL.q (c24 l[k] year v1.u0 v1.b0 v1.b1 v1.u1 h5 h6) ?_
    push_cast
    refine ⟨by omega, ?_⟩
    refine CallL.q (c24 l[b.1] year v2.u0 v2.b0 v2.b1 v2.u1 h5 h6) ?_
    push_cast
    have y1 : (riskF l[k] year < riskF l[b.1] year ∨ riskF l[k] year = riskF l[b.1] year ∧ (distF l k)[i0]'(by omega) < b.2) → 0 ≤ (distF l k)[i0]'(by omega) → b' = (k, (distF l k)[i0]'(by omega)) := fun c d => by rw [hst, if_neg (by omega), if_pos c]
    have y2 : ¬ (riskF l[k] year < riskF l[b.1] year ∨ riskF l[k] year = riskF l[b.1] year ∧ (distF l k)[i0]'(by omega) < b.2) → b' = b := fun c => by rw [hst, if_neg c]; split <;> rfl
    have y3 : (distF l k)[i0]'(by omega) < 0 → b' = b := fun c => by rw [hst, if_pos c]
    have inc : (-9223372036854775808 ≤ (k : Int) + 1 ∧ (k : Int) + 1 ≤ 9223372036854775807) := ⟨by omega, by omega⟩
    have z2 : b' = b → (-9223372036854775808 ≤ (k : Int) + 1 ∧ (k : Int) + 1 ≤ 9223372036854775807) ∧ k < l.length ∧ ((b'.1 : Nat) : Int) = b.1 ∧ b'.2 = b.2 := fun e => ⟨inc, hk', by rw [e]; exact ⟨rfl, rfl⟩⟩
    have z1 : b' = (k, (distF l k)[i0]'(by omega)) → (-9223372036854775808 ≤ (k : Int) + 1 ∧ (k : Int) + 1 ≤ 9223372036854775807) ∧ k < l.length ∧ ((b'.1 : Nat) : Int) = k ∧ b'.2 = (distF l k)[i0]'(by omega) := fun e => ⟨inc, hk', by rw [e]; exact ⟨rfl, rfl⟩⟩
    exact ⟨fun d => ⟨fun c => ⟨fun e => ⟨fun f => z1 (y1 (.inr ⟨e, f⟩) d), fun f => z2 (y2 (by omega))⟩, fun e => z2 (y2 (by omega))⟩, fun c => z1 (y1 (.inl c) d)⟩, fun d => z2 (y3 d)⟩
  have hbe := hfin (by omega)
  rw [hbe] at hb ⊢
  refine ⟨hb, ?_⟩
  refine CallL.q (c36 l ho.uniq _ hb hlen hto) ?_
  push_cast
  have hd := distF_ok l ho.uniq (bestF l i0 year) hb
  generalize distF l (bestF l i0 year) = n at *
  refine LoopV.of Try.mixed [0, 14] (fun s : Nat × List Int × Nat => [(7, .c (.d (.int .i64 s.1))), (15, .c (.own 0 s.2.2))]) (fun s => [.row 3 1 (s.2.1.map iD) s.2.2]) (fun s => s.1 < l.length ∧ s.2.1 ++ goF l n s.1 = start :: goF l n i0 ∧ s.2.1.length + (n.getD s.1 0).toNat ≤ 1001) (fun s => (n.getD s.1 0).toNat) (i0, [start], 0) ⟨hi0', rfl, ?_⟩ (by push_cast) ?_
  · have := dist_lt hd i0 hi0'
    show 1 + (n.getD i0 0).toNat ≤ 1001
    omega
  rintro ⟨i, out, ver⟩ ⟨hi, hout, hle⟩
  have hi : i < l.length := hi
  have hnl := hd.len
  have gi : n.getD i 0 = n[i]'(by omega) := getD_at _ _
  have hle : out.length + (n.getD i 0).toNat ≤ 1001 := hle
  have hout : out ++ goF l n i = start :: goF l n i0 := hout
  push_cast
  refine ⟨by omega, fun h2 => ?_, fun h2 => ?_⟩
  · have tl := hto _ (List.getElem_mem hi)
    have hp : 0 < n.getD i 0 := by omega
    obtain ⟨x1, x2, x3, x4⟩ := nx_ok hd i hi hp
    have ub := dist_lt hd i hi
    refine LoopV.cnt Try.mixed [0, 7, 14, 15] l.length (fun j => [(16, .c (.d (.int .i64 (optI ((List.range j).find? (nxB l n i)))))), (17, .c (.d (.int .i64 j)))]) (fun _ => True) trivial ?_ (by push_cast; exact rfl)
    intro j hj _
    have hz' : optI ((List.range (j + 1)).find? (nxB l n i)) = if optI ((List.range j).find? (nxB l n i)) < 0 then (if nxB l n i j = true then (j : Int) else -1) else optI ((List.range j).find? (nxB l n i)) := by
      exact optI_step _ j
    have hzm : -1 ≤ optI ((List.range j).find? (nxB l n i)) := by
      cases (List.range j).find? (nxB l n i) with
      | none => simp [optI]
      | some k => show -1 ≤ (k : Int); omega
    have hzf : j = l.length → optI ((List.range j).find? (nxB l n i)) = (nx l n i : Int) := fun e => by rw [e, x1]; rfl
    generalize optI ((List.range j).find? (nxB l n i)) = z at *
    generalize optI ((List.range (j + 1)).find? (nxB l n i)) = z' at *
    push_cast
    refine ⟨fun h3 => ?_, fun h3 => ?_⟩
    · have hj' : j < l.length := by omega
      have gj : n.getD j 0 = n[j]'(by omega) := getD_at _ _
      have hB : nxB l n i j = (inF l[i].to l[j].id && decide (n[j]'(by omega) = n[i]'(by omega) - 1)) := by unfold nxB; rw [getD_at hi, getD_at hj', gi, gj]
      refine ⟨fun hz => ⟨hi, hj', ?_⟩, fun hz => ⟨⟨by omega, by omega⟩, hj', by rw [hz', if_neg (by omega)]⟩⟩
      rw [if_pos hz, hB] at hz'
      refine CallX.q (c37 l[i].to l[j].id tl) ?_
      push_cast
      have inc : (-9223372036854775808 ≤ (j : Int) + 1 ∧ (j : Int) + 1 ≤ 9223372036854775807) := ⟨by omega, by omega⟩
      refine ⟨fun c => ⟨by omega, by omega, ⟨by omega, by omega⟩, fun d => ⟨inc, hj', ?_⟩, fun d => ⟨inc, hj', ?_⟩⟩, fun c => ⟨inc, hj', ?_⟩⟩
      · rw [hz', c, decide_eq_true d]; rfl
      · rw [hz', decide_eq_false d, Bool.and_false, if_neg (by simp)]; omega
      · rw [hz', c, Bool.false_and, if_neg (by simp)]; omega
    · have hz := hzf (by omega)
      subst hz
      refine ⟨by omega, by omega, ⟨by omega, by omega⟩, (nx l n i, out ++ [l[nx l n i].id], ver + 1), ⟨⟨x2, ?_, ?_⟩, ?_⟩, ⟨rfl, rfl⟩, ?_, rfl⟩
      · rw [← hout, goF_next hd i hi hp, getD_at x2]; simp
      · show (out ++ [l[nx l n i].id]).length + (n.getD (nx l n i) 0).toNat ≤ 1001
        rw [x4]; simp only [List.length_append, List.length_singleton]; omega
      · show (n.getD (nx l n i) 0).toNat < _
        rw [x4]; omega
      · simp [iD]
  · rw [goF_end (by omega)] at hout
    rw [List.append_nil] at hout
    rw [hout]; rfl
end Go.Proofs
