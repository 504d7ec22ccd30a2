/- Part of a proof about this program; no condition of its own. -/
import Derived.Test.YtanbfhnmklhjiaaGreatDoorZLyB
set_option linter.all false
/- FacetTwiceUpto holds: from the contract of its function to the given card. No condition. -/
namespace Go.Proofs.YtanbfhnmklhjiaaGreatDoor.facetTwiceUpto
open Go Go.ChangeShapes Go.WideShapes Go.RowKit Go.Ax Go.Fc 
theorem sh_bks : Ax.shape Tryz.prog 8 70 = some [.lst [.str, .int .i64]] := by kernel_rfl
theorem sh_ids : Ax.shape Tryz.prog 8 43 = some [.lst [.int .i64]] := by kernel_rfl
theorem sh_recs : Ax.shape Tryz.prog 8 22 = some [.lst shRec] := by kernel_rfl
theorem sh_u8 : Ax.shape Tryz.prog 8 5 = some [.int .u8] := by kernel_rfl
theorem paramsOk : ∀ t ∈ Tryz.f14.params.toList, Tryz.prog.readableRec t = true ∧ t < Tryz.prog.types.size := by
  rw [Tryz.params14]
  intro t ht
  simp only [List.mem_cons, List.not_mem_nil, or_false] at ht
  rcases ht with rfl | rfl | rfl | rfl | rfl
  all_goals exact ⟨by kernel_rfl, of_decide_eq_true (by kernel_rfl)⟩
set_option maxRecDepth 100000 in
/-- What the contract gives, for every argument. -/
theorem contract (H : Type) (enc : TypeId × Value → H) (W : World) (base : Nat) (args : Array Value) (ds gs : List (DataW H)) (before : List MemPlace)
    (hval : ∀ (j : Nat) t v, Tryz.f14.params[j]? = some t → args[j]? = some v → Value.okWide Tryz.prog W .any base t v)
    (hW : DataW.Whole enc Tryz.prog Tryz.f14.params.toList Rows.facetTwiceSpec.vars false W args.toList ds gs before) (hB : Rows.uptoBulkAll (ds ++ gs) ≤ KK) (hL : laidMetH Tryz.prog Rows.facetTwiceUptoRow.laid W) :
    Calls Tryz.prog 14 args W fun e W' => ∃ v, e = .returned v ∧ Rows.facetTwiceSpec.post enc Tryz.prog Tryz.f14 false true false false W args v W' := by
  have hW' := hW
  obtain ⟨p, q, hA0, hV, rfl, hfz, hnd⟩ := hW
  have hA : DataW.TrodAll enc Tryz.prog W 0 (fun _ => true) true Tryz.f14.params.toList args.toList ds p := hA0
  rw [Tryz.params14] at hA hval
  obtain ⟨v0, vs0, d0, ds0, p0, q0, hargs0, rfl, rfl, h0, r0⟩ := trodAll_cons hA
  obtain ⟨v1, vs1, d1, ds1, p1, q1, hargs1, rfl, rfl, h1, r1⟩ := trodAll_cons r0
  obtain ⟨v2, vs2, d2, ds2, p2, q2, hargs2, rfl, rfl, h2, r2⟩ := trodAll_cons r1
  obtain ⟨v3, vs3, d3, ds3, p3, q3, hargs3, rfl, rfl, h3, r3⟩ := trodAll_cons r2
  obtain ⟨v4, vs4, d4, ds4, p4, q4, hargs4, rfl, rfl, h4, r4⟩ := trodAll_cons r3
  obtain ⟨rfl, rfl, rfl⟩ := trodAll_nil r4
  obtain rfl : args = #[v0, v1, v2, v3, v4] := by cases args; simp_all
  obtain ⟨x0, f0, a0⟩ := arg_oneB KK_le 8 (cells_slice Tryz.underlying22 (hval 0 22 v0 rfl rfl)) sh_recs h0 (Nat.le_trans (bulk_mem (by simp)) hB)
  obtain ⟨l0, rfl, hs0, hc0⟩ := fitRecs f0
  obtain ⟨x1, f1, a1⟩ := arg_oneB KK_le 8 (cells_slice Tryz.underlying43 (hval 1 43 v1 rfl rfl)) sh_ids h1 (Nat.le_trans (bulk_mem (by simp)) hB)
  obtain ⟨i1, rfl, _⟩ := fitInts f1
  obtain ⟨c2, rfl, _⟩ := okWide_array Tryz.underlying80 (hval 2 80 v2 rfl rfl)
  obtain ⟨a2', b2', a2⟩ := arg_ii Tryz.underlying80 Tryz.underlying3 (by kernel_rfl) (by kernel_rfl) h2
  obtain ⟨x3, f3, a3⟩ := arg_oneB KK_le 8 (cells_slice Tryz.underlying70 (hval 3 70 v3 rfl rfl)) sh_bks h3 (Nat.le_trans (bulk_mem (by simp)) hB)
  obtain ⟨l3, rfl, _⟩ := fitBks f3
  obtain ⟨x4, f4, a4⟩ := arg_oneB KK_le 8 (cells_int Tryz.underlying5 (hval 4 5 v4 rfl rfl)) sh_u8 h4 (Nat.le_trans (bulk_mem (by simp)) hB)
  obtain ⟨n4, rfl, hn4, hm4⟩ := fitB_u8 f4
  exact law_post hW' rfl (by kernel_rfl) Tryz.underlying4 rfl laidOut paramsOk (c14 pow_in l0 i1 a2' b2' l3 n4 hs0 hc0 hn4 hm4) (globs hL) (.cons a0 (.cons a1 (.cons a2 (.cons a3 (.cons a4 .nil)))))
theorem laid_met (os : Os) : laidMet Tryz.prog Rows.facetTwiceUptoRow.laid ((laidWorld os).forCall (fun _ _ => 0) ⟨#[], #[.slice none 0 0, .slice none 0 0, .agg #[.int .i64 0, .int .i64 0], .slice none 0 0, .int .u8 0], []⟩).memory :=
  wLaid os _
theorem reads (os : Os) {H : Type} (enc : TypeId × Value → H) : ∃ places, DataW.whole enc Tryz.prog ((laidWorld os).forCall (fun _ _ => 0) ⟨#[], #[.slice none 0 0, .slice none 0 0, .agg #[.int .i64 0, .int .i64 0], .slice none 0 0, .int .u8 0], []⟩).memory Tryz.f14.params.toList Rows.facetTwiceSpec.vars false (#[.slice none 0 0, .slice none 0 0, .agg #[.int .i64 0, .int .i64 0], .slice none 0 0, .int .u8 0] : Array Value).toList 8 = some ([.nil, .nil, .agg [.lit (.int .i64 0), .lit (.int .i64 0)], .nil, .lit (.int .u8 0)], [], places) :=
  ⟨[], by kernel_rfl⟩
set_option maxRecDepth 100000 in
theorem lifted (os : Os) (started : os.Started) (H : Type) (enc : TypeId × Value → H) (F : Stop.Interp) :
    ReturnsInHanded {} Tryz.checked os 14 .any ((Rows.OpenSpec.upto Rows.facetTwiceSpec).preRow enc Tryz.prog Tryz.f14 Rows.facetTwiceUptoRow.domain false Rows.facetTwiceUptoRow.laid) (((Rows.OpenSpec.upto Rows.facetTwiceSpec).at F).post enc Tryz.prog Tryz.f14 false true false false) := by
  obtain ⟨places, hx⟩ := reads os enc
  refine returnsInHanded_of_row (C := Tryz.checked) (s := Rows.OpenSpec.upto Rows.facetTwiceSpec) own started (by kernel_rfl) Tryz.func14
    (witness_row_atRef (enc := enc) (C := Tryz.checked) false (laidWorld os) #[.slice none 0 0, .slice none 0 0, .agg #[.int .i64 0, .int .i64 0], .slice none 0 0, .int .u8 0] rfl (wVars os _) (wRest os _) (by kernel_rfl)
      (OpenSpec.preRow_of_cond 8 hx (by kernel_rfl) (fun k hk => by cases hk; kernel_rfl) (by kernel_rfl) (laid_met os))) ?_
  intro W base args ds gs before hval hW _ hcond _ hL _ _
  exact contract H enc W base args ds gs before hval hW (of_decide_eq_true (hcond _ rfl)) hL
theorem k_wf : (Rows.facetTwiceUptoRow.wf (OpenSpec.ofChange (Rows.OpenSpec.upto Rows.facetTwiceSpec).bare)) = true := by kernel_rfl
theorem k_ip : (Rows.facetTwiceUptoRow.inPlace == Tryz.prog.inPlace 14) = true := by kernel_rfl
theorem k_un : (Rows.facetTwiceUptoRow.unfollowed == Tryz.prog.unfollowed 14) = true := by kernel_rfl
theorem k_re : (Rows.facetTwiceUptoRow.recurses == Tryz.prog.recurses 14) = true := by kernel_rfl
theorem k_vn : (Rows.facetTwiceUptoRow.named == Tryz.prog.varsNamed 14) = true := by kernel_rfl
theorem closed : joinedFacts Tryz.prog 14 Tryz.f14 (Rows.OpenSpec.upto Rows.facetTwiceSpec).bare Rows.facetTwiceUptoRow = true := by
  unfold joinedFacts
  exact and_ok (and_ok (and_ok (and_ok (and_ok (and_ok (and_ok (and_ok (and_ok (and_ok (and_ok (and_ok (and_ok (and_ok (and_ok (and_ok (and_ok (and_ok (and_ok (and_ok (and_ok (and_ok (and_ok (and_ok (and_ok (and_ok (and_ok (and_ok (and_ok (and_ok (and_ok k_wf laidOut) k_mr) (by kernel_rfl)) (by kernel_rfl)) (by kernel_rfl)) k_st) (by kernel_rfl)) k_sk) k_ip) k_un) k_re) k_vn) (by kernel_rfl)) (by kernel_rfl)) (by kernel_rfl)) (by kernel_rfl)) (by kernel_rfl)) (by kernel_rfl)) (by kernel_rfl)) (by kernel_rfl)) (by kernel_rfl)) k_pk) (by kernel_rfl)) k_sh) k_me) k_lf) k_mk) (by kernel_rfl)) (by kernel_rfl)) (by kernel_rfl)) (by kernel_rfl)
theorem said : Rows.FacetTwiceUptoSaid :=
  OpenClaim.holds_of_cond 14 Tryz.f14 rfl rfl rfl rfl rfl rfl rfl ⟨rfl, rfl, rfl, rfl, rfl⟩ rfl rfl rfl rfl rfl (by kernel_rfl) Tryz.func14 closed
    (of_decide_eq_true (by kernel_rfl)) (by unfold Func.isWrapper; first | (rw [if_pos (by decide +kernel)]; kernel_rfl) | (rw [if_neg (by decide +kernel)]; exact ⟨rfl, rfl⟩))
    (fun os started H enc _ F => by rw [OpenClaim.pre_eq_preRow]; exact lifted os started H enc F)
theorem k_go : false = Rows.facetTwiceUptoRow.goesBy Tryz.prog := by kernel_rfl
theorem k_wt : Rows.facetTwiceUptoRow.wfByText (Rows.OpenSpec.upto Rows.facetTwiceSpec) = true := by kernel_rfl
theorem plain (f : FuncId) (fn : Func) (hf : Tryz.pinned.checked.prog.funcNamed "library/librarylaw23.FacetTwice" = some f) (hfn : Tryz.pinned.checked.prog.funcs[f]? = some fn) :
    false = Tryz.pinned.checked.prog.looks [] ∧ ∀ (j : Nat) t, fn.params[j]? = some t → Tryz.pinned.checked.prog.wantsStandIn t = false := by
  obtain rfl : f = 14 := Option.some.inj ((show Tryz.prog.funcNamed "library/librarylaw23.FacetTwice" = some 14 by kernel_rfl).symm.trans hf) |>.symm
  obtain rfl : fn = Tryz.f14 := (Option.some.inj (Tryz.func14.symm.trans hfn)).symm
  refine ⟨by kernel_rfl, fun j t ht => ?_⟩
  rw [Tryz.params14] at ht
  have hm : t ∈ Tryz.f14.params := by rw [Tryz.params14]; exact Array.mem_of_getElem? ht
  rw [Tryz.params14] at hm
  simp only [List.mem_toArray, List.mem_cons, List.not_mem_nil, or_false] at hm
  rcases hm with rfl | rfl | rfl | rfl | rfl
  · exact (show Tryz.prog.wantsStandIn 22 = false by kernel_rfl)
  · exact (show Tryz.prog.wantsStandIn 43 = false by kernel_rfl)
  · exact (show Tryz.prog.wantsStandIn 80 = false by kernel_rfl)
  · exact (show Tryz.prog.wantsStandIn 70 = false by kernel_rfl)
  · exact (show Tryz.prog.wantsStandIn 5 = false by kernel_rfl)
theorem facetTwiceUpto_holds : Rows.FacetTwiceUptoCardSaid :=
  Claim7.holds_tied_plain_at .later [] _ _ _ _ said (fun _ h => by cases h) k_wt (fun _ h => by cases h) facetTwiceUpto_row_tie rfl ⟨rfl, rfl⟩ (by kernel_rfl) rfl plain k_go
end Go.Proofs.YtanbfhnmklhjiaaGreatDoor.facetTwiceUpto
