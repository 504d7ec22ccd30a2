/- Part of a proof about this program; no condition of its own. -/
import Derived.Test.YtanbfhnmklhjiaaGreatDoorBVw
set_option linter.all false
/- BrowseOrdersUpto holds: from the contract of its function to the given card. No condition. -/
namespace Go.Proofs.YtanbfhnmklhjiaaGreatDoor.browseOrdersUpto
open Go Go.ChangeShapes Go.WideShapes Go.RowKit Go.Ax Go.Fc 
theorem sh_auths : Ax.shape Tryz.prog 8 23 = some [.lst shAu] := by kernel_rfl
theorem sh_how : Ax.shape Tryz.prog 8 25 = some [.int .i64, .str] := by kernel_rfl
theorem sh_recs : Ax.shape Tryz.prog 8 22 = some [.lst shRec] := by kernel_rfl
theorem paramsOk : ∀ t ∈ Tryz.f5.params.toList, Tryz.prog.readableRec t = true ∧ t < Tryz.prog.types.size := by
  rw [Tryz.params5]
  intro t ht
  simp only [List.mem_cons, List.not_mem_nil, or_false] at ht
  rcases ht with rfl | rfl | rfl
  all_goals exact ⟨by kernel_rfl, of_decide_eq_true (by kernel_rfl)⟩
set_option maxRecDepth 100000 in
/-- What the contract gives, for every argument. -/
theorem contract (H : Type) (enc : TypeId × Value → H) (W : World) (base : Nat) (args : Array Value) (ds gs : List (DataW H)) (before : List MemPlace)
    (hval : ∀ (j : Nat) t v, Tryz.f5.params[j]? = some t → args[j]? = some v → Value.okWide Tryz.prog W .any base t v)
    (hW : DataW.Whole enc Tryz.prog Tryz.f5.params.toList Rows.browseOrdersSpec.vars false W args.toList ds gs before) (hB : Rows.uptoBulkAll (ds ++ gs) ≤ KK) (hL : laidMetH Tryz.prog Rows.browseOrdersUptoRow.laid W) :
    Calls Tryz.prog 5 args W fun e W' => ∃ v, e = .returned v ∧ Rows.browseOrdersSpec.post enc Tryz.prog Tryz.f5 false true false false W args v W' := by
  have hW' := hW
  obtain ⟨p, q, hA0, hV, rfl, hfz, hnd⟩ := hW
  have hA : DataW.TrodAll enc Tryz.prog W 0 (fun _ => true) true Tryz.f5.params.toList args.toList ds p := hA0
  rw [Tryz.params5] at hA hval
  obtain ⟨v0, vs0, d0, ds0, p0, q0, hargs0, rfl, rfl, h0, r0⟩ := trodAll_cons hA
  obtain ⟨v1, vs1, d1, ds1, p1, q1, hargs1, rfl, rfl, h1, r1⟩ := trodAll_cons r0
  obtain ⟨v2, vs2, d2, ds2, p2, q2, hargs2, rfl, rfl, h2, r2⟩ := trodAll_cons r1
  obtain ⟨rfl, rfl, rfl⟩ := trodAll_nil r2
  obtain rfl : args = #[v0, v1, v2] := by cases args; simp_all
  obtain ⟨x0, f0, a0⟩ := arg_oneB KK_le 8 (cells_slice Tryz.underlying22 (hval 0 22 v0 rfl rfl)) sh_recs h0 (Nat.le_trans (bulk_mem (by simp)) hB)
  obtain ⟨l0, rfl, hs0, hc0⟩ := fitRecs f0
  obtain ⟨x1, f1, a1⟩ := arg_oneB KK_le 8 (cells_slice Tryz.underlying23 (hval 1 23 v1 rfl rfl)) sh_auths h1 (Nat.le_trans (bulk_mem (by simp)) hB)
  obtain ⟨l1, rfl, ha1⟩ := fitAus f1
  obtain ⟨c2, rfl, _⟩ := okWide_struct Tryz.underlying25 (hval 2 25 v2 rfl rfl)
  obtain ⟨x2, f2, a2⟩ := arg_aggB KK_le 8 sh_how h2 (Nat.le_trans (bulk_mem (by simp)) hB)
  obtain ⟨k2, s2, rfl⟩ := fitHow f2
  exact law_post hW' rfl (by kernel_rfl) Tryz.underlying4 rfl laidOut paramsOk (c5 std_in pow_in l0 l1 k2 s2 ⟨hs0, ha1⟩) (globs hL) (.cons a0 (.cons a1 (.cons a2 .nil)))
theorem laid_met (os : Os) : laidMet Tryz.prog Rows.browseOrdersUptoRow.laid ((laidWorld os).forCall (fun _ _ => 0) ⟨#[], #[.slice none 0 0, .slice none 0 0, .agg #[.int .i64 0, .string ⟨#[]⟩]], []⟩).memory :=
  wLaid os _
theorem reads (os : Os) {H : Type} (enc : TypeId × Value → H) : ∃ places, DataW.whole enc Tryz.prog ((laidWorld os).forCall (fun _ _ => 0) ⟨#[], #[.slice none 0 0, .slice none 0 0, .agg #[.int .i64 0, .string ⟨#[]⟩]], []⟩).memory Tryz.f5.params.toList Rows.browseOrdersSpec.vars false (#[.slice none 0 0, .slice none 0 0, .agg #[.int .i64 0, .string ⟨#[]⟩]] : Array Value).toList 8 = some ([.nil, .nil, .agg [.lit (.int .i64 0), .lit (.string [])]], [], places) :=
  ⟨[], by kernel_rfl⟩
set_option maxRecDepth 100000 in
theorem lifted (os : Os) (started : os.Started) (H : Type) (enc : TypeId × Value → H) (F : Stop.Interp) :
    ReturnsInHanded {} Tryz.checked os 5 .any ((Rows.OpenSpec.upto Rows.browseOrdersSpec).preRow enc Tryz.prog Tryz.f5 Rows.browseOrdersUptoRow.domain false Rows.browseOrdersUptoRow.laid) (((Rows.OpenSpec.upto Rows.browseOrdersSpec).at F).post enc Tryz.prog Tryz.f5 false true false false) := by
  obtain ⟨places, hx⟩ := reads os enc
  refine returnsInHanded_of_row (C := Tryz.checked) (s := Rows.OpenSpec.upto Rows.browseOrdersSpec) own started (by kernel_rfl) Tryz.func5
    (witness_row_atRef (enc := enc) (C := Tryz.checked) false (laidWorld os) #[.slice none 0 0, .slice none 0 0, .agg #[.int .i64 0, .string ⟨#[]⟩]] rfl (wVars os _) (wRest os _) (by kernel_rfl)
      (OpenSpec.preRow_of_cond 8 hx (by kernel_rfl) (fun k hk => by cases hk; kernel_rfl) (by kernel_rfl) (laid_met os))) ?_
  intro W base args ds gs before hval hW _ hcond _ hL _ _
  exact contract H enc W base args ds gs before hval hW (of_decide_eq_true (hcond _ rfl)) hL
theorem k_wf : (Rows.browseOrdersUptoRow.wf (OpenSpec.ofChange (Rows.OpenSpec.upto Rows.browseOrdersSpec).bare)) = true := by kernel_rfl
theorem k_ip : (Rows.browseOrdersUptoRow.inPlace == Tryz.prog.inPlace 5) = true := by kernel_rfl
theorem k_un : (Rows.browseOrdersUptoRow.unfollowed == Tryz.prog.unfollowed 5) = true := by kernel_rfl
theorem k_re : (Rows.browseOrdersUptoRow.recurses == Tryz.prog.recurses 5) = true := by kernel_rfl
theorem k_vn : (Rows.browseOrdersUptoRow.named == Tryz.prog.varsNamed 5) = true := by kernel_rfl
theorem closed : joinedFacts Tryz.prog 5 Tryz.f5 (Rows.OpenSpec.upto Rows.browseOrdersSpec).bare Rows.browseOrdersUptoRow = true := by
  unfold joinedFacts
  exact and_ok (and_ok (and_ok (and_ok (and_ok (and_ok (and_ok (and_ok (and_ok (and_ok (and_ok (and_ok (and_ok (and_ok (and_ok (and_ok (and_ok (and_ok (and_ok (and_ok (and_ok (and_ok (and_ok (and_ok (and_ok (and_ok (and_ok (and_ok (and_ok (and_ok (and_ok k_wf laidOut) k_mr) (by kernel_rfl)) (by kernel_rfl)) (by kernel_rfl)) k_st) (by kernel_rfl)) k_sk) k_ip) k_un) k_re) k_vn) (by kernel_rfl)) (by kernel_rfl)) (by kernel_rfl)) (by kernel_rfl)) (by kernel_rfl)) (by kernel_rfl)) (by kernel_rfl)) (by kernel_rfl)) (by kernel_rfl)) k_pk) (by kernel_rfl)) k_sh) k_me) k_lf) k_mk) (by kernel_rfl)) (by kernel_rfl)) (by kernel_rfl)) (by kernel_rfl)
theorem said : Rows.BrowseOrdersUptoSaid :=
  OpenClaim.holds_of_cond 5 Tryz.f5 rfl rfl rfl rfl rfl rfl rfl ⟨rfl, rfl, rfl, rfl, rfl⟩ rfl rfl rfl rfl rfl (by kernel_rfl) Tryz.func5 closed
    (of_decide_eq_true (by kernel_rfl)) (by unfold Func.isWrapper; first | (rw [if_pos (by decide +kernel)]; kernel_rfl) | (rw [if_neg (by decide +kernel)]; exact ⟨rfl, rfl⟩))
    (fun os started H enc _ F => by rw [OpenClaim.pre_eq_preRow]; exact lifted os started H enc F)
theorem k_go : false = Rows.browseOrdersUptoRow.goesBy Tryz.prog := by kernel_rfl
theorem k_wt : Rows.browseOrdersUptoRow.wfByText (Rows.OpenSpec.upto Rows.browseOrdersSpec) = true := by kernel_rfl
theorem plain (f : FuncId) (fn : Func) (hf : Tryz.pinned.checked.prog.funcNamed "library/librarylaw24.BrowseOrders" = some f) (hfn : Tryz.pinned.checked.prog.funcs[f]? = some fn) :
    false = Tryz.pinned.checked.prog.looks [] ∧ ∀ (j : Nat) t, fn.params[j]? = some t → Tryz.pinned.checked.prog.wantsStandIn t = false := by
  obtain rfl : f = 5 := Option.some.inj ((show Tryz.prog.funcNamed "library/librarylaw24.BrowseOrders" = some 5 by kernel_rfl).symm.trans hf) |>.symm
  obtain rfl : fn = Tryz.f5 := (Option.some.inj (Tryz.func5.symm.trans hfn)).symm
  refine ⟨by kernel_rfl, fun j t ht => ?_⟩
  rw [Tryz.params5] at ht
  have hm : t ∈ Tryz.f5.params := by rw [Tryz.params5]; exact Array.mem_of_getElem? ht
  rw [Tryz.params5] at hm
  simp only [List.mem_toArray, List.mem_cons, List.not_mem_nil, or_false] at hm
  rcases hm with rfl | rfl | rfl
  · exact (show Tryz.prog.wantsStandIn 22 = false by kernel_rfl)
  · exact (show Tryz.prog.wantsStandIn 23 = false by kernel_rfl)
  · exact (show Tryz.prog.wantsStandIn 25 = false by kernel_rfl)
theorem browseOrdersUpto_holds : Rows.BrowseOrdersUptoCardSaid :=
  Claim7.holds_tied_plain_at .later [] _ _ _ _ said (fun _ h => by cases h) k_wt (fun _ h => by cases h) browseOrdersUpto_row_tie rfl ⟨rfl, rfl⟩ (by kernel_rfl) rfl plain k_go
end Go.Proofs.YtanbfhnmklhjiaaGreatDoor.browseOrdersUpto
