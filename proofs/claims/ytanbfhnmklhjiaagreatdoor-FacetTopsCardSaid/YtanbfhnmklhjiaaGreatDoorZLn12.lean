/- Part of a proof about this program; no condition of its own. -/
import Derived.Test.YtanbfhnmklhjiaaGreatDoorZLy
set_option linter.all false
/- FacetTops holds: from the contract of its function to the given card. No condition. -/
namespace Go.Proofs.YtanbfhnmklhjiaaGreatDoor.facetTops
open Go Go.ChangeShapes Go.WideShapes Go.RowKit Go.Ax Go.Fc 
theorem sh_bks : Ax.shape Tryz.prog 8 70 = some [.lst [.str, .int .i64]] := by kernel_rfl
theorem sh_int : Ax.shape Tryz.prog 8 3 = some [.int .i64] := by kernel_rfl
theorem paramsOk : ∀ t ∈ Tryz.f12.params.toList, Tryz.prog.readableRec t = true ∧ t < Tryz.prog.types.size := by
  rw [Tryz.params12]
  intro t ht
  simp only [List.mem_cons, List.not_mem_nil, or_false] at ht
  rcases ht with rfl | rfl
  all_goals exact ⟨by kernel_rfl, of_decide_eq_true (by kernel_rfl)⟩
set_option maxRecDepth 100000 in
/-- What the contract gives, for every argument. -/
theorem contract (H : Type) (enc : TypeId × Value → H) (W : World) (base : Nat) (args : Array Value) (ds gs : List (DataW H)) (before : List MemPlace)
    (hval : ∀ (j : Nat) t v, Tryz.f12.params[j]? = some t → args[j]? = some v → Value.okWide Tryz.prog W .any base t v)
    (hW : DataW.Whole enc Tryz.prog Tryz.f12.params.toList Rows.facetTopsSpec.vars false W args.toList ds gs before) (hL : laidMetH Tryz.prog Rows.facetTopsRow.laid W) :
    Calls Tryz.prog 12 args W fun e W' => ∃ v, e = .returned v ∧ Rows.facetTopsSpec.post enc Tryz.prog Tryz.f12 false true false false W args v W' := by
  have hW' := hW
  obtain ⟨p, q, hA0, hV, rfl, hfz, hnd⟩ := hW
  have hA : DataW.TrodAll enc Tryz.prog W 0 (fun _ => true) true Tryz.f12.params.toList args.toList ds p := hA0
  rw [Tryz.params12] at hA hval
  obtain ⟨v0, vs0, d0, ds0, p0, q0, hargs0, rfl, rfl, h0, r0⟩ := trodAll_cons hA
  obtain ⟨v1, vs1, d1, ds1, p1, q1, hargs1, rfl, rfl, h1, r1⟩ := trodAll_cons r0
  obtain ⟨rfl, rfl, rfl⟩ := trodAll_nil r1
  obtain rfl : args = #[v0, v1] := by cases args; simp_all
  obtain ⟨x0, f0, a0⟩ := arg_one 8 (cells_slice Tryz.underlying70 (hval 0 70 v0 rfl rfl)) sh_bks h0
  obtain ⟨l0, rfl, _⟩ := fitBksF f0
  obtain ⟨x1, f1, a1⟩ := arg_one 8 (cells_int Tryz.underlying3 (hval 1 3 v1 rfl rfl)) sh_int h1
  obtain ⟨n1, rfl, hn1, hm1⟩ := fit_i64 f1
  exact law_post hW' rfl (by kernel_rfl) Tryz.underlying4 rfl laidOut paramsOk (c12 pow_in l0 n1) (globs hL) (.cons a0 (.cons a1 .nil))
theorem laid_met (os : Os) : laidMet Tryz.prog Rows.facetTopsRow.laid ((laidWorld os).forCall (fun _ _ => 0) ⟨#[], #[.slice none 0 0, .int .i64 0], []⟩).memory :=
  wLaid os _
theorem reads (os : Os) {H : Type} (enc : TypeId × Value → H) : ∃ places, DataW.whole enc Tryz.prog ((laidWorld os).forCall (fun _ _ => 0) ⟨#[], #[.slice none 0 0, .int .i64 0], []⟩).memory Tryz.f12.params.toList Rows.facetTopsSpec.vars false (#[.slice none 0 0, .int .i64 0] : Array Value).toList 8 = some ([.nil, .lit (.int .i64 0)], [], places) :=
  ⟨[], by kernel_rfl⟩
set_option maxRecDepth 100000 in
theorem lifted (os : Os) (started : os.Started) (H : Type) (enc : TypeId × Value → H) (F : Stop.Interp) :
    ReturnsInHanded {} Tryz.checked os 12 .any ((OpenSpec.ofChange Rows.facetTopsSpec).preRow enc Tryz.prog Tryz.f12 Rows.facetTopsRow.domain false Rows.facetTopsRow.laid) (((OpenSpec.ofChange Rows.facetTopsSpec).at F).post enc Tryz.prog Tryz.f12 false true false false) := by
  obtain ⟨places, hx⟩ := reads os enc
  refine returnsInHanded_of_row (C := Tryz.checked) (s := OpenSpec.ofChange Rows.facetTopsSpec) own started (by kernel_rfl) Tryz.func12
    (witness_row_atRef (enc := enc) (C := Tryz.checked) false (laidWorld os) #[.slice none 0 0, .int .i64 0] rfl (wVars os _) (wRest os _) (by kernel_rfl)
      (OpenSpec.preRow_of_cond 8 hx (by kernel_rfl) (fun k hk => by cases hk) (by kernel_rfl) (laid_met os))) ?_
  intro W base args ds gs before hval hW _ _ _ hL _ _
  exact contract H enc W base args ds gs before hval hW hL
theorem k_wf : (Rows.facetTopsRow.wf (OpenSpec.ofChange (OpenSpec.ofChange Rows.facetTopsSpec).bare)) = true := by kernel_rfl
theorem k_ip : (Rows.facetTopsRow.inPlace == Tryz.prog.inPlace 12) = true := by kernel_rfl
theorem k_un : (Rows.facetTopsRow.unfollowed == Tryz.prog.unfollowed 12) = true := by kernel_rfl
theorem k_re : (Rows.facetTopsRow.recurses == Tryz.prog.recurses 12) = true := by kernel_rfl
theorem k_vn : (Rows.facetTopsRow.named == Tryz.prog.varsNamed 12) = true := by kernel_rfl
theorem closed : joinedFacts Tryz.prog 12 Tryz.f12 (OpenSpec.ofChange Rows.facetTopsSpec).bare Rows.facetTopsRow = true := by
  unfold joinedFacts
  exact and_ok (and_ok (and_ok (and_ok (and_ok (and_ok (and_ok (and_ok (and_ok (and_ok (and_ok (and_ok (and_ok (and_ok (and_ok (and_ok (and_ok (and_ok (and_ok (and_ok (and_ok (and_ok (and_ok (and_ok (and_ok (and_ok (and_ok (and_ok (and_ok (and_ok (and_ok k_wf laidOut) k_mr) (by kernel_rfl)) (by kernel_rfl)) (by kernel_rfl)) k_st) (by kernel_rfl)) k_sk) k_ip) k_un) k_re) k_vn) (by kernel_rfl)) (by kernel_rfl)) (by kernel_rfl)) (by kernel_rfl)) (by kernel_rfl)) (by kernel_rfl)) (by kernel_rfl)) (by kernel_rfl)) (by kernel_rfl)) k_pk) (by kernel_rfl)) k_sh) k_me) k_lf) k_mk) (by kernel_rfl)) (by kernel_rfl)) (by kernel_rfl)) (by kernel_rfl)
theorem said : Rows.FacetTopsSaid :=
  OpenClaim.holds_of_cond 12 Tryz.f12 rfl rfl rfl rfl rfl rfl rfl ⟨rfl, rfl, rfl, rfl, rfl⟩ rfl rfl rfl rfl rfl (by kernel_rfl) Tryz.func12 closed
    (of_decide_eq_true (by kernel_rfl)) (by unfold Func.isWrapper; first | (rw [if_pos (by decide +kernel)]; kernel_rfl) | (rw [if_neg (by decide +kernel)]; exact ⟨rfl, rfl⟩))
    (fun os started H enc _ F => by rw [OpenClaim.pre_eq_preRow]; exact lifted os started H enc F)
theorem k_go : false = Rows.facetTopsRow.goesBy Tryz.prog := by kernel_rfl
theorem k_wt : Rows.facetTopsRow.wfByText (OpenSpec.ofChange Rows.facetTopsSpec) = true := by kernel_rfl
theorem plain (f : FuncId) (fn : Func) (hf : Tryz.pinned.checked.prog.funcNamed "library/librarylaw23.FacetTops" = some f) (hfn : Tryz.pinned.checked.prog.funcs[f]? = some fn) :
    false = Tryz.pinned.checked.prog.looks [] ∧ ∀ (j : Nat) t, fn.params[j]? = some t → Tryz.pinned.checked.prog.wantsStandIn t = false := by
  obtain rfl : f = 12 := Option.some.inj ((show Tryz.prog.funcNamed "library/librarylaw23.FacetTops" = some 12 by kernel_rfl).symm.trans hf) |>.symm
  obtain rfl : fn = Tryz.f12 := (Option.some.inj (Tryz.func12.symm.trans hfn)).symm
  refine ⟨by kernel_rfl, fun j t ht => ?_⟩
  rw [Tryz.params12] at ht
  have hm : t ∈ Tryz.f12.params := by rw [Tryz.params12]; exact Array.mem_of_getElem? ht
  rw [Tryz.params12] at hm
  simp only [List.mem_toArray, List.mem_cons, List.not_mem_nil, or_false] at hm
  rcases hm with rfl | rfl
  · exact (show Tryz.prog.wantsStandIn 70 = false by kernel_rfl)
  · exact (show Tryz.prog.wantsStandIn 3 = false by kernel_rfl)
theorem facetTops_holds : Rows.FacetTopsCardSaid :=
  Claim7.holds_tied_plain_at .later [] _ _ _ _ said (fun _ h => by cases h) k_wt (fun _ h => by cases h) facetTops_row_tie rfl ⟨rfl, rfl⟩ (by kernel_rfl) rfl plain k_go
end Go.Proofs.YtanbfhnmklhjiaaGreatDoor.facetTops
