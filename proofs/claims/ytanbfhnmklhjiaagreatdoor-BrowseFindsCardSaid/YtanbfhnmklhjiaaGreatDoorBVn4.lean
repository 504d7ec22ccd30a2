/- Part of a proof about this program; no condition of its own. -/
import Derived.Test.YtanbfhnmklhjiaaGreatDoorBVw
set_option linter.all false
/- BrowseFinds holds: from the contract of its function to the given card. No condition. -/
namespace Go.Proofs.YtanbfhnmklhjiaaGreatDoor.browseFinds
open Go Go.ChangeShapes Go.WideShapes Go.RowKit Go.Ax Go.Fc 
theorem sh_brs : Ax.shape Tryz.prog 8 29 = some [.lst shBr] := by kernel_rfl
theorem sh_str : Ax.shape Tryz.prog 8 9 = some [.str] := by kernel_rfl
theorem paramsOk : ∀ t ∈ Tryz.f4.params.toList, Tryz.prog.readableRec t = true ∧ t < Tryz.prog.types.size := by
  rw [Tryz.params4]
  intro t ht
  simp only [List.mem_cons, List.not_mem_nil, or_false] at ht
  rcases ht with rfl | rfl | rfl
  all_goals exact ⟨by kernel_rfl, of_decide_eq_true (by kernel_rfl)⟩
set_option maxRecDepth 100000 in
/-- What the contract gives, for every argument. -/
theorem contract (H : Type) (enc : TypeId × Value → H) (W : World) (base : Nat) (args : Array Value) (ds gs : List (DataW H)) (before : List MemPlace)
    (hval : ∀ (j : Nat) t v, Tryz.f4.params[j]? = some t → args[j]? = some v → Value.okWide Tryz.prog W .any base t v)
    (hW : DataW.Whole enc Tryz.prog Tryz.f4.params.toList Rows.browseFindsSpec.vars false W args.toList ds gs before) (hL : laidMetH Tryz.prog Rows.browseFindsRow.laid W) :
    Calls Tryz.prog 4 args W fun e W' => ∃ v, e = .returned v ∧ Rows.browseFindsSpec.post enc Tryz.prog Tryz.f4 false true false false W args v W' := by
  have hW' := hW
  obtain ⟨p, q, hA0, hV, rfl, hfz, hnd⟩ := hW
  have hA : DataW.TrodAll enc Tryz.prog W 0 (fun _ => true) true Tryz.f4.params.toList args.toList ds p := hA0
  rw [Tryz.params4] at hA hval
  obtain ⟨v0, vs0, d0, ds0, p0, q0, hargs0, rfl, rfl, h0, r0⟩ := trodAll_cons hA
  obtain ⟨v1, vs1, d1, ds1, p1, q1, hargs1, rfl, rfl, h1, r1⟩ := trodAll_cons r0
  obtain ⟨v2, vs2, d2, ds2, p2, q2, hargs2, rfl, rfl, h2, r2⟩ := trodAll_cons r1
  obtain ⟨rfl, rfl, rfl⟩ := trodAll_nil r2
  obtain rfl : args = #[v0, v1, v2] := by cases args; simp_all
  obtain ⟨x0, f0, a0⟩ := arg_one 8 (cells_slice Tryz.underlying29 (hval 0 29 v0 rfl rfl)) sh_brs h0
  obtain ⟨l0, rfl⟩ := fitBrsF f0
  obtain ⟨x1, f1, a1⟩ := arg_one 8 (cells_string Tryz.underlying9 (hval 1 9 v1 rfl rfl)) sh_str h1
  obtain ⟨s1, rfl, hl1⟩ := fit_str f1
  obtain ⟨x2, f2, a2⟩ := arg_one 8 (cells_string Tryz.underlying9 (hval 2 9 v2 rfl rfl)) sh_str h2
  obtain ⟨s2, rfl, hl2⟩ := fit_str f2
  exact law_post hW' rfl (by kernel_rfl) Tryz.underlying4 rfl laidOut paramsOk (c4 std_in pow_in l0 s1 s2) (globs hL) (.cons a0 (.cons a1 (.cons a2 .nil)))
theorem laid_met (os : Os) : laidMet Tryz.prog Rows.browseFindsRow.laid ((laidWorld os).forCall (fun _ _ => 0) ⟨#[], #[.slice none 0 0, .string ⟨#[]⟩, .string ⟨#[]⟩], []⟩).memory :=
  wLaid os _
theorem reads (os : Os) {H : Type} (enc : TypeId × Value → H) : ∃ places, DataW.whole enc Tryz.prog ((laidWorld os).forCall (fun _ _ => 0) ⟨#[], #[.slice none 0 0, .string ⟨#[]⟩, .string ⟨#[]⟩], []⟩).memory Tryz.f4.params.toList Rows.browseFindsSpec.vars false (#[.slice none 0 0, .string ⟨#[]⟩, .string ⟨#[]⟩] : Array Value).toList 8 = some ([.nil, .lit (.string []), .lit (.string [])], [], places) :=
  ⟨[], by kernel_rfl⟩
set_option maxRecDepth 100000 in
theorem lifted (os : Os) (started : os.Started) (H : Type) (enc : TypeId × Value → H) (F : Stop.Interp) :
    ReturnsInHanded {} Tryz.checked os 4 .any ((OpenSpec.ofChange Rows.browseFindsSpec).preRow enc Tryz.prog Tryz.f4 Rows.browseFindsRow.domain false Rows.browseFindsRow.laid) (((OpenSpec.ofChange Rows.browseFindsSpec).at F).post enc Tryz.prog Tryz.f4 false true false false) := by
  obtain ⟨places, hx⟩ := reads os enc
  refine returnsInHanded_of_row (C := Tryz.checked) (s := OpenSpec.ofChange Rows.browseFindsSpec) own started (by kernel_rfl) Tryz.func4
    (witness_row_atRef (enc := enc) (C := Tryz.checked) false (laidWorld os) #[.slice none 0 0, .string ⟨#[]⟩, .string ⟨#[]⟩] rfl (wVars os _) (wRest os _) (by kernel_rfl)
      (OpenSpec.preRow_of_cond 8 hx (by kernel_rfl) (fun k hk => by cases hk) (by kernel_rfl) (laid_met os))) ?_
  intro W base args ds gs before hval hW _ _ _ hL _ _
  exact contract H enc W base args ds gs before hval hW hL
theorem k_wf : (Rows.browseFindsRow.wf (OpenSpec.ofChange (OpenSpec.ofChange Rows.browseFindsSpec).bare)) = true := by kernel_rfl
theorem k_ip : (Rows.browseFindsRow.inPlace == Tryz.prog.inPlace 4) = true := by kernel_rfl
theorem k_un : (Rows.browseFindsRow.unfollowed == Tryz.prog.unfollowed 4) = true := by kernel_rfl
theorem k_re : (Rows.browseFindsRow.recurses == Tryz.prog.recurses 4) = true := by kernel_rfl
theorem k_vn : (Rows.browseFindsRow.named == Tryz.prog.varsNamed 4) = true := by kernel_rfl
theorem closed : joinedFacts Tryz.prog 4 Tryz.f4 (OpenSpec.ofChange Rows.browseFindsSpec).bare Rows.browseFindsRow = true := by
  unfold joinedFacts
  exact and_ok (and_ok (and_ok (and_ok (and_ok (and_ok (and_ok (and_ok (and_ok (and_ok (and_ok (and_ok (and_ok (and_ok (and_ok (and_ok (and_ok (and_ok (and_ok (and_ok (and_ok (and_ok (and_ok (and_ok (and_ok (and_ok (and_ok (and_ok (and_ok (and_ok (and_ok k_wf laidOut) k_mr) (by kernel_rfl)) (by kernel_rfl)) (by kernel_rfl)) k_st) (by kernel_rfl)) k_sk) k_ip) k_un) k_re) k_vn) (by kernel_rfl)) (by kernel_rfl)) (by kernel_rfl)) (by kernel_rfl)) (by kernel_rfl)) (by kernel_rfl)) (by kernel_rfl)) (by kernel_rfl)) (by kernel_rfl)) k_pk) (by kernel_rfl)) k_sh) k_me) k_lf) k_mk) (by kernel_rfl)) (by kernel_rfl)) (by kernel_rfl)) (by kernel_rfl)
theorem said : Rows.BrowseFindsSaid :=
  OpenClaim.holds_of_cond 4 Tryz.f4 rfl rfl rfl rfl rfl rfl rfl ⟨rfl, rfl, rfl, rfl, rfl⟩ rfl rfl rfl rfl rfl (by kernel_rfl) Tryz.func4 closed
    (of_decide_eq_true (by kernel_rfl)) (by unfold Func.isWrapper; first | (rw [if_pos (by decide +kernel)]; kernel_rfl) | (rw [if_neg (by decide +kernel)]; exact ⟨rfl, rfl⟩))
    (fun os started H enc _ F => by rw [OpenClaim.pre_eq_preRow]; exact lifted os started H enc F)
theorem k_go : false = Rows.browseFindsRow.goesBy Tryz.prog := by kernel_rfl
theorem k_wt : Rows.browseFindsRow.wfByText (OpenSpec.ofChange Rows.browseFindsSpec) = true := by kernel_rfl
theorem plain (f : FuncId) (fn : Func) (hf : Tryz.pinned.checked.prog.funcNamed "library/librarylaw24.BrowseFinds" = some f) (hfn : Tryz.pinned.checked.prog.funcs[f]? = some fn) :
    false = Tryz.pinned.checked.prog.looks [] ∧ ∀ (j : Nat) t, fn.params[j]? = some t → Tryz.pinned.checked.prog.wantsStandIn t = false := by
  obtain rfl : f = 4 := Option.some.inj ((show Tryz.prog.funcNamed "library/librarylaw24.BrowseFinds" = some 4 by kernel_rfl).symm.trans hf) |>.symm
  obtain rfl : fn = Tryz.f4 := (Option.some.inj (Tryz.func4.symm.trans hfn)).symm
  refine ⟨by kernel_rfl, fun j t ht => ?_⟩
  rw [Tryz.params4] at ht
  have hm : t ∈ Tryz.f4.params := by rw [Tryz.params4]; exact Array.mem_of_getElem? ht
  rw [Tryz.params4] at hm
  simp only [List.mem_toArray, List.mem_cons, List.not_mem_nil, or_false] at hm
  rcases hm with rfl | rfl | rfl
  · exact (show Tryz.prog.wantsStandIn 29 = false by kernel_rfl)
  · exact (show Tryz.prog.wantsStandIn 9 = false by kernel_rfl)
  · exact (show Tryz.prog.wantsStandIn 9 = false by kernel_rfl)
theorem browseFinds_holds : Rows.BrowseFindsCardSaid :=
  Claim7.holds_tied_plain_at .later [] _ _ _ _ said (fun _ h => by cases h) k_wt (fun _ h => by cases h) browseFinds_row_tie rfl ⟨rfl, rfl⟩ (by kernel_rfl) rfl plain k_go
end Go.Proofs.YtanbfhnmklhjiaaGreatDoor.browseFinds
