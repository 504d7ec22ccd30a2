/- Part of a proof about this program; no condition of its own. -/
import Derived.Test.YtanbfhnmklhjiaaGreatDoorP42
set_option linter.all false
/- AuthorityTurnsUpto holds: from the contract of its function to the given card. No condition. -/
namespace Go.Proofs.YtanbfhnmklhjiaaGreatDoor.authorityTurnsUpto
open Go Go.ChangeShapes Go.WideShapes Go.RowKit Go.Ax Go.Fc 
theorem sh_auths : Ax.shape Tryz.prog 8 23 = some [.lst shAu] := by kernel_rfl
theorem paramsOk : ∀ t ∈ Tryz.f8.params.toList, Tryz.prog.readableRec t = true ∧ t < Tryz.prog.types.size := by
  rw [Tryz.params8]
  intro t ht
  simp only [List.mem_cons, List.not_mem_nil, or_false] at ht
  subst ht
  all_goals exact ⟨by kernel_rfl, of_decide_eq_true (by kernel_rfl)⟩
set_option maxRecDepth 100000 in
/-- What the contract gives, for every argument. -/
theorem contract (H : Type) (enc : TypeId × Value → H) (W : World) (base : Nat) (args : Array Value) (ds gs : List (DataW H)) (before : List MemPlace)
    (hval : ∀ (j : Nat) t v, Tryz.f8.params[j]? = some t → args[j]? = some v → Value.okWide Tryz.prog W .any base t v)
    (hW : DataW.Whole enc Tryz.prog Tryz.f8.params.toList Rows.authorityTurnsSpec.vars false W args.toList ds gs before) (hB : Rows.uptoBulkAll (ds ++ gs) ≤ KK) (hL : laidMetH Tryz.prog Rows.authorityTurnsUptoRow.laid W) (hS : W.ShapedOpen Tryz.prog) :
    Calls Tryz.prog 8 args W fun e W' => ∃ v, e = .returned v ∧ Rows.authorityTurnsSpec.post enc Tryz.prog Tryz.f8 false true false false W args v W' := by
  have hW' := hW
  obtain ⟨p, q, hA0, hV, rfl, hfz, hnd⟩ := hW
  have hA : DataW.TrodAll enc Tryz.prog W 0 (fun _ => true) true Tryz.f8.params.toList args.toList ds p := hA0
  rw [Tryz.params8] at hA hval
  obtain ⟨v0, vs0, d0, ds0, p0, q0, hargs0, rfl, rfl, h0, r0⟩ := trodAll_cons hA
  obtain ⟨rfl, rfl, rfl⟩ := trodAll_nil r0
  obtain rfl : args = #[v0] := by cases args; simp_all
  obtain ⟨x0, f0, a0⟩ := arg_oneB KK_le 8 (cells_slice Tryz.underlying23 (hval 0 23 v0 rfl rfl)) sh_auths h0 (Nat.le_trans (bulk_mem (by simp)) hB)
  obtain ⟨l0, rfl, ha0, hi0⟩ := fitAus f0
  obtain ⟨M, hV⟩ := globs hL hS
  exact law_post hW' rfl (by kernel_rfl) Tryz.underlying4 rfl laidOut paramsOk (c8 (first_in M) (accept_in M) (max_in M) l0 ha0 hi0) hV (.cons a0 .nil)
theorem laid_met (os : Os) : laidMet Tryz.prog Rows.authorityTurnsUptoRow.laid ((laidWorld os).forCall (fun _ _ => 0) ⟨#[], #[.slice none 0 0], []⟩).memory :=
  wLaid os _
theorem reads (os : Os) {H : Type} (enc : TypeId × Value → H) : ∃ places, DataW.whole enc Tryz.prog ((laidWorld os).forCall (fun _ _ => 0) ⟨#[], #[.slice none 0 0], []⟩).memory Tryz.f8.params.toList Rows.authorityTurnsSpec.vars false (#[.slice none 0 0] : Array Value).toList 8 = some ([.nil], [], places) :=
  ⟨[], by kernel_rfl⟩
set_option maxRecDepth 100000 in
theorem lifted (os : Os) (started : os.Started) (H : Type) (enc : TypeId × Value → H) (F : Stop.Interp) :
    ReturnsInHanded {} Tryz.checked os 8 .any ((Rows.OpenSpec.upto Rows.authorityTurnsSpec).preRow enc Tryz.prog Tryz.f8 Rows.authorityTurnsUptoRow.domain false Rows.authorityTurnsUptoRow.laid) (((Rows.OpenSpec.upto Rows.authorityTurnsSpec).at F).post enc Tryz.prog Tryz.f8 false true false false) := by
  obtain ⟨places, hx⟩ := reads os enc
  refine returnsInHanded_of_row (C := Tryz.checked) (s := Rows.OpenSpec.upto Rows.authorityTurnsSpec) own started (by kernel_rfl) Tryz.func8
    (witness_row_atRef (enc := enc) (C := Tryz.checked) false (laidWorld os) #[.slice none 0 0] rfl (wVars os _) (wRest os _) (by kernel_rfl)
      (OpenSpec.preRow_of_cond 8 hx (by kernel_rfl) (fun k hk => by cases hk; kernel_rfl) (by kernel_rfl) (laid_met os))) ?_
  intro W base args ds gs before hval hW _ hcond _ hL hS _
  exact contract H enc W base args ds gs before hval hW (of_decide_eq_true (hcond _ rfl)) hL hS
theorem k_wf : (Rows.authorityTurnsUptoRow.wf (OpenSpec.ofChange (Rows.OpenSpec.upto Rows.authorityTurnsSpec).bare)) = true := by kernel_rfl
theorem k_ip : (Rows.authorityTurnsUptoRow.inPlace == Tryz.prog.inPlace 8) = true := by kernel_rfl
theorem k_un : (Rows.authorityTurnsUptoRow.unfollowed == Tryz.prog.unfollowed 8) = true := by kernel_rfl
theorem k_re : (Rows.authorityTurnsUptoRow.recurses == Tryz.prog.recurses 8) = true := by kernel_rfl
theorem k_vn : (Rows.authorityTurnsUptoRow.named == Tryz.prog.varsNamed 8) = true := by kernel_rfl
theorem closed : joinedFacts Tryz.prog 8 Tryz.f8 (Rows.OpenSpec.upto Rows.authorityTurnsSpec).bare Rows.authorityTurnsUptoRow = true := by
  unfold joinedFacts
  exact and_ok (and_ok (and_ok (and_ok (and_ok (and_ok (and_ok (and_ok (and_ok (and_ok (and_ok (and_ok (and_ok (and_ok (and_ok (and_ok (and_ok (and_ok (and_ok (and_ok (and_ok (and_ok (and_ok (and_ok (and_ok (and_ok (and_ok (and_ok (and_ok (and_ok (and_ok k_wf laidOut) k_mr) (by kernel_rfl)) (by kernel_rfl)) (by kernel_rfl)) k_st) (by kernel_rfl)) k_sk) k_ip) k_un) k_re) k_vn) (by kernel_rfl)) (by kernel_rfl)) (by kernel_rfl)) (by kernel_rfl)) (by kernel_rfl)) (by kernel_rfl)) (by kernel_rfl)) (by kernel_rfl)) (by kernel_rfl)) k_pk) (by kernel_rfl)) k_sh) k_me) k_lf) k_mk) (by kernel_rfl)) (by kernel_rfl)) (by kernel_rfl)) (by kernel_rfl)
theorem said : Rows.AuthorityTurnsUptoSaid :=
  OpenClaim.holds_of_cond 8 Tryz.f8 rfl rfl rfl rfl rfl rfl rfl ⟨rfl, rfl, rfl, rfl, rfl⟩ rfl rfl rfl rfl rfl (by kernel_rfl) Tryz.func8 closed
    (of_decide_eq_true (by kernel_rfl)) (by unfold Func.isWrapper; first | (rw [if_pos (by decide +kernel)]; kernel_rfl) | (rw [if_neg (by decide +kernel)]; exact ⟨rfl, rfl⟩))
    (fun os started H enc _ F => by rw [OpenClaim.pre_eq_preRow]; exact lifted os started H enc F)
theorem k_go : false = Rows.authorityTurnsUptoRow.goesBy Tryz.prog := by kernel_rfl
theorem k_wt : Rows.authorityTurnsUptoRow.wfByText (Rows.OpenSpec.upto Rows.authorityTurnsSpec) = true := by kernel_rfl
theorem plain (f : FuncId) (fn : Func) (hf : Tryz.pinned.checked.prog.funcNamed "library/librarylaw13.AuthorityTurns" = some f) (hfn : Tryz.pinned.checked.prog.funcs[f]? = some fn) :
    false = Tryz.pinned.checked.prog.looks [] ∧ ∀ (j : Nat) t, fn.params[j]? = some t → Tryz.pinned.checked.prog.wantsStandIn t = false := by
  obtain rfl : f = 8 := Option.some.inj ((show Tryz.prog.funcNamed "library/librarylaw13.AuthorityTurns" = some 8 by kernel_rfl).symm.trans hf) |>.symm
  obtain rfl : fn = Tryz.f8 := (Option.some.inj (Tryz.func8.symm.trans hfn)).symm
  refine ⟨by kernel_rfl, fun j t ht => ?_⟩
  rw [Tryz.params8] at ht
  have hm : t ∈ Tryz.f8.params := by rw [Tryz.params8]; exact Array.mem_of_getElem? ht
  rw [Tryz.params8] at hm
  simp only [List.mem_toArray, List.mem_cons, List.not_mem_nil, or_false] at hm
  subst hm
  exact (show Tryz.prog.wantsStandIn 23 = false by kernel_rfl)
theorem authorityTurnsUpto_holds : Rows.AuthorityTurnsUptoCardSaid :=
  Claim7.holds_tied_plain_at .later [] _ _ _ _ said (fun _ h => by cases h) k_wt (fun _ h => by cases h) authorityTurnsUpto_row_tie rfl ⟨rfl, rfl⟩ (by kernel_rfl) rfl plain k_go
end Go.Proofs.YtanbfhnmklhjiaaGreatDoor.authorityTurnsUpto
