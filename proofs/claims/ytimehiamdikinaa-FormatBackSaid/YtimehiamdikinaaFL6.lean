/- FormatBack holds: from the contract of its function to the given row. No condition. -/
import Derived.Test.YtimehiamdikinaaFWl
import Derived.Test.YtimehiamdikinaaFDz
import Derived.Test.YtimehiamdikinaaRows
import Derived.WalkKit
import Derived.ProofKit
import Derived.OpenShut
set_option linter.all false
namespace Go.Proofs.Ytimehiamdikinaa.formatBack
open Go Go.ChangeShapes Go.WideShapes Go.ChangeAt Go.RowKit Go.Ax Go.Fm
theorem own : ownKnob Try.prog.godebug = none := by kernel_rfl
theorem laidOut : laidOutB Try.prog = true := by kernel_rfl
theorem sh_22 : Ax.shape Try.prog 8 22 = some [.lst shF] := by kernel_rfl
theorem sh_9 : Ax.shape Try.prog 8 9 = some [.str] := by kernel_rfl
theorem sh_3 : Ax.shape Try.prog 8 3 = some [.int .i64] := by kernel_rfl
theorem sh_5 : Ax.shape Try.prog 8 5 = some [.int .u8] := by kernel_rfl
theorem paramsOk : ∀ t ∈ Try.f6.params.toList, Try.prog.readableRec t = true ∧ t < Try.prog.types.size := by
  rw [Try.params6]
  intro t ht
  simp only [List.mem_cons, List.not_mem_nil, or_false] at ht
  rcases ht with rfl | rfl | rfl | rfl
  all_goals exact ⟨by kernel_rfl, of_decide_eq_true (by kernel_rfl)⟩
set_option maxRecDepth 100000 in
theorem lifted (os : Os) (started : os.Started) (H : Type) (enc : TypeId × Value → H) :
    ReturnsInHanded {} Try.checked os 6 .any (Rows.formatBackSpec.pre6 enc Try.prog Try.f6 Rows.formatBackRow.domain false) (Rows.formatBackSpec.post enc Try.prog Try.f6 false true false false) := by
  refine returnsInHanded_of_change (C := Try.checked) own started (by kernel_rfl) Try.func6
    (ChangeSpec.witness6 (enc := enc) (C := Try.checked) false ⟨#[], #[.slice none 0 0, .string ⟨#[]⟩, .int .i64 0, .int .u8 0], []⟩ 8 (by kernel_rfl) (by kernel_rfl) (by kernel_rfl) (by kernel_rfl)) ?_
  intro W base args ds gs before hval0 hW hcnd _
  have hval : ∀ (j : Nat) t v, Try.f6.params[j]? = some t → args[j]? = some v → Value.okWide Try.prog W .any base t v := hval0
  have hW' := hW
  obtain ⟨p, q, hA0, hV, rfl, hfz, hnd⟩ := hW
  have hA : DataW.TrodAll enc Try.prog W 0 (fun _ => true) true Try.f6.params.toList args.toList ds p := hA0
  rw [Try.params6] at hA hval
  obtain ⟨v0, vs0, d0, ds0, p0, q0, hargs0, rfl, rfl, h0, r0⟩ := trodAll_cons hA
  obtain ⟨v1, vs1, d1, ds1, p1, q1, hargs1, rfl, rfl, h1, r1⟩ := trodAll_cons r0
  obtain ⟨v2, vs2, d2, ds2, p2, q2, hargs2, rfl, rfl, h2, r2⟩ := trodAll_cons r1
  obtain ⟨v3, vs3, d3, ds3, p3, q3, hargs3, rfl, rfl, h3, r3⟩ := trodAll_cons r2
  obtain ⟨rfl, rfl, rfl⟩ := trodAll_nil r3
  obtain rfl : args = #[v0, v1, v2, v3] := by cases args; simp_all
  obtain ⟨x0, f0, a0⟩ := arg_one 8 (cells_slice Try.underlying22 (hval 0 22 v0 rfl rfl)) sh_22 h0
  obtain ⟨l0, rfl⟩ := fitFs f0
  obtain ⟨x1, f1, a1⟩ := arg_one 8 (cells_string Try.underlying9 (hval 1 9 v1 rfl rfl)) sh_9 h1
  obtain ⟨s1, rfl, _⟩ := fit_str f1
  obtain ⟨x2, f2, a2⟩ := arg_one 8 (cells_int Try.underlying3 (hval 2 3 v2 rfl rfl)) sh_3 h2
  obtain ⟨n2, rfl, hn2, hm2⟩ := fit_i64 f2
  obtain ⟨x3, f3, a3⟩ := arg_one 8 (cells_int Try.underlying5 (hval 3 5 v3 rfl rfl)) sh_5 h3
  obtain ⟨n3, rfl⟩ := fit_u8 f3
  exact law_post hW' rfl (by kernel_rfl) Try.underlying4 rfl laidOut paramsOk (Γ := []) (c6 l0 s1 n2 n3) (viewOk_world fun p hp => by cases hp) (.cons a0 (.cons a1 (.cons a2 (.cons a3 .nil))))
theorem formatBack_holds : Rows.FormatBackSaid :=
  OpenClaim.holds_of_wide 6 Try.f6 rfl rfl rfl rfl rfl rfl rfl ⟨rfl, rfl, rfl, rfl, rfl⟩ rfl rfl rfl rfl rfl (by kernel_rfl) Try.func6 (by kernel_rfl)
    (of_decide_eq_true (by kernel_rfl)) (by unfold Func.isWrapper; first | (rw [if_pos (by decide +kernel)]; kernel_rfl) | (rw [if_neg (by decide +kernel)]; exact ⟨rfl, rfl⟩))
    (fun os started H enc _ => lifted os started H enc)
end Go.Proofs.Ytimehiamdikinaa.formatBack
