/- Part of a proof about this program; no condition of its own. -/
import Derived.Test.YtglonmggpbajgaaDoorTXj
import Derived.Test.YtglonmggpbajgaaDoorSLay
import Derived.Test.YtglonmggpbajgaaDoorST
import Derived.Lib.AppendIntMem
set_option linter.all false
/- strconv.Itoa and strings.Join as contracts over closed data. -/
namespace Go.Proofs
open Go Go.Ax Go.Tx Go.Lib Go.Shelf Go.RowKit
variable {Γ : List (Nat × List D)}
def powD : List D := pow10Tab.map fun z => .int .u64 z
theorem tab_of {P : Program} {V : Vw} {w : World} (hv : ViewOk Γ V w) {name : String} {g : Nat} {k : IntKind} {zs : List Int} (hg : P.globalNamed name = some g) (hm : (g, zs.map fun z => D.int k z) ∈ Γ) : TabIs P w name k zs := by
  obtain ⟨_, c, t, fr, hh, hz⟩ := hv.glob _ hm
  have hw := hv.view _ _ hh
  unfold TabIs World.var?
  rw [hg]
  simp only [Option.bind_some, hw, Option.some.injEq]
  apply Array.ext_getElem?
  intro j
  by_cases hj : j < zs.length
  · have h1 := glob_cell hv (j := j) (k := k) (n := zs[j]) hm (by simp [hj])
    simp only [World.cell?, hw] at h1
    simp at h1
    rw [h1]
    simp [hj]
  · have hz' : c.size = zs.length := by simpa using hz
    rw [Array.getElem?_eq_none (by omega), Array.getElem?_eq_none (by simp; omega)]
theorem c39 (hΓ : (0, powD) ∈ Γ) (n : Int) (h0 : -9223372036854775808 ≤ n) (h1 : n ≤ 9223372036854775807) : AFn Tryd.prog Γ 39 [.c (.d (.int .i64 n))] [.d (.str (itoa n))] := by
  refine AFn.ofFlat ⟨⟨_, Tryd.func39, by kernel_rfl, by kernel_rfl⟩⟩ fun V w vals hv ha => ?_
  cases ha with | cons a1 a2 =>
  cases a2
  rw [ar_int a1]
  refine (Tryd.strconv_Itoa n h0 h1 w (tab_of hv (g := 0) (by kernel_rfl) hΓ)).mono fun e w' ⟨he, k, os, hw⟩ => ⟨_, he, .str _, ?_⟩
  subst hw
  exact below_grow _ w (Nat.le_refl _) k os
theorem c40 (xs : List (List UInt8)) (sep : List UInt8) (hN : xs.length ≤ 140737488355328) (hlen : (Lib.join xs sep).length ≤ 140737488355328) : AFn Tryd.prog Γ 40 [.c (.bor 1 (xs.map fun x => [.str x])), .c (.d (.str sep))] [.d (.str (Lib.join xs sep))] :=
  AFn.join Tryd.lays156 Tryd.Builder_Extra_156 xs sep hN hlen
end Go.Proofs
