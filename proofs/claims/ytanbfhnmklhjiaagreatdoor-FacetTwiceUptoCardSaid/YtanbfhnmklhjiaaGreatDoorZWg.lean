/- Part of a proof about this program; no condition of its own. -/
import Derived.Test.YtanbfhnmklhjiaaGreatDoorZWf
import Derived.Test.YtanbfhnmklhjiaaGreatDoorZLay
import Derived.Test.YtanbfhnmklhjiaaGreatDoorTXj
import Derived.Lib.AppendIntMem
import Derived.Lib.IndexAny
set_option linter.all false
/- Library functions as contracts over closed data; fields and years of the program. No condition. -/
namespace Go.Fc
open Go Go.Ax Go.Tx
theorem fI_bd {α : Type} (p : α → Bool) : ∀ (l : List α) (k : Nat), -1 ≤ fI p k l ∧ fI p k l < (k + l.length : Nat)
  | [], k => by simp [fI]; omega
  | x :: r, k => by
    rw [fI]
    have := fI_bd p r (k + 1)
    split
    · simp only [List.length_cons]; omega
    · simp only [List.length_cons]; omega
theorem fI_find {α : Type} (p : α → Bool) : ∀ (l : List α) (k : Nat), fI p k l = if l.findIdx p < l.length then ((k + l.findIdx p : Nat) : Int) else -1
  | [], k => by simp [fI]
  | x :: r, k => by
    rw [fI, List.findIdx_cons]
    cases h : p x with
    | true => simp
    | false =>
      rw [fI_find p r]
      simp only [cond_false, List.length_cons, Bool.false_eq_true, if_false]
      by_cases hl : r.findIdx p < r.length
      · rw [if_pos hl, if_pos (by omega)]; congr 1; omega
      · rw [if_neg hl, if_neg (by omega)]
end Go.Fc
namespace Go.Proofs
open Go Go.Ax Go.Tx Go.Lib Go.Shelf Go.RowKit Go.Fc
variable {Γ : List (Nat × List D)}
def powD : List D := pow10Tab.map fun z => .int .u64 z
theorem tab_of {P : Program} {V : Vw} {w : World} (hv : ViewOk Γ V w) {name : String} {g : Nat} {k : IntKind} {zs : List Int} (hg : P.globalNamed name = some g) (hm : (g, zs.map fun z => D.int k z) ∈ Γ) : TabIs P w name k zs := by
  obtain ⟨_, c, t, fr, hh, hz⟩ := hv.glob _ hm
  have hw := hv.view _ _ hh
  unfold TabIs World.var?
  rw [hg]
  simp only [Option.bind_some, hw, Option.some.injEq]
  apply Array.ext_getElem?
  intro j
  by_cases hj : j < zs.length
  · have h1 := glob_cell hv (j := j) (k := k) (n := zs[j]) hm (by simp [hj])
    simp only [World.cell?, hw] at h1
    simp at h1
    rw [h1]
    simp [hj]
  · have hz' : c.size = zs.length := by simpa using hz
    rw [Array.getElem?_eq_none (by omega), Array.getElem?_eq_none (by simp; omega)]
theorem c121 (hΓ : (4, powD) ∈ Γ) (n : Int) (h0 : -9223372036854775808 ≤ n) (h1 : n ≤ 9223372036854775807) : AFn Tryz.prog Γ 121 [.c (.d (.int .i64 n))] [.d (.str (itoa n))] := by
  refine AFn.ofFlat ⟨⟨_, Tryz.func121, by kernel_rfl, by kernel_rfl⟩⟩ fun V w vals hv ha => ?_
  cases ha with | cons a1 a2 =>
  cases a2
  rw [ar_int a1]
  refine (Tryz.strconv_Itoa n h0 h1 w (tab_of hv (g := 4) (by kernel_rfl) hΓ)).mono fun e w' ⟨he, k, os, hw⟩ => ⟨_, he, .str _, ?_⟩
  subst hw
  exact below_grow _ w (Nat.le_refl _) k os
theorem c142 (xs : List (List UInt8)) (sep : List UInt8) (hN : xs.length ≤ 140737488355328) (hlen : (Lib.join xs sep).length ≤ 140737488355328) : AFn Tryz.prog Γ 142 [.c (.bor 1 (xs.map Fc.sD)), .c (.d (.str sep))] [.d (.str (Lib.join xs sep))] :=
  AFn.join Tryz.lays156 Tryz.Builder_Extra_156 xs sep hN hlen
theorem c217 (s p : Str) : AFn Tryz.prog Γ 217 [.c (.d (.str s)), .c (.d (.str p))] [.d (.bool (Lib.hasPrefix s p))] := by
  refine AFn.ofFlat ⟨⟨_, Tryz.func217, by kernel_rfl, by kernel_rfl⟩⟩ fun V w vals hv ha => ?_
  cases ha with | cons a1 a2 => cases a2 with | cons a2 a3 =>
  cases a3
  rw [ar_str a1, ar_str a2]
  refine (Tryz.strings_HasPrefix ⟨s.toArray⟩ ⟨p.toArray⟩ w).mono fun e w' ⟨he, hw⟩ => ⟨_, he, ?_, hw ▸ Below.refl _ _⟩
  exact .bool _
theorem c108 (s p : Str) : AFn Tryz.prog Γ 108 [.c (.d (.str s)), .c (.d (.str p))] [.d (.int .i64 (Lib.compareBytes s p))] := by
  refine AFn.ofFlat ⟨⟨_, Tryz.func108, by kernel_rfl, by kernel_rfl⟩⟩ fun V w vals hv ha => ?_
  cases ha with | cons a1 a2 => cases a2 with | cons a2 a3 =>
  cases a3
  rw [ar_str a1, ar_str a2]
  refine (Tryz.strings_Compare ⟨s.toArray⟩ ⟨p.toArray⟩ w).mono fun e w' ⟨he, hw⟩ => ⟨_, he, ?_, hw ▸ Below.refl _ _⟩
  exact .int _ _
theorem c243 (s : Str) (c : Int) : AFn Tryz.prog Γ 243 [.c (.d (.str s)), .c (.d (.int .u8 c))] [.d (.int .i64 (Lib.indexByte s c.toNat.toUInt8))] := by
  refine AFn.ofFlat ⟨⟨_, Tryz.func243, by kernel_rfl, by kernel_rfl⟩⟩ fun V w vals hv ha => ?_
  cases ha with | cons a1 a2 => cases a2 with | cons a2 a3 =>
  cases a3
  rw [ar_str a1, ar_int a2]
  refine (Tryz.strings_IndexByte ⟨s.toArray⟩ c w).mono fun e w' ⟨he, hw⟩ => ⟨_, he, ?_, hw ▸ Below.refl _ _⟩
  exact .int _ _
/-! ### slices.Index, slices.IndexFunc -/
theorem c162 (l : List Str) (v : Str) (hl : l.length ≤ 2000000) : AFn Tryz.prog Γ 162 [.c (.bor 1 (l.map Fc.sD)), .c (.d (.str v))] [.d (.int .i64 (fI (fun x => decide (x = v)) 0 l))] := by
  refine AFn.vc [] Tryz.func162 rfl Tryz.mixed (by kernel_rfl) Tryz.ntmps162 Tryz.results162 (by simp) ?_
  push_cast
  refine LoopV.cnt Tryz.mixed [0, 1, 7] l.length (fun k => [(8, .c (.d (.int .i64 k)))]) (fun k => fI (fun x => decide (x = v)) k (l.drop k) = fI (fun x => decide (x = v)) 0 l) (by simp) ?_ (by push_cast)
  intro k hk hinv
  push_cast
  refine ⟨fun h => ?_, fun h => ?_⟩
  · have hlt : k < l.length := by omega
    rw [Fc.drop_cons hlt, fI] at hinv
    refine ⟨hlt, fun e => ?_, fun e => ⟨by omega, hlt, ?_⟩⟩
    · rw [← hinv, if_pos (by simp [e])]
    · rw [← hinv, if_neg (by simpa using fun h => e h.symm)]
  · rw [← hinv, List.drop_eq_nil_of_le (by omega)]; rfl
theorem c113 (l : List Str) (v : Str) (hl : l.length ≤ 2000000) : AFn Tryz.prog Γ 113 [.c (.bor 1 (l.map Fc.sD)), .c (.d (.str v))] [.d (.bool (decide (v ∈ l)))] := by
  refine AFn.vc [] Tryz.func113 rfl Tryz.mixed (by kernel_rfl) Tryz.ntmps113 Tryz.results113 (by simp) ?_
  push_cast
  refine CallL.q (c162 l v hl) ?_
  push_cast
  rw [Ax.fI_ge]
  rw [List.any_eq]; exact decide_eq_decide.2 (by simp)
def predSb (p : Sb → Bool) : List AV → List RV → Prop := fun a r => ∃ x : Sb, a = [.agg (x.ds.map C.d)] ∧ r = [.d (.bool (p x))]
def predRc (p : Rec → Bool) : List AV → List RV → Prop := fun a r => ∃ x : Rec, a = [.agg (x.ds.map C.d)] ∧ r = [.d (.bool (p x))]
theorem c218 (l : List Sb) (p : Sb → Bool) (hl : l.length ≤ 2000000) : AFn Tryz.prog Γ 218 [.c (.bor 2 (l.map Sb.ds)), .c (.fn (FnSpec Tryz.prog Γ (predSb p)))] [.d (.int .i64 (fI p 0 l))] := by
  refine AFn.vc [] Tryz.func218 rfl Tryz.mixed (by kernel_rfl) Tryz.ntmps218 Tryz.results218 (by simp) ?_
  push_cast
  refine LoopV.cnt Tryz.mixed [0, 1, 7] l.length (fun k => [(8, .c (.d (.int .i64 k)))]) (fun k => fI p k (l.drop k) = fI p 0 l) (by simp) ?_ (by push_cast)
  intro k hk hinv
  push_cast
  refine ⟨fun h => ⟨by omega, CallL.fn _ _ ⟨l[k], rfl, rfl⟩ ?_⟩, fun h => ?_⟩
  · push_cast
    refine ⟨fun a => ?_, fun a => ⟨by omega, by omega, ?_⟩⟩
    · rw [← hinv, Fc.drop_cons (by omega), fI, if_pos a]
    · rw [← hinv, Fc.drop_cons (show k < l.length by omega), fI, if_neg (by simp [a])]
  · rw [← hinv, List.drop_eq_nil_of_le (by omega)]; rfl
theorem c111 (l : List Rec) (p : Rec → Bool) (hl : l.length ≤ 2000000) : AFn Tryz.prog Γ 111 [.c (.bor 5 (l.map Rec.ds)), .c (.fn (FnSpec Tryz.prog Γ (predRc p)))] [.d (.int .i64 (fI p 0 l))] := by
  refine AFn.vc [] Tryz.func111 rfl Tryz.mixed (by kernel_rfl) Tryz.ntmps111 Tryz.results111 (by simp) ?_
  push_cast
  refine LoopV.cnt Tryz.mixed [0, 1, 7] l.length (fun k => [(8, .c (.d (.int .i64 k)))]) (fun k => fI p k (l.drop k) = fI p 0 l) (by simp) ?_ (by push_cast)
  intro k hk hinv
  push_cast
  refine ⟨fun h => ⟨by omega, CallL.fn _ _ ⟨l[k], rfl, rfl⟩ ?_⟩, fun h => ?_⟩
  · push_cast
    refine ⟨fun a => ?_, fun a => ⟨by omega, by omega, ?_⟩⟩
    · rw [← hinv, Fc.drop_cons (by omega), fI, if_pos a]
    · rw [← hinv, Fc.drop_cons (show k < l.length by omega), fI, if_neg (by simp [a])]
  · rw [← hinv, List.drop_eq_nil_of_le (by omega)]; rfl
theorem c219 (s : Sb) (c : Int) : AFn Tryz.prog Γ 219 [.agg (s.ds.map C.d), .c (.ptr [.int .u8 c])] [.d (.bool (decide (s.code = c)))] := by
  refine AFn.vc [] Tryz.func219 rfl Tryz.mixed (by kernel_rfl) Tryz.ntmps219 Tryz.results219 (by simp) ?_
  push_cast
theorem c112 (s : Rec) (c : Int) : AFn Tryz.prog Γ 112 [.agg (s.ds.map C.d), .c (.ptr [.int .i64 c])] [.d (.bool (decide (s.id = c)))] := by
  refine AFn.vc [] Tryz.func112 rfl Tryz.mixed (by kernel_rfl) Tryz.ntmps112 Tryz.results112 (by simp) ?_
  push_cast
end Go.Proofs
