/- Part of a proof about this program; no condition of its own. -/
import Derived.Test.YtanbfhnmklhjiaaDoorGwB
import Derived.Test.YtanbfhnmklhjiaaDoorYZLay
import Derived.Test.YtanbfhnmklhjiaaDoorTXj
import Derived.Lib.AppendIntMem
import Derived.Lib.IndexAny
set_option linter.all false
/- Library functions as contracts over closed data; fields and years of the program. No condition. -/
namespace Go.Fc
open Go Go.Ax Go.Tx
theorem fI_bd {α : Type} (p : α → Bool) : ∀ (l : List α) (k : Nat), -1 ≤ fI p k l ∧ fI p k l < (k + l.length : Nat)
  | [], k => by simp [fI]; omega
  | x :: r, k => by
    rw [fI]
    have := fI_bd p r (k + 1)
    split
    · simp only [List.length_cons]; omega
    · simp only [List.length_cons]; omega
theorem fI_find {α : Type} (p : α → Bool) : ∀ (l : List α) (k : Nat), fI p k l = if l.findIdx p < l.length then ((k + l.findIdx p : Nat) : Int) else -1
  | [], k => by simp [fI]
  | x :: r, k => by
    rw [fI, List.findIdx_cons]
    cases h : p x with
    | true => simp
    | false =>
      rw [fI_find p r]
      simp only [cond_false, List.length_cons, Bool.false_eq_true, if_false]
      by_cases hl : r.findIdx p < r.length
      · rw [if_pos hl, if_pos (by omega)]; congr 1; omega
      · rw [if_neg hl, if_neg (by omega)]
end Go.Fc
namespace Go.Proofs
open Go Go.Ax Go.Tx Go.Lib Go.Shelf Go.RowKit Go.Fc
variable {Γ : List (Nat × List D)}
def powD : List D := pow10Tab.map fun z => .int .u64 z
theorem tab_of {P : Program} {V : Vw} {w : World} (hv : ViewOk Γ V w) {name : String} {g : Nat} {k : IntKind} {zs : List Int} (hg : P.globalNamed name = some g) (hm : (g, zs.map fun z => D.int k z) ∈ Γ) : TabIs P w name k zs := by
  obtain ⟨_, c, t, fr, hh, hz⟩ := hv.glob _ hm
  have hw := hv.view _ _ hh
  unfold TabIs World.var?
  rw [hg]
  simp only [Option.bind_some, hw, Option.some.injEq]
  apply Array.ext_getElem?
  intro j
  by_cases hj : j < zs.length
  · have h1 := glob_cell hv (j := j) (k := k) (n := zs[j]) hm (by simp [hj])
    simp only [World.cell?, hw] at h1
    simp at h1
    rw [h1]
    simp [hj]
  · have hz' : c.size = zs.length := by simpa using hz
    rw [Array.getElem?_eq_none (by omega), Array.getElem?_eq_none (by simp; omega)]
theorem c15 (hΓ : (2, powD) ∈ Γ) (n : Int) (h0 : -9223372036854775808 ≤ n) (h1 : n ≤ 9223372036854775807) : AFn Tryd.prog Γ 15 [.c (.d (.int .i64 n))] [.d (.str (itoa n))] := by
  refine AFn.ofFlat ⟨⟨_, Tryd.func15, by kernel_rfl, by kernel_rfl⟩⟩ fun V w vals hv ha => ?_
  cases ha with | cons a1 a2 =>
  cases a2
  rw [ar_int a1]
  refine (Tryd.strconv_Itoa n h0 h1 w (tab_of hv (g := 2) (by kernel_rfl) hΓ)).mono fun e w' ⟨he, k, os, hw⟩ => ⟨_, he, .str _, ?_⟩
  subst hw
  exact below_grow _ w (Nat.le_refl _) k os
theorem c35 (xs : List (List UInt8)) (sep : List UInt8) (hN : xs.length ≤ 140737488355328) (hlen : (Lib.join xs sep).length ≤ 140737488355328) : AFn Tryd.prog Γ 35 [.c (.bor 1 (xs.map Fc.sD)), .c (.d (.str sep))] [.d (.str (Lib.join xs sep))] :=
  AFn.join Tryd.lays156 Tryd.Builder_Extra_156 xs sep hN hlen
theorem c28 (s p : Str) : AFn Tryd.prog Γ 28 [.c (.d (.str s)), .c (.d (.str p))] [.d (.int .i64 (Lib.compareBytes s p))] := by
  refine AFn.ofFlat ⟨⟨_, Tryd.func28, by kernel_rfl, by kernel_rfl⟩⟩ fun V w vals hv ha => ?_
  cases ha with | cons a1 a2 => cases a2 with | cons a2 a3 =>
  cases a3
  rw [ar_str a1, ar_str a2]
  refine (Tryd.strings_Compare ⟨s.toArray⟩ ⟨p.toArray⟩ w).mono fun e w' ⟨he, hw⟩ => ⟨_, he, ?_, hw ▸ Below.refl _ _⟩
  exact .int _ _
theorem c65 (s : Str) (c : Int) : AFn Tryd.prog Γ 65 [.c (.d (.str s)), .c (.d (.int .u8 c))] [.d (.int .i64 (Lib.indexByte s c.toNat.toUInt8))] := by
  refine AFn.ofFlat ⟨⟨_, Tryd.func65, by kernel_rfl, by kernel_rfl⟩⟩ fun V w vals hv ha => ?_
  cases ha with | cons a1 a2 => cases a2 with | cons a2 a3 =>
  cases a3
  rw [ar_str a1, ar_int a2]
  refine (Tryd.strings_IndexByte ⟨s.toArray⟩ c w).mono fun e w' ⟨he, hw⟩ => ⟨_, he, ?_, hw ▸ Below.refl _ _⟩
  exact .int _ _
/-! ### slices.Index, slices.IndexFunc -/
def predSb (p : Sb → Bool) : List AV → List RV → Prop := fun a r => ∃ x : Sb, a = [.agg (x.ds.map C.d)] ∧ r = [.d (.bool (p x))]
def predRc (p : Rec → Bool) : List AV → List RV → Prop := fun a r => ∃ x : Rec, a = [.agg (x.ds.map C.d)] ∧ r = [.d (.bool (p x))]
theorem c61 (l : List Sb) (p : Sb → Bool) (hl : l.length ≤ 2000000) : AFn Tryd.prog Γ 61 [.c (.bor 2 (l.map Sb.ds)), .c (.fn (FnSpec Tryd.prog Γ (predSb p)))] [.d (.int .i64 (fI p 0 l))] := by
  refine AFn.vc [] Tryd.func61 rfl Tryd.mixed (by kernel_rfl) Tryd.ntmps61 Tryd.results61 (by simp) ?_
  push_cast
  refine LoopV.cnt Tryd.mixed [0, 1, 7] l.length (fun k => [(8, .c (.d (.int .i64 k)))]) (fun k => fI p k (l.drop k) = fI p 0 l) (by simp) ?_ (by push_cast)
  intro k hk hinv
  push_cast
  refine ⟨fun h => ⟨by omega, CallL.fn _ _ ⟨l[k], rfl, rfl⟩ ?_⟩, fun h => ?_⟩
  · push_cast
    refine ⟨fun a => ?_, fun a => ⟨by omega, by omega, ?_⟩⟩
    · rw [← hinv, Fc.drop_cons (by omega), fI, if_pos a]
    · rw [← hinv, Fc.drop_cons (show k < l.length by omega), fI, if_neg (by simp [a])]
  · rw [← hinv, List.drop_eq_nil_of_le (by omega)]; rfl
theorem c62 (s : Sb) (c : Int) : AFn Tryd.prog Γ 62 [.agg (s.ds.map C.d), .c (.ptr [.int .u8 c])] [.d (.bool (decide (s.code = c)))] := by
  refine AFn.vc [] Tryd.func62 rfl Tryd.mixed (by kernel_rfl) Tryd.ntmps62 Tryd.results62 (by simp) ?_
  push_cast
end Go.Proofs

/- Fields and years of the program. No condition. -/
namespace Go.Proofs
open Go Go.Ax Go.Tx Go.Lib Go.Shelf Go.RowKit Go.Fc
variable {Γ : List (Nat × List D)}
theorem fI_spec {α : Type} (p : α → Bool) : ∀ (l : List α) (k : Nat), (Ax.fI p k l = -1 ∧ l.find? p = none) ∨ ∃ (j : Nat) (hj : j < l.length), Ax.fI p k l = ((k + j : Nat) : Int) ∧ l.find? p = some l[j]
  | [], k => .inl ⟨rfl, rfl⟩
  | x :: r, k => by
    rw [Ax.fI]
    by_cases h : p x = true
    · exact .inr ⟨0, by simp, by rw [if_pos h]; rfl, by simp [h]⟩
    · rw [if_neg h]
      have hf : (x :: r).find? p = r.find? p := by simp [h]
      rw [hf]
      rcases fI_spec p r (k + 1) with ⟨h1, h2⟩ | ⟨j, hj, h1, h2⟩
      · exact .inl ⟨h1, h2⟩
      · exact .inr ⟨j + 1, by simp; omega, by rw [h1]; congr 1; omega, by rw [h2]; rfl⟩
theorem getS_fI (l : List Sb) (c : Int) : (Ax.fI (fun s : Sb => decide (s.code = c)) 0 l < 0 ∧ getS l c = ([], false)) ∨ (0 ≤ Ax.fI (fun s : Sb => decide (s.code = c)) 0 l ∧ ∃ h : (Ax.fI (fun s : Sb => decide (s.code = c)) 0 l).toNat < l.length, getS l c = (l[(Ax.fI (fun s : Sb => decide (s.code = c)) 0 l).toNat].val, true)) := by
  unfold getS
  rcases fI_spec (fun s : Sb => decide (s.code = c)) l 0 with ⟨h1, h2⟩ | ⟨j, hj, h1, h2⟩
  · rw [h1, h2]; exact .inl ⟨by omega, rfl⟩
  · have e : (Ax.fI (fun s : Sb => decide (s.code = c)) 0 l).toNat = j := by omega
    rw [h2]
    refine .inr ⟨by omega, by omega, ?_⟩
    simp only [e]
theorem indexByte_codes (codes : Str) (c : Int) (h0 : 0 ≤ c) (h1 : c ≤ 255) : (0 ≤ Lib.indexByte codes c.toNat.toUInt8) = (codes.any (fun x => decide ((x.toNat : Int) = c)) = true) := by
  have h := contains_iff_indexByte codes c.toNat.toUInt8
  have e : (codes.any fun x => decide ((x.toNat : Int) = c)) = codes.contains c.toNat.toUInt8 := by
    rw [List.contains_eq_any_beq]
    congr 1
    funext x
    apply Bool.eq_iff_iff.2
    simp only [decide_eq_true_eq, beq_iff_eq]
    constructor
    · intro h; subst h; simp
    · intro h; subst h; simp; omega
  rw [e, h]
  simp
theorem c34 (f : Fld) (c : Int) (hl : f.subs.length ≤ 2000000) : AFn Tryd.prog Γ 34 [.agg (f.ds.map C.d), .c (.d (.int .u8 c))] [.d (.str (getS f.subs c).1), .d (.bool (getS f.subs c).2)] := by
  have k3 := getS_fI f.subs c
  generalize hR : getS f.subs c = R at *
  refine AFn.vc [] Tryd.func34 rfl Tryd.mixed (by kernel_rfl) Tryd.ntmps34 Tryd.results34 (by simp) ?_
  push_cast
  refine CallL.q (c61 f.subs (fun s => decide (s.code = c)) hl) ?_ (.cons (ArgOk.bor rfl) (.cons (ArgOk.clo (dss := [[.int .u8 c]]) (c62 (Γ := []) ⟨0, []⟩ 0).call rfl (fun a r h => by obtain ⟨x, rfl, rfl⟩ := h; exact c62 x _)) .nil))
  push_cast
  rcases k3 with ⟨h1, rfl⟩ | ⟨h1, h2, rfl⟩
  · exact ⟨fun _ => ⟨rfl, rfl⟩, fun h => by omega⟩
  · exact ⟨fun h => by omega, fun _ => ⟨h1, h2, rfl, rfl⟩⟩
theorem c36 (f : Fld) (codes : Str) (hl : f.subs.length ≤ 2000000) (hu : ∀ s ∈ f.subs, 0 ≤ s.code ∧ s.code ≤ 255) : AFn Tryd.prog Γ 36 [.agg (f.ds.map C.d), .c (.d (.str codes))] [.d (.lst 1 ((allS f.subs codes).map Fc.sD))] := by
  refine AFn.vc [] Tryd.func36 rfl Tryd.mixed (by kernel_rfl) Tryd.ntmps36 Tryd.results36 (by simp) ?_
  push_cast
  refine LoopV.nilrow 5 9 1 ?_
  push_cast
  refine LoopV.cntH Tryd.mixed [1, 9, 10] f.subs.length (fun k => [(5, .c (.own 1 (allS (f.subs.take k) codes).length)), (11, .c (.d (.int .i64 k)))]) (fun k => [.box 37 (f.ds.map C.d), .row 9 1 ((allS (f.subs.take k) codes).map Fc.sD) (allS (f.subs.take k) codes).length]) (fun _ => True) trivial ?_ (by push_cast; exact ⟨rfl, rfl, rfl⟩)
  intro k hk _
  push_cast
  refine ⟨fun h => ?_, fun h => ?_⟩
  · have hlt : k < f.subs.length := by omega
    have hn := allS_next (codes := codes) hlt
    have hb := allS_len (f.subs.take k) codes
    rw [List.length_take] at hb
    have hin : inCodes codes f.subs[k].code = (decide (codes = []) || codes.any (fun x => decide ((x.toNat : Int) = f.subs[k].code))) := by unfold inCodes; congr 1; cases codes <;> rfl
    obtain ⟨u0, u1⟩ := hu _ (List.getElem_mem hlt)
    have hix := indexByte_codes codes f.subs[k].code u0 u1
    refine ⟨hlt, fun hc => ?_, fun hc => ?_⟩
    · refine CallL.q (c65 codes _) ?_
      push_cast
      rw [decide_eq_false hc, Bool.false_or] at hin
      refine ⟨fun e => ?_, fun e => ?_⟩
      · rw [hix] at e
        rw [hin, if_pos e] at hn
        refine ⟨by omega, by omega, hlt, by rw [hn]; simp, by rw [hn]; simp [Fc.sD], by rw [hn]; simp⟩
      · rw [if_neg (by rw [hin, ← hix]; omega)] at hn
        refine ⟨by omega, hlt, by rw [hn], by rw [hn], by rw [hn]⟩
    · rw [if_pos (by rw [hin, decide_eq_true hc]; rfl)] at hn
      refine ⟨by omega, by omega, hlt, by rw [hn]; simp, by rw [hn]; simp [Fc.sD], by rw [hn]; simp⟩
  · rw [List.take_of_length_le (by omega)]
theorem c33 (f : Fld) (codes : Str) (hl : f.subs.length ≤ 2000000) (hu : ∀ s ∈ f.subs, 0 ≤ s.code ∧ s.code ≤ 255) (hlen : (Lib.join (allS f.subs codes) [32]).length ≤ 1000000000) : AFn Tryd.prog Γ 33 [.agg (f.ds.map C.d), .c (.d (.str codes))] [.d (.str (Lib.join (allS f.subs codes) [32]))] := by
  refine AFn.vc [] Tryd.func33 rfl Tryd.mixed (by kernel_rfl) Tryd.ntmps33 Tryd.results33 (by simp) ?_
  push_cast
  refine CallL.q (c36 f codes hl hu) ?_
  push_cast
  refine CallL.q (c35 (allS f.subs codes) [32] (by have := allS_len f.subs codes; omega) (by omega)) ?_
  push_cast
def hasP (p : Str) (f : Fld) : Bool := Lib.hasPrefix f.tag p
theorem filter_next {α : Type} {p : α → Bool} {l : List α} {k : Nat} (h : k < l.length) : (l.take (k + 1)).filter p = if p l[k] = true then (l.take k).filter p ++ [l[k]] else (l.take k).filter p := by
  rw [Fc.take_next h, List.filter_append, List.filter_cons, List.filter_nil]
  split <;> simp
/-- The value of the first n digits. -/
def v4 (l : Str) : Nat → Int
  | 0 => 0
  | n + 1 => v4 l n * 10 + (((l[n]?).getD 0).toNat - 48 : Int)
end Go.Proofs
