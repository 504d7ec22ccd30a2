/- Part of a proof about this program; no condition of its own. -/
import Derived.Test.YtanbfhnmklhjiaaGreatDoorGwB
import Derived.Test.YtanbfhnmklhjiaaGreatDoorZLay
import Derived.Test.YtanbfhnmklhjiaaGreatDoorTXj
import Derived.Lib.AppendIntMem
import Derived.Lib.IndexAny
set_option linter.all false
/- Library functions as contracts over closed data; fields and years of the program. No condition. -/
namespace Go.Fc
open Go Go.Ax Go.Tx
theorem fI_bd {α : Type} (p : α → Bool) : ∀ (l : List α) (k : Nat), -1 ≤ fI p k l ∧ fI p k l < (k + l.length : Nat)
  | [], k => by simp [fI]; omega
  | x :: r, k => by
    rw [fI]
    have := fI_bd p r (k + 1)
    split
    · simp only [List.length_cons]; omega
    · simp only [List.length_cons]; omega
theorem fI_find {α : Type} (p : α → Bool) : ∀ (l : List α) (k : Nat), fI p k l = if l.findIdx p < l.length then ((k + l.findIdx p : Nat) : Int) else -1
  | [], k => by simp [fI]
  | x :: r, k => by
    rw [fI, List.findIdx_cons]
    cases h : p x with
    | true => simp
    | false =>
      rw [fI_find p r]
      simp only [cond_false, List.length_cons, Bool.false_eq_true, if_false]
      by_cases hl : r.findIdx p < r.length
      · rw [if_pos hl, if_pos (by omega)]; congr 1; omega
      · rw [if_neg hl, if_neg (by omega)]
end Go.Fc
namespace Go.Proofs
open Go Go.Ax Go.Tx Go.Lib Go.Shelf Go.RowKit Go.Fc
variable {Γ : List (Nat × List D)}
def powD : List D := pow10Tab.map fun z => .int .u64 z
theorem tab_of {P : Program} {V : Vw} {w : World} (hv : ViewOk Γ V w) {name : String} {g : Nat} {k : IntKind} {zs : List Int} (hg : P.globalNamed name = some g) (hm : (g, zs.map fun z => D.int k z) ∈ Γ) : TabIs P w name k zs := by
  obtain ⟨_, c, t, fr, hh, hz⟩ := hv.glob _ hm
  have hw := hv.view _ _ hh
  unfold TabIs World.var?
  rw [hg]
  simp only [Option.bind_some, hw, Option.some.injEq]
  apply Array.ext_getElem?
  intro j
  by_cases hj : j < zs.length
  · have h1 := glob_cell hv (j := j) (k := k) (n := zs[j]) hm (by simp [hj])
    simp only [World.cell?, hw] at h1
    simp at h1
    rw [h1]
    simp [hj]
  · have hz' : c.size = zs.length := by simpa using hz
    rw [Array.getElem?_eq_none (by omega), Array.getElem?_eq_none (by simp; omega)]
theorem c121 (hΓ : (4, powD) ∈ Γ) (n : Int) (h0 : -9223372036854775808 ≤ n) (h1 : n ≤ 9223372036854775807) : AFn Tryz.prog Γ 121 [.c (.d (.int .i64 n))] [.d (.str (itoa n))] := by
  refine AFn.ofFlat ⟨⟨_, Tryz.func121, by kernel_rfl, by kernel_rfl⟩⟩ fun V w vals hv ha => ?_
  cases ha with | cons a1 a2 =>
  cases a2
  rw [ar_int a1]
  refine (Tryz.strconv_Itoa n h0 h1 w (tab_of hv (g := 4) (by kernel_rfl) hΓ)).mono fun e w' ⟨he, k, os, hw⟩ => ⟨_, he, .str _, ?_⟩
  subst hw
  exact below_grow _ w (Nat.le_refl _) k os
theorem c142 (xs : List (List UInt8)) (sep : List UInt8) (hN : xs.length ≤ 140737488355328) (hlen : (Lib.join xs sep).length ≤ 140737488355328) : AFn Tryz.prog Γ 142 [.c (.bor 1 (xs.map Fc.sD)), .c (.d (.str sep))] [.d (.str (Lib.join xs sep))] :=
  AFn.join Tryz.lays156 Tryz.Builder_Extra_156 xs sep hN hlen
theorem c217 (s p : Str) : AFn Tryz.prog Γ 217 [.c (.d (.str s)), .c (.d (.str p))] [.d (.bool (Lib.hasPrefix s p))] := by
  refine AFn.ofFlat ⟨⟨_, Tryz.func217, by kernel_rfl, by kernel_rfl⟩⟩ fun V w vals hv ha => ?_
  cases ha with | cons a1 a2 => cases a2 with | cons a2 a3 =>
  cases a3
  rw [ar_str a1, ar_str a2]
  refine (Tryz.strings_HasPrefix ⟨s.toArray⟩ ⟨p.toArray⟩ w).mono fun e w' ⟨he, hw⟩ => ⟨_, he, ?_, hw ▸ Below.refl _ _⟩
  exact .bool _
theorem c108 (s p : Str) : AFn Tryz.prog Γ 108 [.c (.d (.str s)), .c (.d (.str p))] [.d (.int .i64 (Lib.compareBytes s p))] := by
  refine AFn.ofFlat ⟨⟨_, Tryz.func108, by kernel_rfl, by kernel_rfl⟩⟩ fun V w vals hv ha => ?_
  cases ha with | cons a1 a2 => cases a2 with | cons a2 a3 =>
  cases a3
  rw [ar_str a1, ar_str a2]
  refine (Tryz.strings_Compare ⟨s.toArray⟩ ⟨p.toArray⟩ w).mono fun e w' ⟨he, hw⟩ => ⟨_, he, ?_, hw ▸ Below.refl _ _⟩
  exact .int _ _
theorem c243 (s : Str) (c : Int) : AFn Tryz.prog Γ 243 [.c (.d (.str s)), .c (.d (.int .u8 c))] [.d (.int .i64 (Lib.indexByte s c.toNat.toUInt8))] := by
  refine AFn.ofFlat ⟨⟨_, Tryz.func243, by kernel_rfl, by kernel_rfl⟩⟩ fun V w vals hv ha => ?_
  cases ha with | cons a1 a2 => cases a2 with | cons a2 a3 =>
  cases a3
  rw [ar_str a1, ar_int a2]
  refine (Tryz.strings_IndexByte ⟨s.toArray⟩ c w).mono fun e w' ⟨he, hw⟩ => ⟨_, he, ?_, hw ▸ Below.refl _ _⟩
  exact .int _ _
/-! ### slices.Index, slices.IndexFunc -/
theorem c162 (l : List Str) (v : Str) (hl : l.length ≤ 2000000) : AFn Tryz.prog Γ 162 [.c (.bor 1 (l.map Fc.sD)), .c (.d (.str v))] [.d (.int .i64 (fI (fun x => decide (x = v)) 0 l))] := by
  refine AFn.vc [] Tryz.func162 rfl Tryz.mixed (by kernel_rfl) Tryz.ntmps162 Tryz.results162 (by simp) ?_
  push_cast
  refine LoopV.cnt Tryz.mixed [0, 1, 7] l.length (fun k => [(8, .c (.d (.int .i64 k)))]) (fun k => fI (fun x => decide (x = v)) k (l.drop k) = fI (fun x => decide (x = v)) 0 l) (by simp) ?_ (by push_cast)
  intro k hk hinv
  push_cast
  refine ⟨fun h => ?_, fun h => ?_⟩
  · have hlt : k < l.length := by omega
    rw [Fc.drop_cons hlt, fI] at hinv
    refine ⟨hlt, fun e => ?_, fun e => ⟨by omega, hlt, ?_⟩⟩
    · rw [← hinv, if_pos (by simp [e])]
    · rw [← hinv, if_neg (by simpa using fun h => e h.symm)]
  · rw [← hinv, List.drop_eq_nil_of_le (by omega)]; rfl
theorem c113 (l : List Str) (v : Str) (hl : l.length ≤ 2000000) : AFn Tryz.prog Γ 113 [.c (.bor 1 (l.map Fc.sD)), .c (.d (.str v))] [.d (.bool (decide (v ∈ l)))] := by
  refine AFn.vc [] Tryz.func113 rfl Tryz.mixed (by kernel_rfl) Tryz.ntmps113 Tryz.results113 (by simp) ?_
  push_cast
  refine CallL.q (c162 l v hl) ?_
  push_cast
  rw [Ax.fI_ge]
  rw [List.any_eq]; exact decide_eq_decide.2 (by simp)
def predSb (p : Sb → Bool) : List AV → List RV → Prop := fun a r => ∃ x : Sb, a = [.agg (x.ds.map C.d)] ∧ r = [.d (.bool (p x))]
def predRc (p : Rec → Bool) : List AV → List RV → Prop := fun a r => ∃ x : Rec, a = [.agg (x.ds.map C.d)] ∧ r = [.d (.bool (p x))]
theorem c218 (l : List Sb) (p : Sb → Bool) (hl : l.length ≤ 2000000) : AFn Tryz.prog Γ 218 [.c (.bor 2 (l.map Sb.ds)), .c (.fn (FnSpec Tryz.prog Γ (predSb p)))] [.d (.int .i64 (fI p 0 l))] := by
  refine AFn.vc [] Tryz.func218 rfl Tryz.mixed (by kernel_rfl) Tryz.ntmps218 Tryz.results218 (by simp) ?_
  push_cast
  refine LoopV.cnt Tryz.mixed [0, 1, 7] l.length (fun k => [(8, .c (.d (.int .i64 k)))]) (fun k => fI p k (l.drop k) = fI p 0 l) (by simp) ?_ (by push_cast)
  intro k hk hinv
  push_cast
  refine ⟨fun h => ⟨by omega, CallL.fn _ _ ⟨l[k], rfl, rfl⟩ ?_⟩, fun h => ?_⟩
  · push_cast
    refine ⟨fun a => ?_, fun a => ⟨by omega, by omega, ?_⟩⟩
    · rw [← hinv, Fc.drop_cons (by omega), fI, if_pos a]
    · rw [← hinv, Fc.drop_cons (show k < l.length by omega), fI, if_neg (by simp [a])]
  · rw [← hinv, List.drop_eq_nil_of_le (by omega)]; rfl
theorem c111 (l : List Rec) (p : Rec → Bool) (hl : l.length ≤ 2000000) : AFn Tryz.prog Γ 111 [.c (.bor 5 (l.map Rec.ds)), .c (.fn (FnSpec Tryz.prog Γ (predRc p)))] [.d (.int .i64 (fI p 0 l))] := by
  refine AFn.vc [] Tryz.func111 rfl Tryz.mixed (by kernel_rfl) Tryz.ntmps111 Tryz.results111 (by simp) ?_
  push_cast
  refine LoopV.cnt Tryz.mixed [0, 1, 7] l.length (fun k => [(8, .c (.d (.int .i64 k)))]) (fun k => fI p k (l.drop k) = fI p 0 l) (by simp) ?_ (by push_cast)
  intro k hk hinv
  push_cast
  refine ⟨fun h => ⟨by omega, CallL.fn _ _ ⟨l[k], rfl, rfl⟩ ?_⟩, fun h => ?_⟩
  · push_cast
    refine ⟨fun a => ?_, fun a => ⟨by omega, by omega, ?_⟩⟩
    · rw [← hinv, Fc.drop_cons (by omega), fI, if_pos a]
    · rw [← hinv, Fc.drop_cons (show k < l.length by omega), fI, if_neg (by simp [a])]
  · rw [← hinv, List.drop_eq_nil_of_le (by omega)]; rfl
theorem c219 (s : Sb) (c : Int) : AFn Tryz.prog Γ 219 [.agg (s.ds.map C.d), .c (.ptr [.int .u8 c])] [.d (.bool (decide (s.code = c)))] := by
  refine AFn.vc [] Tryz.func219 rfl Tryz.mixed (by kernel_rfl) Tryz.ntmps219 Tryz.results219 (by simp) ?_
  push_cast
theorem c112 (s : Rec) (c : Int) : AFn Tryz.prog Γ 112 [.agg (s.ds.map C.d), .c (.ptr [.int .i64 c])] [.d (.bool (decide (s.id = c)))] := by
  refine AFn.vc [] Tryz.func112 rfl Tryz.mixed (by kernel_rfl) Tryz.ntmps112 Tryz.results112 (by simp) ?_
  push_cast
end Go.Proofs

/- Fields and years of the program. No condition. -/
namespace Go.Proofs
open Go Go.Ax Go.Tx Go.Lib Go.Shelf Go.RowKit Go.Fc
variable {Γ : List (Nat × List D)}
theorem fI_spec {α : Type} (p : α → Bool) : ∀ (l : List α) (k : Nat), (Ax.fI p k l = -1 ∧ l.find? p = none) ∨ ∃ (j : Nat) (hj : j < l.length), Ax.fI p k l = ((k + j : Nat) : Int) ∧ l.find? p = some l[j]
  | [], k => .inl ⟨rfl, rfl⟩
  | x :: r, k => by
    rw [Ax.fI]
    by_cases h : p x = true
    · exact .inr ⟨0, by simp, by rw [if_pos h]; rfl, by simp [h]⟩
    · rw [if_neg h]
      have hf : (x :: r).find? p = r.find? p := by simp [h]
      rw [hf]
      rcases fI_spec p r (k + 1) with ⟨h1, h2⟩ | ⟨j, hj, h1, h2⟩
      · exact .inl ⟨h1, h2⟩
      · exact .inr ⟨j + 1, by simp; omega, by rw [h1]; congr 1; omega, by rw [h2]; rfl⟩
theorem getS_fI (l : List Sb) (c : Int) : (Ax.fI (fun s : Sb => decide (s.code = c)) 0 l < 0 ∧ getS l c = ([], false)) ∨ (0 ≤ Ax.fI (fun s : Sb => decide (s.code = c)) 0 l ∧ ∃ h : (Ax.fI (fun s : Sb => decide (s.code = c)) 0 l).toNat < l.length, getS l c = (l[(Ax.fI (fun s : Sb => decide (s.code = c)) 0 l).toNat].val, true)) := by
  unfold getS
  rcases fI_spec (fun s : Sb => decide (s.code = c)) l 0 with ⟨h1, h2⟩ | ⟨j, hj, h1, h2⟩
  · rw [h1, h2]; exact .inl ⟨by omega, rfl⟩
  · have e : (Ax.fI (fun s : Sb => decide (s.code = c)) 0 l).toNat = j := by omega
    rw [h2]
    refine .inr ⟨by omega, by omega, ?_⟩
    simp only [e]
theorem indexByte_codes (codes : Str) (c : Int) (h0 : 0 ≤ c) (h1 : c ≤ 255) : (0 ≤ Lib.indexByte codes c.toNat.toUInt8) = (codes.any (fun x => decide ((x.toNat : Int) = c)) = true) := by
  have h := contains_iff_indexByte codes c.toNat.toUInt8
  have e : (codes.any fun x => decide ((x.toNat : Int) = c)) = codes.contains c.toNat.toUInt8 := by
    rw [List.contains_eq_any_beq]
    congr 1
    funext x
    apply Bool.eq_iff_iff.2
    simp only [decide_eq_true_eq, beq_iff_eq]
    constructor
    · intro h; subst h; simp
    · intro h; subst h; simp; omega
  rw [e, h]
  simp
theorem c156 (f : Fld) (c : Int) (hl : f.subs.length ≤ 2000000) : AFn Tryz.prog Γ 156 [.agg (f.ds.map C.d), .c (.d (.int .u8 c))] [.d (.str (getS f.subs c).1), .d (.bool (getS f.subs c).2)] := by
  have k3 := getS_fI f.subs c
  generalize hR : getS f.subs c = R at *
  refine AFn.vc [] Tryz.func156 rfl Tryz.mixed (by kernel_rfl) Tryz.ntmps156 Tryz.results156 (by simp) ?_
  push_cast
  refine CallL.q (c218 f.subs (fun s => decide (s.code = c)) hl) ?_ (.cons (ArgOk.bor rfl) (.cons (ArgOk.clo (dss := [[.int .u8 c]]) (c219 (Γ := []) ⟨0, []⟩ 0).call rfl (fun a r h => by obtain ⟨x, rfl, rfl⟩ := h; exact c219 x _)) .nil))
  push_cast
  rcases k3 with ⟨h1, rfl⟩ | ⟨h1, h2, rfl⟩
  · exact ⟨fun _ => ⟨rfl, rfl⟩, fun h => by omega⟩
  · exact ⟨fun h => by omega, fun _ => ⟨h1, h2, rfl, rfl⟩⟩
theorem c172 (f : Fld) (codes : Str) (hl : f.subs.length ≤ 2000000) (hu : ∀ s ∈ f.subs, 0 ≤ s.code ∧ s.code ≤ 255) : AFn Tryz.prog Γ 172 [.agg (f.ds.map C.d), .c (.d (.str codes))] [.d (.lst 1 ((allS f.subs codes).map Fc.sD))] := by
  refine AFn.vc [] Tryz.func172 rfl Tryz.mixed (by kernel_rfl) Tryz.ntmps172 Tryz.results172 (by simp) ?_
  push_cast
  refine LoopV.nilrow 5 9 1 ?_
  push_cast
  refine LoopV.cntH Tryz.mixed [1, 9, 10] f.subs.length (fun k => [(5, .c (.own 1 (allS (f.subs.take k) codes).length)), (11, .c (.d (.int .i64 k)))]) (fun k => [.box 88 (f.ds.map C.d), .row 9 1 ((allS (f.subs.take k) codes).map Fc.sD) (allS (f.subs.take k) codes).length]) (fun _ => True) trivial ?_ (by push_cast; exact ⟨rfl, rfl, rfl⟩)
  intro k hk _
  push_cast
  refine ⟨fun h => ?_, fun h => ?_⟩
  · have hlt : k < f.subs.length := by omega
    have hn := allS_next (codes := codes) hlt
    have hb := allS_len (f.subs.take k) codes
    rw [List.length_take] at hb
    have hin : inCodes codes f.subs[k].code = (decide (codes = []) || codes.any (fun x => decide ((x.toNat : Int) = f.subs[k].code))) := by unfold inCodes; congr 1; cases codes <;> rfl
    obtain ⟨u0, u1⟩ := hu _ (List.getElem_mem hlt)
    have hix := indexByte_codes codes f.subs[k].code u0 u1
    refine ⟨hlt, fun hc => ?_, fun hc => ?_⟩
    · refine CallL.q (c243 codes _) ?_
      push_cast
      rw [decide_eq_false hc, Bool.false_or] at hin
      refine ⟨fun e => ?_, fun e => ?_⟩
      · rw [hix] at e
        rw [hin, if_pos e] at hn
        refine ⟨by omega, by omega, hlt, by rw [hn]; simp, by rw [hn]; simp [Fc.sD], by rw [hn]; simp⟩
      · rw [if_neg (by rw [hin, ← hix]; omega)] at hn
        refine ⟨by omega, hlt, by rw [hn], by rw [hn], by rw [hn]⟩
    · rw [if_pos (by rw [hin, decide_eq_true hc]; rfl)] at hn
      refine ⟨by omega, by omega, hlt, by rw [hn]; simp, by rw [hn]; simp [Fc.sD], by rw [hn]; simp⟩
  · rw [List.take_of_length_le (by omega)]
theorem c157 (f : Fld) (codes : Str) (hl : f.subs.length ≤ 2000000) (hu : ∀ s ∈ f.subs, 0 ≤ s.code ∧ s.code ≤ 255) (hlen : (Lib.join (allS f.subs codes) [32]).length ≤ 1000000000) : AFn Tryz.prog Γ 157 [.agg (f.ds.map C.d), .c (.d (.str codes))] [.d (.str (Lib.join (allS f.subs codes) [32]))] := by
  refine AFn.vc [] Tryz.func157 rfl Tryz.mixed (by kernel_rfl) Tryz.ntmps157 Tryz.results157 (by simp) ?_
  push_cast
  refine CallL.q (c172 f codes hl hu) ?_
  push_cast
  refine CallL.q (c142 (allS f.subs codes) [32] (by have := allS_len f.subs codes; omega) (by omega)) ?_
  push_cast
def hasP (p : Str) (f : Fld) : Bool := Lib.hasPrefix f.tag p
theorem filter_next {α : Type} {p : α → Bool} {l : List α} {k : Nat} (h : k < l.length) : (l.take (k + 1)).filter p = if p l[k] = true then (l.take k).filter p ++ [l[k]] else (l.take k).filter p := by
  rw [Fc.take_next h, List.filter_append, List.filter_cons, List.filter_nil]
  split <;> simp
theorem c155 (r : Rec) (p : Str) (hl : r.fields.length ≤ 2000000) : AFn Tryz.prog Γ 155 [.agg (r.ds.map C.d), .c (.d (.str p))] [.d (.lst 4 ((r.fields.filter (hasP p)).map Fld.ds))] := by
  obtain ⟨id, ver, kind, lang, fields⟩ := r
  simp only at hl
  refine AFn.vc [] Tryz.func155 rfl Tryz.mixed (by kernel_rfl) Tryz.ntmps155 Tryz.results155 (by simp) ?_
  push_cast
  refine LoopV.nilrow 5 88 4 ?_
  push_cast
  refine LoopV.cntH Tryz.mixed [1, 9, 10] fields.length (fun k => [(5, .c (.own 1 ((fields.take k).filter (hasP p)).length)), (11, .c (.d (.int .i64 k)))]) (fun k => [.box 64 [.d (.int .i64 id), .d (.int .i64 ver), .d (.int .i64 kind), .d (.str lang), .d (.lst 4 (fields.map Fld.ds))], .row 88 4 (((fields.take k).filter (hasP p)).map Fld.ds) ((fields.take k).filter (hasP p)).length]) (fun _ => True) trivial ?_ (by push_cast; exact ⟨rfl, rfl, rfl⟩)
  intro k hk _
  push_cast
  refine ⟨fun h => ?_, fun h => by rw [List.take_of_length_le (by omega)]⟩
  have hlt : k < fields.length := by omega
  have hn := filter_next (p := hasP p) hlt
  have hb : ((fields.take k).filter (hasP p)).length ≤ k := Nat.le_trans (List.length_filter_le _ _) (by rw [List.length_take]; omega)
  refine ⟨hlt, ?_⟩
  refine CallL.q (c217 _ p) ?_
  push_cast
  refine ⟨fun e => ?_, fun e => ?_⟩
  · rw [if_pos (show hasP p fields[k] = true from e)] at hn
    exact ⟨by omega, by omega, hlt, by rw [hn]; simp, by rw [hn]; simp [Fld.ds], by rw [hn]; simp⟩
  · rw [if_neg (show ¬ hasP p fields[k] = true from by unfold hasP; rw [e]; simp)] at hn
    exact ⟨by omega, hlt, by rw [hn], by rw [hn], by rw [hn]⟩
/-- The value of the first n digits. -/
def v4 (l : Str) : Nat → Int
  | 0 => 0
  | n + 1 => v4 l n * 10 + (((l[n]?).getD 0).toNat - 48 : Int)
theorem c261 (s : Str) (hs : s.length ≤ 2000000) : AFn Tryz.prog Γ 261 [.c (.d (.str s))] [.d (.int .i64 (yearS s))] := by
  generalize hR : yearS s = R
  refine AFn.vc [] Tryz.func261 rfl Tryz.mixed (by kernel_rfl) Tryz.ntmps261 Tryz.results261 (by simp) ?_
  push_cast
  refine LoopV.of0 Tryz.mixed [0] (S := Nat) (fun q => [(3, .c (.d (.int .i64 q)))]) (fun q => q ≤ s.length + 1 ∧ yearS (s.drop q) = R) (fun q => s.length + 1 - q) 0 ⟨Nat.zero_le _, by simpa using hR⟩ ?_ (by push_cast)
  rintro i ⟨hi, hinv⟩
  push_cast
  refine ⟨fun h1 => ?_, fun h1 => ?_⟩
  · refine LoopV.of0 Tryz.mixed [0, 3] (S := Nat) (fun q => [(4, .c (.d (.int .i64 q)))]) (fun k => i ≤ k ∧ k ≤ s.length ∧ yrG (s.drop k) (v4 (s.drop i) (min (k - i) 4)) ((k - i : Nat) : Int) = R ∧ ∀ j (hj : j < s.length), i ≤ j → j < k → digB s[j] = true) (fun q => s.length + 1 - q) i ⟨Nat.le_refl _, by omega, by simpa [v4, yearS] using hinv, fun j hj a b => by omega⟩ ?_ (by push_cast)
    rintro k ⟨hik, hk, hy, hd⟩
    push_cast
    have e1 : ((i : Int) + 1).toNat = i + 1 := by omega
    have e2 : ((i : Int) + 2).toNat = i + 2 := by omega
    have e3 : ((i : Int) + 3).toNat = i + 3 := by omega
    simp only [e1, e2, e3]
    have next : ∀ r, yearS (s.drop (k + 1)) = r → r = R → ∃ s', ((s' ≤ List.length s + 1 ∧ yearS (List.drop s' s) = R) ∧ List.length s + 1 - s' < List.length s + 1 - i) ∧ (s' : Int) = k + 1 := fun r a b => ⟨k + 1, ⟨⟨by omega, by rw [a, b]⟩, by omega⟩, rfl⟩
    have hb : ∀ j (hj : j < s.length), i ≤ j → j < k → 48 ≤ s[j].toNat ∧ s[j].toNat ≤ 57 := fun j hj a b => by
      have := hd j hj a b
      unfold digB at this
      exact of_decide_eq_true this
    have hv : ∀ (h4 : k = i + 4), v4 (s.drop i) (min (k - i) 4) = (((s[i]).toNat : Int) - 48) * 1000 + ((s[i + 1].toNat : Int) - 48) * 100 + ((s[i + 2].toNat : Int) - 48) * 10 + ((s[i + 3].toNat : Int) - 48) := fun h4 => by
      subst h4
      rw [show min (i + 4 - i) 4 = 4 by omega]
      simp only [v4, List.getElem?_drop]
      rw [List.getElem?_eq_getElem (by omega), List.getElem?_eq_getElem (by omega), List.getElem?_eq_getElem (by omega), List.getElem?_eq_getElem (by omega)]
      simp only [Option.getD_some, Nat.add_zero]
      omega
    refine ⟨fun h2 => ⟨by omega, fun h3 => ⟨by omega, fun h4 => ?_, fun h4 => ?_⟩, fun h3 => ?_⟩, fun h2 => ?_⟩
    · have hlt : k < s.length := by omega
      have hdg : digB s[k] = true := by unfold digB; exact decide_eq_true (by omega)
      refine ⟨by omega, k + 1, ⟨⟨by omega, by omega, ?_, fun j hj a b => ?_⟩, by omega⟩, rfl⟩
      · rw [Fc.drop_cons hlt] at hy
        unfold yrG at hy
        rw [if_pos hdg] at hy
        have ek : ((k + 1 - i : Nat) : Int) = ((k - i : Nat) : Int) + 1 := by omega
        have en : v4 (s.drop i) (min (k + 1 - i) 4) = if ((k - i : Nat) : Int) + 1 ≤ 4 then v4 (s.drop i) (min (k - i) 4) * 10 + ((s[k].toNat : Int) - 48) else v4 (s.drop i) (min (k - i) 4) := by
          split
          · rw [show min (k + 1 - i) 4 = (k - i) + 1 by omega, show min (k - i) 4 = k - i by omega]
            simp only [v4, List.getElem?_drop]
            rw [show i + (k - i) = k by omega, List.getElem?_eq_getElem hlt]
            rfl
          · rw [show min (k + 1 - i) 4 = 4 by omega, show min (k - i) 4 = 4 by omega]
        rw [ek, en]
        exact hy
      · by_cases e : j = k
        · subst e; exact hdg
        · exact hd j hj a (by omega)
    all_goals
      have hx : (if ((k - i : Nat) : Int) = 4 ∧ 1000 ≤ v4 (s.drop i) (min (k - i) 4) ∧ v4 (s.drop i) (min (k - i) 4) ≤ 2199 then v4 (s.drop i) (min (k - i) 4) else yearS (s.drop (k + 1))) = R := by
        first
          | (have hlt : k < s.length := by omega
             rw [Fc.drop_cons hlt] at hy
             unfold yrG at hy
             rw [if_neg (by unfold digB; simp; omega)] at hy
             exact hy)
          | (have hlt : ¬ k < s.length := by omega
             rw [List.drop_eq_nil_of_le (by omega)] at hy
             unfold yrG at hy
             have hz : yearS (s.drop (k + 1)) = 0 := by rw [List.drop_eq_nil_of_le (by omega)]; rfl
             rw [hz]
             exact hy)
      refine ⟨by omega, fun h5 => ?_, fun h5 => ⟨by omega, ?_⟩⟩
      · have hv := hv (by omega)
        have b0 := hb i (by omega) (by omega) (by omega)
        have b1 := hb (i + 1) (by omega) (by omega) (by omega)
        have b2 := hb (i + 2) (by omega) (by omega) (by omega)
        have b3 := hb (i + 3) (by omega) (by omega) (by omega)
        rw [hv] at hx
        refine ⟨by omega, by omega, by omega, by omega, by omega, by omega, by omega, by omega, by omega, by omega, by omega, by omega, by omega, by omega, by omega, by omega, by omega, by omega, by omega, by omega, by omega, by omega, by omega, by omega, fun h6 => ⟨fun h7 => ?_, fun h7 => ?_⟩, fun h6 => ?_⟩
        · rw [if_pos ⟨by omega, h6, h7⟩] at hx; exact hx
        · rw [if_neg (by omega)] at hx; exact ⟨by omega, next _ hx rfl⟩
        · rw [if_neg (by omega)] at hx; exact ⟨by omega, next _ hx rfl⟩
      · rw [if_neg (by omega)] at hx; exact next _ hx rfl
  · rw [List.drop_eq_nil_of_le (by omega)] at hinv
    exact hinv
end Go.Proofs
