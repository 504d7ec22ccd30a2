/- Part of a proof about this program; no condition of its own. -/
import Derived.Lib.RuneBytes
import Derived.Laws.Runes
import Derived.Test.YtanbfhnmklhjiaaDoorGxA
import Derived.Laws.Externs
import Derived.Lib.Bytealg
import Derived.Lib.IndexLaws
import Derived.ChangeArms
import Derived.Deep.Slices
import Derived.OpenShut
import Derived.Below
import Derived.Carry
import Derived.ChangeSame
import Derived.Lib.ConvBytes
set_option linter.all false
/- A rune as a string. No condition. -/
namespace Go.Ax
open Go Go.Lib
theorem encode_eq (r : Int) : (Utf8.encode r).data.toList = encodeRune r := by
  by_cases hv : (0 ≤ r ∧ r < 55296) ∨ (57344 ≤ r ∧ r ≤ 1114111)
  · have hval : Utf8.valid r = true := by unfold Utf8.valid; simp; omega
    obtain ⟨c, rfl⟩ : ∃ c : Nat, r = c := ⟨r.toNat, by omega⟩
    unfold Utf8.encode
    simp only [hval, if_true, Int.toNat_natCast]
    by_cases h1 : c < 128
    · rw [if_pos h1]
      have e : encodeRuneZ (c : Int) = [(c : Int)] := encodeRuneZ_one (by omega) (by omega)
      simp [encodeRune, e, UInt8.ofNat, Nat.toUInt8]
    · rw [if_neg h1]
      by_cases h2 : c < 2048
      · rw [if_pos h2]
        have e : encodeRuneZ (c : Int) = [192 + (c : Int) / 64, 128 + (c : Int) % 64] := encodeRuneZ_two (by omega) (by omega)
        have a1 : (192 + (c : Int) / 64).toNat = 192 + c / 64 := by omega
        have a2 : (128 + (c : Int) % 64).toNat = 128 + c % 64 := by omega
        simp only [encodeRune, e, List.map_cons, List.map_nil, a1, a2]
      · rw [if_neg h2]
        by_cases h3 : c < 65536
        · rw [if_pos h3]
          have e : encodeRuneZ (c : Int) = [224 + (c : Int) / 4096, 128 + (c : Int) / 64 % 64, 128 + (c : Int) % 64] := encodeRuneZ_three (by omega)
          have a1 : (224 + (c : Int) / 4096).toNat = 224 + c / 4096 := by omega
          have a2 : (128 + (c : Int) / 64 % 64).toNat = 128 + c / 64 % 64 := by omega
          have a3 : (128 + (c : Int) % 64).toNat = 128 + c % 64 := by omega
          simp only [encodeRune, e, List.map_cons, List.map_nil, a1, a2, a3]
        · rw [if_neg h3]
          have e : encodeRuneZ (c : Int) = [240 + (c : Int) / 262144, 128 + (c : Int) / 4096 % 64, 128 + (c : Int) / 64 % 64, 128 + (c : Int) % 64] := encodeRuneZ_four (by omega) (by omega)
          have a1 : (240 + (c : Int) / 262144).toNat = 240 + c / 262144 := by omega
          have a2 : (128 + (c : Int) / 4096 % 64).toNat = 128 + c / 4096 % 64 := by omega
          have a3 : (128 + (c : Int) / 64 % 64).toNat = 128 + c / 64 % 64 := by omega
          have a4 : (128 + (c : Int) % 64).toNat = 128 + c % 64 := by omega
          simp only [encodeRune, e, List.map_cons, List.map_nil, a1, a2, a3, a4]
  · have hval : Utf8.valid r = false := by unfold Utf8.valid; simp; omega
    have e : encodeRuneZ r = [239, 191, 189] := encodeRuneZ_bad (by omega)
    unfold Utf8.encode
    simp only [hval, Bool.false_eq_true, if_false]
    simp only [encodeRune, e]
    decide
theorem encode_str (r : Int) : Utf8.encode r = ⟨(encodeRune r).toArray⟩ := by
  rw [← encode_eq]
end Go.Ax

/-
  A function's body proves its contract; a call by its contract; a call walked in place. No condition.
-/
namespace Go.Ax
open Go Go.RowKit

variable {P : Program} {Γ : List (Nat × List D)}

theorem cellD_ok {cx : Cx} {G : Gh} {h : List LB} {w : World} (s : SatH cx G h w) {V : Vw} (hV : cx.G0.V = V) (hS : cx.S = V.I) (h0 : ViewOk cx.pm.Γ V cx.w0) {fr : Option Nat} {fb : Option Nat} (hfb : ∀ b, fb = some b → G.V.H b = none)
    (hfr : ∀ b, fb = some b → ∃ i lb e, fr = some i ∧ h[i]? = some lb ∧ lb.live ∧ G.g[i]? = some e ∧ blkOf e.1 = some b) {c : C} {x : D} (hc : cellD fr h c = some x) {v : Value} (hv : Cr G c v) : Dr (exitV V cx.w0.heap.size fb w) x v := by
  cases c with
  | d y => cases hc; exact exit_dr s hV hS h0 fb hfb hv
  | own i ver =>
    simp only [cellD] at hc
    split at hc
    · next t sz els v' hi =>
      split at hc
      · next hcond =>
        cases hc
        obtain ⟨rfl, hne⟩ := hcond
        refine exit_own s hV hS h0 fb hfb hi hv fun b hb hob => ?_
        obtain ⟨i', lb, e, q1, q2, q3, q4, q5⟩ := hfr b hb
        obtain ⟨v0, xs, hg, how, _⟩ := row_at s hi
        obtain ⟨_, v0', n', hg', _, hx⟩ := hv
        rw [hg] at hg'
        cases hg'
        have := hx rfl
        subst this
        have := s.sep i i' _ lb _ e b hi q2 trivial q3 hg q4 ((row_form how).2.2.1 b hob) q5
        exact hne (by rw [q1, this])
      · cases hc
    · cases hc
  | _ => cases hc

theorem rvOf_ok {cx : Cx} {G : Gh} {h : List LB} {w : World} (s : SatH cx G h w) {V : Vw} (hV : cx.G0.V = V) (hS : cx.S = V.I) (h0 : ViewOk cx.pm.Γ V cx.w0) {fr : Option Nat} {fb : Option Nat} (hfb : ∀ b, fb = some b → G.V.H b = none)
    (hfr : ∀ b, fb = some b → ∃ i lb e, fr = some i ∧ h[i]? = some lb ∧ lb.live ∧ G.g[i]? = some e ∧ blkOf e.1 = some b) (hfr' : ∀ i e b, fr = some i → G.g[i]? = some e → blkOf e.1 = some b → fb = some b)
    {α : AV} {r : RV} (hc : rvOf fr h α = some r) {v : Value} (hv : Ar G α v) : Rr (exitV V cx.w0.heap.size fb w) w cx.w0.heap.size r v := by
  cases α with
  | any => cases hc
  | tup vs => cases hc
  | c c =>
    simp only [rvOf] at hc
    split at hc
    · next x hx => cases hc; exact cellD_ok s hV hS h0 hfb hfr hx hv
    · split at hc
      · next i ver _ =>
        split at hc
        · next t sz els v' hi =>
          split at hc
          · next hcond =>
            cases hc
            obtain ⟨rfl, hi'⟩ := hcond
            obtain ⟨v0, xs, hg, how, hob, hd, hl⟩ := row_at s hi
            obtain ⟨_, v0', n', hg', _, hx⟩ := (hv : Cr G (.own i v') v)
            rw [hg] at hg'
            cases hg'
            have := hx rfl
            subst this
            refine ⟨xs, how, fun b hb => ?_, hd.imp fun _ _ hdd => exit_dr s hV hS h0 fb hfb hdd, hl⟩
            have := hfr' i _ b hi' hg ((row_form how).2.2.1 b hb)
            simp [exitV, this]
          · cases hc
        · cases hc
      · cases hc
  | agg cs =>
    simp only [rvOf] at hc
    cases e : cellDs fr h cs with
    | none => simp [e] at hc
    | some ds =>
      simp [e] at hc
      subst hc
      obtain ⟨vs, rfl, hcs⟩ := hv
      refine ⟨vs, rfl, ?_⟩
      induction hcs generalizing ds with
      | nil => cases e; exact .nil
      | cons hh ht ih =>
        simp only [cellDs] at e
        split at e
        · next x l h1 h2 => cases e; exact .cons (cellD_ok s hV hS h0 hfb hfr h1 hh) (ih _ h2)
        · cases e

/-- The end of a function: its results read so. -/
def Fin (P : Program) (res : List ResultVar) (fr : Option Nat) (rs : List RV) : Exit → St → Prop := fun e st =>
  (e = .ret ∨ e = .normal) ∧ ∃ αs, resAVs P st res = some αs ∧ rvsOf fr st.heap αs = some rs

theorem rvsOf_ok {cx : Cx} {G : Gh} {h : List LB} {w : World} (s : SatH cx G h w) {V : Vw} (hV : cx.G0.V = V) (hS : cx.S = V.I) (h0 : ViewOk cx.pm.Γ V cx.w0) {fr : Option Nat} {fb : Option Nat} (hfb : ∀ b, fb = some b → G.V.H b = none)
    (hfr : ∀ b, fb = some b → ∃ i lb e, fr = some i ∧ h[i]? = some lb ∧ lb.live ∧ G.g[i]? = some e ∧ blkOf e.1 = some b) (hfr' : ∀ i e b, fr = some i → G.g[i]? = some e → blkOf e.1 = some b → fb = some b) :
    ∀ (αs : List AV) (rs : List RV) (vs : List Value), rvsOf fr h αs = some rs → All2 (Ar G) αs vs → All2 (Rr (exitV V cx.w0.heap.size fb w) w cx.w0.heap.size) rs vs
  | [], rs, vs, hc, hv => by cases hc; cases hv; exact .nil
  | α :: αs, rs, vs, hc, hv => by
    cases hv with
    | cons h1 h2 =>
      simp only [rvsOf] at hc
      split at hc
      · next x l q1 q2 => cases hc; exact .cons (rvOf_ok s hV hS h0 hfb hfr hfr' q1 h1) (rvsOf_ok s hV hS h0 hfb hfr hfr' αs l _ q2 h2)
      · cases hc

theorem exit_after {cx : Cx} {G : Gh} {st : St} {a : Act} {w : World} (s : Sat cx G st a w) {V : Vw} (hV : cx.G0.V = V) (hS : cx.S = V.I) (h0 : ViewOk cx.pm.Γ V cx.w0) {fr : Option Nat} (hlive : ∀ i, fr = some i → ∃ lb, st.heap[i]? = some lb ∧ lb.live)
    {αs : List AV} {rs : List RV} {vs : List Value} (hr : rvsOf fr st.heap αs = some rs) (hv : All2 (Ar G) αs vs) : After V cx.w0 rs (.returned (tupV vs)) w := by
  obtain ⟨fb, hfb, hfr, hfr'⟩ : ∃ fb : Option Nat, (∀ b, fb = some b → G.V.H b = none) ∧ (∀ b, fb = some b → ∃ i lb e, fr = some i ∧ st.heap[i]? = some lb ∧ lb.live ∧ G.g[i]? = some e ∧ blkOf e.1 = some b) ∧
      (∀ i e b, fr = some i → G.g[i]? = some e → blkOf e.1 = some b → fb = some b) := by
    cases fr with
    | none => exact ⟨none, fun b h => (by cases h), fun b h => (by cases h), fun i e b h => (by cases h)⟩
    | some i =>
      obtain ⟨lb, h1, h2⟩ := hlive i rfl
      obtain ⟨e, h3, h4⟩ := s.h.entry h1
      refine ⟨blkOf e.1, fun b hb => (h4.blk h2 hb).2.2, fun b hb => ⟨i, lb, e, rfl, h1, h2, h3, hb⟩, fun i' e' b q1 q2 q3 => ?_⟩
      cases q1
      rw [h3] at q2
      cases q2
      exact q3
  have hfbb : ∀ b, fb = some b → cx.w0.heap.size ≤ b := fun b hb => by
    obtain ⟨i, lb, e, _, q2, q3, q4, q5⟩ := hfr b hb
    exact ((s.h.ent i lb e q2 q4).blk q3 q5).1
  refine ⟨exitV V cx.w0.heap.size fb w, vs, rfl, ⟨fun b o ho => ?_, fun b hb => ?_⟩, fun b o ho => ?_, fun b hb => ?_, rvsOf_ok s.h hV hS h0 hfb hfr hfr' αs rs vs hr hv, s.h.below⟩
  · have hlt := heap_lt (h0.view b o ho)
    have hne : ¬ (some b = fb) := fun e => by have := hfbb b e.symm; omega
    simp only [exitV, if_neg hne]
    rw [if_neg (by omega)]
    exact ho
  · obtain ⟨o, ho⟩ := h0.imm b hb
    have hlt := heap_lt (h0.view b o ho)
    exact ⟨fun e => by have := hfbb b e.symm; omega, .inl hb⟩
  · simp only [exitV] at ho
    split at ho
    · cases ho
    · split at ho
      · exact ho
      · next hlt =>
        rw [s.h.below.block b (by omega)]
        exact h0.view b o ho
  · obtain ⟨h1, h2⟩ := hb
    refine ⟨?_, h2.imp id fun h => h.1⟩
    simp only [exitV, if_neg h1]
    split
    · next hge =>
      rcases h2 with h2 | h2
      · obtain ⟨o, ho⟩ := h0.imm b h2
        have hlt := heap_lt (h0.view b o ho)
        omega
      · exact ⟨_, Array.getElem?_eq_getElem h2.2⟩
    · next hlt =>
      rcases h2 with h2 | h2
      · exact h0.imm b h2
      · omega

theorem AFn.of_body {f : FuncId} {fn : Func} {c : Code} {args : List AV} {rs : List RV} (hf : P.funcs[f]? = some fn) (hname : (fn.name == "runtime.NumGoroutine") = false) (hb : fn.body = some c) (hN : args.length ≤ fn.ntmps) (fr : Option Nat)
    (hfr : ∀ i (st : St) (αs : List AV), fr = some i → rvsOf fr st.heap αs = some rs → ∃ lb, st.heap[i]? = some lb ∧ lb.live)
    (h : AXc P ⟨0, fn.ntmps, Γ⟩ c ⟨envOf args 0, []⟩ (Fin P fn.results.toList fr rs)) : AFn P Γ f args rs := by
  refine ⟨⟨fn, hf, hname, by rw [hb]; rfl⟩, fun V w vals h0 hargs => ?_⟩
  refine calls_of_wp hf hb ?_
  have hl := hargs.length
  let cx : Cx := ⟨⟨0, fn.ntmps, Γ⟩, w, V.I, ⟨V, []⟩, [], 0⟩
  have sat : Sat cx ⟨V, []⟩ ⟨envOf args 0, []⟩ { tmps := vals.toArray ++ Array.replicate (fn.ntmps - vals.toArray.size) undef, defers := [] } w := by
    refine ⟨⟨rfl, fun i b e hi => by simp at hi, fun i j bi bj ei ej k hi => by simp at hi, h0.view, fun b hb => ⟨h0.imm b hb, .inl hb⟩, .refl _ _, .refl _ _, h0.glob, Nat.zero_le _⟩, envOf_ok hargs _, ?_, rfl⟩
    · simp [cx]; omega
  refine wp_mono (h cx ⟨V, []⟩ _ w rfl sat).1 ?_
  rintro e a' w' ⟨G', st', s', he, αs, h1, h2⟩
  obtain ⟨vs, hres, hvs⟩ := run_results s' h1
  have hafter : After V cx.w0 rs (.returned (tupV vs)) w' := exit_after s' rfl rfl h0 (fun i hi => hfr i st' αs hi h2) h2 hvs
  rcases he with rfl | rfl
  · exact ⟨s'.defers, _, hres, hafter⟩
  · exact ⟨s'.defers, _, hres, hafter⟩

/-! ### calls -/
/-- A value that reads so here reads so for a callee. -/
def ArgOk (pm : Pm) (h : List LB) (α α' : AV) : Prop :=
  ∀ (cx : Cx) (G : Gh) (w : World) (v : Value), cx.pm = pm → SatH cx G h w → Ar G α v → Ar ⟨⟨fun b => w.heap[b]?, G.V.I⟩, []⟩ α' v

theorem SatH.le {cx : Cx} {G : Gh} {h : List LB} {w : World} (s : SatH cx G h w) : G.V.Le ⟨fun b => w.heap[b]?, G.V.I⟩ := ⟨s.view, fun _ h => h⟩

theorem ArgOk.d {pm : Pm} {h : List LB} {x : D} : ArgOk pm h (.c (.d x)) (.c (.d x)) := fun _ _ _ _ _ s hv => Dr.mono s.le hv
theorem ArgOk.agg {pm : Pm} {h : List LB} {cs : List C} {ds : List D} (hc : toDs cs = some ds) : ArgOk pm h (.agg cs) (.agg (ds.map C.d)) := fun _ _ _ _ _ s hv => by
  obtain ⟨vs, rfl, hvs⟩ := hv
  rw [toDs_ok _ _ hc] at hvs
  have h1 := (all2_dr hvs).imp fun _ _ hd => hd.mono s.le
  exact ⟨vs, rfl, All2.map_left (f := C.d) (R := Cr _) h1⟩
theorem ArgOk.bor {pm : Pm} {h : List LB} {α : AV} {sz : Nat} {els : List (List D)} (hα : elsOf h α = some (sz, els)) : ArgOk pm h α (.c (.bor sz els)) := fun _ _ _ _ _ s hv => by
  obtain ⟨A, cap, u, h1, h2, h3, h4, h5, h6⟩ := (slAt_of s hα hv).form
  exact ⟨A, cap, u, h1, h2, h3, h4, fun hn => by obtain ⟨ad, e, hc⟩ := h5 hn; exact ⟨ad, e, hc⟩, fun i e j c a b => (h6 i e j c a b).mono s.le⟩
theorem ArgOk.nil_bor {pm : Pm} {h : List LB} {sz : Nat} : ArgOk pm h (.c (.d (.raw (.slice none 0 0)))) (.c (.bor sz [])) := fun _ _ _ _ _ _ hv => by
  have := ar_raw hv
  subst this
  exact ⟨none, 0, fun _ _ => undef, rfl, by simp, by simp, by simp, by simp, by simp⟩
theorem ArgOk.nil_lst {pm : Pm} {h : List LB} {sz : Nat} : ArgOk pm h (.c (.d (.raw (.slice none 0 0)))) (.c (.d (.lst sz []))) := fun _ _ _ _ _ _ hv => by
  have := ar_raw hv
  subst this
  exact Dr.lst sz [] none 0 (fun _ _ => undef) (by simp) (by simp) (by simp) (by simp) (by simp)
theorem ArgOk.ptr {pm : Pm} {h : List LB} {α : AV} {cs : List C} {ds : List D} (hα : cellsAt h α = some cs) (hc : toDs cs = some ds) : ArgOk pm h α (.c (.ptr ds)) := fun _ _ _ _ _ s hv => by
  obtain ⟨ad, vs, rfl, hvs, hcell⟩ := (ptAt_of s hα hv).form
  rw [toDs_ok _ _ hc] at hvs
  have hd := all2_dr hvs
  refine ⟨ad, fun j => vs.getD j undef, rfl, fun j c hj => ?_⟩
  obtain ⟨u, hu, hdu⟩ := hd.get j c hj
  have := hcell j u hu
  rw [← cellIn_world] at this
  simp only [List.getD, hu, Option.getD_some]
  exact ⟨this, hdu.mono s.le⟩
theorem ArgOk.fn {pm : Pm} {h : List LB} {R : Vw → Value → Prop} : ArgOk pm h (.c (.fn R)) (.c (.fn R)) := fun _ _ _ _ _ s hv => ⟨hv.1, fun V' hV => hv.2 V' (s.le.trans hV)⟩

/-- What a function value is good for: called with arguments that read so it gives results that read so. -/
def FnSpec (P : Program) (Γ : List (Nat × List D)) (F : List AV → List RV → Prop) : Vw → Value → Prop := fun V v =>
  ∃ (f : FuncId) (caps : Array Value), v = .func (.func f) #[] caps ∧ CallOk P f ∧ ∀ args rs, F args rs → ∀ (V2 : Vw) (w : World) (vals : List Value), V.Le V2 → ViewOk Γ V2 w → All2 (Ar ⟨V2, []⟩) args vals → Calls P f (vals.toArray ++ caps) w (After V2 w rs)

/-- A closure over boxes that hold closed data is good for what its contract says. -/
theorem ArgOk.clo {pm : Pm} {h : List LB} {f : FuncId} {caps : List Nat} {F : List AV → List RV → Prop} {dss : List (List D)} (hcall : CallOk P f) (hcaps : (caps.map fun i => ((h[i]?).bind fun | .box _ cs => toDs cs | _ => none)) = dss.map some)
    (hF : ∀ args rs, F args rs → AFn P Γ f (args ++ dss.map fun ds => .c (.ptr ds)) rs) : ArgOk pm h (.c (.clo f caps)) (.c (.fn (FnSpec P Γ F))) := by
  intro cx G w v _ s hv
  obtain ⟨bs, rfl, hbs⟩ := hv
  refine ⟨rfl, fun V1 hV1 => ⟨f, _, rfl, hcall, fun args rs hf V2 w2 vals hV2 hview hargs => ?_⟩⟩
  have key : ∀ (caps bs : List Nat) (dss : List (List D)), All2 (fun i b => ∃ n, G.g[i]? = some (.pointer (some ⟨b, 0, none⟩), n)) caps bs → (caps.map fun i => ((h[i]?).bind fun | .box _ cs => toDs cs | _ => none)) = dss.map some →
      All2 (Ar ⟨V2, []⟩) (dss.map fun ds => .c (.ptr ds)) (bs.map fun b => Value.pointer (some ⟨b, 0, none⟩)) := by
    intro caps bs dss hh
    induction hh generalizing dss with
    | nil => intro e; cases dss with
      | nil => exact .nil
      | cons => simp at e
    | @cons i b caps bs h1 h2 ih =>
      intro e
      cases dss with
      | nil => simp at e
      | cons ds dss =>
        simp only [List.map_cons, List.cons.injEq] at e
        refine .cons ?_ (ih dss e.2)
        cases hi : h[i]? with
        | none => simp [hi] at e
        | some lb =>
          cases lb with
          | box t cs =>
            simp [hi] at e
            obtain ⟨b', vs, hg, _, _, hb, hc⟩ := box_at s hi
            obtain ⟨n, hg'⟩ := h1
            rw [hg] at hg'
            have hbb : b' = b := by injection hg' with hg'; injection hg' with hg' _; injection hg' with hg'; injection hg' with hg'; injection hg'
            subst hbb
            rw [toDs_ok _ _ e.1] at hc
            have hd := all2_dr hc
            refine ⟨⟨b', 0, none⟩, fun j => vs.getD j undef, rfl, fun j c hj => ?_⟩
            obtain ⟨u, hu, hdu⟩ := hd.get j c hj
            have hle := hV1.trans hV2
            have hblk := hle.H b' _ hb
            simp only [List.getD, hu, Option.getD_some]
            refine ⟨?_, (hdu.mono s.le).mono hle⟩
            rw [add_plain]
            simp [cellIn, hblk, hu]
          | _ => simp [hi] at e
  have := (hF args rs hf).run V2 w2 (vals ++ bs.map fun b => Value.pointer (some ⟨b, 0, none⟩)) hview (hargs.append (key caps bs dss hbs hcaps))
  simpa using this
end Go.Ax

/-
  Calls: by contract, through a function value, and walked in place. No condition.
-/
namespace Go.Ax
open Go Go.RowKit

variable {P : Program} {Γ : List (Nat × List D)}

def rvAV : RV → AV
  | .d x => .c (.d x)
  | .agg ds => .agg (ds.map C.d)
  | .fresh _ sz els => .c (.d (.lst sz els))
def rsAV : List RV → AV
  | [r] => rvAV r
  | rs => .tup (rs.map rvAV)

/-- Behind a call all that it made stays. -/
theorem after_all {cx : Cx} {G : Gh} {h : List LB} {w w' : World} (s : SatH cx G h w) {rs : List RV} {e : Ending} (ha : After ⟨fun b => w.heap[b]?, G.V.I⟩ w rs e w') :
    ∃ (G' : Gh) (vs : List Value), e = .returned (tupV vs) ∧ GLe G.g.length G G' ∧ SatH cx G' h w' ∧ All2 (fun r v => Wr G' (rvAV r) v) rs vs := by
  obtain ⟨V', vs, rfl, hle, hview, himm, hrs, hb⟩ := ha
  let V2 : Vw := ⟨fun b => if b < w.heap.size then G.V.H b else w'.heap[b]?, fun b => G.V.I b ∨ (w.heap.size ≤ b ∧ b < w'.heap.size)⟩
  have hV : G.V.Le V2 := ⟨fun b o ho => by
    have := heap_lt (s.view b o ho)
    simp only [V2, if_pos this, ho], fun b hb => .inl hb⟩
  have hG : GLe G.g.length G ⟨V2, G.g⟩ := ⟨hV, fun i v n _ e => ⟨v, n, e, Nat.le_refl _, fun _ => rfl, fun _ => ⟨rfl, rfl⟩⟩⟩
  have s1 := s.later hb
  have hsat : SatH cx ⟨V2, G.g⟩ h w' := by
    refine ⟨s1.len, fun i b e hi he => ?_, s1.sep, fun b o ho => ?_, fun b hb' => ?_, s1.below, s1.ext.trans (hG.all _), fun q hq => (s1.glob q hq).grow hG, s1.sz⟩
    · refine Lr.mono' hG ?_ (s1.ent i b e hi he)
      intro k hlv hk
      have := (s.ent i b e hi he).blk hlv hk
      simp only [V2, if_pos this.2.1]
      exact this.2.2
    · simp only [V2] at ho
      split at ho
      · exact s1.view b o ho
      · exact ho
    · rcases hb' with hb' | hb'
      · obtain ⟨⟨o, h1⟩, h2⟩ := s1.imm b hb'
        exact ⟨⟨o, hV.H b o h1⟩, h2⟩
      · have hnl : ¬ b < w.heap.size := by omega
        refine ⟨⟨w'.heap[b]'hb'.2, ?_⟩, .inr (Nat.le_trans s.below.size hb'.1)⟩
        simp only [V2, if_neg hnl]
        exact Array.getElem?_eq_getElem hb'.2
  have hdr : ∀ {x : D} {v : Value}, Dr V' x v → Dr V2 x v := fun hd => hd.move (fun b hb' => by
      obtain ⟨⟨o, h1⟩, h2⟩ := himm b hb'
      exact h2.imp id fun h => ⟨h, heap_lt (hview b o h1)⟩) (fun b o hb' ho => by
      simp only [V2]
      split
      · next hlt =>
        rcases (himm b hb').2 with h2 | h2
        · obtain ⟨⟨o', h1⟩, _⟩ := s.imm b h2
          have e1 := s.view b o' h1
          have e2 := hview b o ho
          rw [hb.block b hlt, e1] at e2
          rw [h1]; exact e2
        · omega
      · exact hview b o ho)
  refine ⟨⟨V2, G.g⟩, vs, rfl, hG, hsat, hrs.imp fun r v hr => ?_⟩
  cases r with
  | d x => exact hdr hr
  | agg ds =>
    obtain ⟨us, rfl, hus⟩ := hr
    exact ⟨us, rfl, All2.map_left (f := C.d) (R := Cr _) (hus.imp fun _ _ hd => hdr hd)⟩
  | fresh t sz els =>
    obtain ⟨xs, how, _, hd, hl⟩ := hr
    obtain ⟨A, cap, rfl, hc, hm⟩ := own_form how
    show Dr V2 _ _
    refine .lst sz els A cap (fun i j => xs.getD (i * sz + j) undef) hc hm hl (fun hn => ?_) (fun i e j c h1 h2 => ?_)
    · have hpos : 0 < els.length := List.length_pos_iff.2 hn
      obtain ⟨g, cap', hv', hbg, _, _, hcell⟩ := own_cells how hpos
      injection hv' with hA _ _
      subst hA
      have hglt : g < w'.heap.size := by
        obtain ⟨_, ⟨e, _⟩ | ⟨g', cap'', cur, e, _, hh, _⟩⟩ := how
        · cases e
        · cases e; exact heap_lt hh
      refine ⟨⟨g, 0, none⟩, rfl, .inr ⟨hbg, hglt⟩, fun i e j c h1 h2 => ?_⟩
      obtain ⟨u, hb1, hb2⟩ := hd.get _ _ (flat_get els hl i e j c h1 h2)
      have hq := hcell _ u hb1
      rw [add_plain, Nat.zero_add]
      have hnl : ¬ g < w.heap.size := by omega
      have : cellIn V2.H ⟨g, i * sz + j, none⟩ = cellIn (fun b => w'.heap[b]?) ⟨g, i * sz + j, none⟩ := by
        simp only [cellIn, V2, if_neg hnl]
      rw [this, cellIn_world, hq]
      simp [hb1]
    · obtain ⟨u, hb1, hb2⟩ := hd.get _ _ (flat_get els hl i e j c h1 h2)
      simpa [hb1] using hdr hb2

theorem rsAV_ok {G : Gh} {rs : List RV} {vs : List Value} (h : All2 (fun r v => Wr G (rvAV r) v) rs vs) : Ar G (rsAV rs) (tupV vs) := by
  have hm : ∀ {rs : List RV} {vs : List Value}, All2 (fun r v => Wr G (rvAV r) v) rs vs → All2 (Wr G) (rs.map rvAV) vs := fun h => h.map_left
  match rs, vs, h with
  | [], [], _ => exact ⟨[], rfl, .nil⟩
  | [r], [v], .cons h1 _ =>
    show Ar G (rvAV r) v
    cases r <;> exact h1
  | r :: r' :: rs, v :: v' :: vs, h => exact ⟨v :: v' :: vs, rfl, hm h⟩

theorem viewOk_of {cx : Cx} {G : Gh} {h : List LB} {w : World} (s : SatH cx G h w) (hΓ : cx.pm.Γ = Γ) : ViewOk Γ ⟨fun b => w.heap[b]?, G.V.I⟩ w :=
  ⟨fun _ _ h => h, fun b hb => by obtain ⟨⟨o, h1⟩, _⟩ := s.imm b hb; exact ⟨o, s.view b o h1⟩, fun p hp => by
    obtain ⟨⟨ad, u, e, hc⟩, cc, tt, fr, hh, hz⟩ := s.glob p (hΓ ▸ hp)
    exact ⟨⟨ad, u, e, fun j c hj => ⟨cellIn_le (fun o => s.view _ o) (hc j c hj).1, (hc j c hj).2.mono s.le⟩⟩, cc, tt, fr, s.view _ _ hh, hz⟩⟩

variable {pm : Pm} {ops : Array Oper} {rest : List Oper} {st : St} {K : St → Prop} {dst : Option Tmp} {ty : TypeId} {p : String} {af : Array Edge} {gd : Option (Nat × Bool)} {h : List LB} {ρ : Operand → AV}

theorem args_ok {cx : Cx} {G : Gh} {w : World} {a : Act} (s : SatH cx G h w) (hp : cx.pm = pm) : ∀ (as : List Operand) (args' : List AV), All2 (ArgOk pm h) (as.map ρ) args' → (∀ x ∈ as, Ar G (ρ x) (a.eval x)) → All2 (Ar ⟨⟨fun b => w.heap[b]?, G.V.I⟩, []⟩) args' (as.map a.eval)
  | [], args', hh, _ => by cases hh; exact .nil
  | x :: as, args', hh, hx => by
    cases hh with
    | cons h1 h2 => exact .cons (h1 cx G w _ hp s (hx x (by simp))) (args_ok s hp as _ h2 fun y hy => hx y (by simp [hy]))

/-- A call by its contract; what it hands over is taken as still. -/
theorem q_call {f : FuncId} {as : List Operand} {ts : Array TypeId} {args' : List AV} {rs : List RV} (hc : AFn P pm.Γ f args' rs) (ha : All2 (ArgOk pm h) (as.map ρ) args') :
    Qt P pm h ⟨dst, .call { callee := .value (.func f), args := as.toArray, argTypes := ts }, ty, p, af, gd⟩ ρ (rsAV rs) := by
  intro cx G w a hp s ho next Q hn
  have hargs := args_ok (a := a) s hp as args' ha fun x hx => ho x (by simp [Op.operands, Call.operands, hx])
  have hr : (execOp a.eval ⟨dst, .call { callee := .value (.func f), args := as.toArray, argTypes := ts }, ty, p, af, gd⟩).run P w = .ok (.enter f (as.map a.eval).toArray) w := by
    simp [execOp, resolve, Deferred.ofValue, Act.eval, invoke, run_callFunc hc.call]
  unfold Oper.wp
  rw [hr]
  refine (hc.run _ w _ (viewOk_of s (by rw [hp])) hargs).mono fun e w' hafter => ?_
  obtain ⟨G', vs, rfl, hG, s', hrs⟩ := after_all s hafter
  exact hn _ _ G' hG s' (rsAV_ok hrs)

/-- A call through a function value that came in. -/
theorem q_callfn {t : Operand} {as : List Operand} {ts : Array TypeId} {args' : List AV} {rs : List RV} {F : List AV → List RV → Prop} (ht : ρ t = .c (.fn (FnSpec P pm.Γ F))) (hF : F args' rs) (ha : All2 (ArgOk pm h) (as.map ρ) args') :
    Qt P pm h ⟨dst, .call { callee := .value t, args := as.toArray, argTypes := ts }, ty, p, af, gd⟩ ρ (rsAV rs) := by
  intro cx G w a hp s ho next Q hn
  have hargs := args_ok (a := a) s hp as args' ha fun x hx => ho x (by simp [Op.operands, Call.operands, hx])
  have hv := ho t (by simp [Op.operands, Call.operands])
  rw [ht] at hv
  obtain ⟨f, caps, e, hcall, hsp⟩ := hv.2 _ s.le
  have hr : (execOp a.eval ⟨dst, .call { callee := .value t, args := as.toArray, argTypes := ts }, ty, p, af, gd⟩).run P w = .ok (.enter f ((as.map a.eval).toArray ++ caps)) w := by
    simp [execOp, resolve, Deferred.ofValue, e, invoke, run_callFunc hcall]
  unfold Oper.wp
  rw [hr]
  refine (hsp args' rs hF _ w _ (Vw.Le.refl _) (viewOk_of s (by rw [hp])) hargs).mono fun e w' hafter => ?_
  obtain ⟨G', vs, rfl, hG, s', hrs⟩ := after_all s hafter
  exact hn _ _ G' hG s' (rsAV_ok hrs)

/-- A call whose one result is a row that is handed over: the caller's own from now on. -/
theorem AXl.call_own {f : FuncId} {x : Operand} {as : List Operand} {ts : Array TypeId} {args' : List AV} {te : TypeId} {sz : Nat} {els : List (List D)} (hx : ev pm.Γ st.env x = .c (.clo f [])) (hc : AFn P pm.Γ f args' [.fresh te sz els]) (ha : All2 (ArgOk pm st.heap) (as.map (ev pm.Γ st.env)) args') (hd : dstOk pm.N dst)
    (hk : AXl P pm ops rest (St.put ⟨st.env, st.heap ++ [.row te sz els 0]⟩ dst (.c (.own st.heap.length 0))) K) :
    AXl P pm ops (⟨dst, .call { callee := .value x, args := as.toArray, argTypes := ts }, ty, p, af, none⟩ :: rest) st K := by
  intro cx G a w Q hp s hQ
  refine wpList_plain rfl fun K' hK' => ?_
  have hargs := args_ok (a := a) s.h hp as args' ha fun x _ => hp ▸ s.ev x
  have hxv : Ar G (.c (.clo f [])) (a.eval x) := by rw [← hx, ← hp]; exact s.ev x
  obtain ⟨bs, hxe, hbs⟩ := hxv
  cases hbs
  have hr : (execOp a.eval ⟨dst, .call { callee := .value x, args := as.toArray, argTypes := ts }, ty, p, af, none⟩).run P w = .ok (.enter f (as.map a.eval).toArray) w := by
    simp [execOp, resolve, Deferred.ofValue, hxe, invoke, run_callFunc hc.call]
  unfold Oper.wp
  rw [hr]
  refine (hc.run _ w _ (viewOk_of s.h (by rw [hp])) hargs).mono fun e w' hafter => ?_
  obtain ⟨V', vs, rfl, hle, hview, himm, hrs, hb⟩ := hafter
  cases hrs with
  | @cons _ v _ vs hrow ht =>
  cases ht
  obtain ⟨xs, how, hob, hd2, hl⟩ := hrow
  have s0 := s.h
  let V2 : Vw := ⟨fun b => if b < w.heap.size then G.V.H b else V'.H b, fun b => G.V.I b ∨ (w.heap.size ≤ b ∧ V'.I b)⟩
  have hV : G.V.Le V2 := ⟨fun b o ho => by
    have := heap_lt (s0.view b o ho)
    simp only [V2, if_pos this, ho], fun b hb => .inl hb⟩
  have hG : GLe G.g.length G ⟨V2, G.g⟩ := ⟨hV, fun i v n _ e => ⟨v, n, e, Nat.le_refl _, fun _ => rfl, fun _ => ⟨rfl, rfl⟩⟩⟩
  have s1 := s0.later hb
  have hsat : SatH cx ⟨V2, G.g⟩ st.heap w' := by
    refine ⟨s1.len, fun i b e hi he => ?_, s1.sep, fun b o ho => ?_, fun b hb' => ?_, s1.below, s1.ext.trans (hG.all _), fun q hq => (s1.glob q hq).grow hG, s1.sz⟩
    · refine Lr.mono' hG ?_ (s1.ent i b e hi he)
      intro k hlv hk
      have := (s0.ent i b e hi he).blk hlv hk
      simp only [V2, if_pos this.2.1]
      exact this.2.2
    · simp only [V2] at ho
      split at ho
      · exact s1.view b o ho
      · exact hview b o ho
    · rcases hb' with hb' | hb'
      · obtain ⟨⟨o, h1⟩, h2⟩ := s1.imm b hb'
        exact ⟨⟨o, hV.H b o h1⟩, h2⟩
      · have hnl : ¬ b < w.heap.size := by omega
        obtain ⟨⟨o, h1⟩, _⟩ := himm b hb'.2
        refine ⟨⟨o, ?_⟩, .inr (Nat.le_trans s0.below.size hb'.1)⟩
        simp only [V2, if_neg hnl]
        exact h1
  have hdr : ∀ {x : D} {v : Value}, Dr V' x v → Dr V2 x v := fun hd => hd.move (fun b hb' => by
      obtain ⟨⟨o, h1⟩, h2⟩ := himm b hb'
      rcases h2 with h2 | h2
      · exact .inl h2
      · exact .inr ⟨h2, hb'⟩) (fun b o hb' ho => by
      simp only [V2]
      split
      · next hlt =>
        rcases (himm b hb').2 with h2 | h2
        · obtain ⟨⟨o', h1⟩, _⟩ := s0.imm b h2
          have e1 := s0.view b o' h1
          have e2 := hview b o ho
          rw [hb.block b hlt, e1] at e2
          rw [h1]; exact e2
        · omega
      · exact ho)
  have hf := row_form how
  have how' : w'.ownsRow cx.w0.heap.size te sz v els.length xs := by
    obtain ⟨hxl, h1 | ⟨g, cap, cur, e, hg, r⟩⟩ := how
    · exact ⟨hxl, .inl h1⟩
    · exact ⟨hxl, .inr ⟨g, cap, cur, e, Nat.le_trans s0.below.size hg, r⟩⟩
  have hbase : ∀ k, blkOf v = some k → w.heap.size ≤ k := fun k hk => by
    obtain ⟨hxl, ⟨e, _⟩ | ⟨g, cap, cur, e, hg, r⟩⟩ := how
    · rw [e] at hk; cases hk
    · rw [e] at hk; cases hk; exact hg
  have s2 := hsat.push v 0 (.row te sz els 0) ⟨rfl, xs, how', fun b hb' => by
      have hk := hf.2.2.1 b hb'
      have := hbase b hk
      have hnl : ¬ b < w.heap.size := by omega
      simp only [V2, if_neg hnl]
      exact hob b hb', hd2.imp fun _ _ hdd => hdr hdd, hl⟩ (fun k hk i b e hi hlv he hk' => by
      have h1 := ((s0.ent i b e hi he).blk hlv hk').2.1
      have h2 := hbase k hk
      omega)
  refine hK' _ _ (hk cx ⟨V2, G.g ++ [(v, 0)]⟩ _ w' Q hp ?_ hQ)
  have s3 := s.step hG hsat
  exact s3.pushed s2 (α := .c (.own st.heap.length 0)) ⟨hf.2.2.2, v, 0, get_last _ _ s0.len.symm, Nat.le_refl _, fun _ => rfl⟩ (hp ▸ hd)

/-! ### a call walked in place -/
def AV.flat : AV → Bool
  | .tup _ => false
  | _ => true
theorem AV.flat_wr {G : Gh} {α : AV} {v : Value} (h : α.flat = true) (hr : Ar G α v) : Wr G α v := by
  cases α <;> first | exact hr | (cases h)

/-- What a walk in place leaves: the result's reading. -/
def inRes (P : Program) (st : St) : List ResultVar → Option AV
  | [r] => resAV P st r
  | rs => match resAVs P st rs with
    | some αs => if αs.all AV.flat = true ∧ αs.length ≠ 1 then some (.tup αs) else none
    | none => none

theorem AXl.inline {f : FuncId} {fn : Func} {c : Code} {x : Operand} {as : List Operand} {ts : Array TypeId} {caps : List Nat} (hf : P.funcs[f]? = some fn) (hname : (fn.name == "runtime.NumGoroutine") = false) (hb : fn.body = some c) (hx : ev pm.Γ st.env x = .c (.clo f caps))
    (hN : as.length + caps.length ≤ fn.ntmps) (hd : dstOk pm.N dst)
    (hk : AXc P ⟨st.heap.length, fn.ntmps, pm.Γ⟩ c ⟨envOf (as.map (ev pm.Γ st.env) ++ caps.map fun i => .c (.loc i 0)) 0, st.heap⟩ (fun e st' => (e = .ret ∨ e = .normal) ∧ ∃ α, inRes P st' fn.results.toList = some α ∧ AXl P pm ops rest (St.put ⟨st.env, st'.heap⟩ dst α) K)) :
    AXl P pm ops (⟨dst, .call { callee := .value x, args := as.toArray, argTypes := ts }, ty, p, af, none⟩ :: rest) st K := by
  intro cx G a w Q hp s hQ
  subst hp
  refine wpList_plain rfl fun K' hK' => ?_
  have hcall : CallOk P f := ⟨fn, hf, hname, by rw [hb]; rfl⟩
  obtain ⟨bs, hv, hbs⟩ := (hx ▸ s.ev x : Ar G (.c (.clo f caps)) (a.eval x))
  let vals : List Value := as.map a.eval ++ bs.map fun b => Value.pointer (some ⟨b, 0, none⟩)
  have hr : (execOp a.eval ⟨dst, .call { callee := .value x, args := as.toArray, argTypes := ts }, ty, p, af, none⟩).run P w = .ok (.enter f vals.toArray) w := by
    simp [execOp, resolve, Deferred.ofValue, hv, invoke, run_callFunc hcall, vals]
  unfold Oper.wp
  rw [hr]
  refine calls_of_wp hf hb ?_
  have hargs : All2 (Ar G) (as.map (ev cx.pm.Γ st.env) ++ caps.map fun i => .c (.loc i 0)) vals := by
    refine All2.append ?_ ?_
    · clear hk hN hr
      induction as with
      | nil => exact .nil
      | cons y as ih => exact .cons (s.ev y) ih
    · clear hk hN hr hv vals hx
      induction hbs with
      | nil => exact .nil
      | cons h1 h2 ih => obtain ⟨n, hg⟩ := h1; exact .cons ⟨_, n, hg, rfl⟩ ih
  have hl := hargs.length
  let cx' : Cx := ⟨⟨st.heap.length, fn.ntmps, cx.pm.Γ⟩, cx.w0, cx.S, G, [], cx.s0⟩
  have sat : Sat cx' G ⟨envOf (as.map (ev cx.pm.Γ st.env) ++ caps.map fun i => .c (.loc i 0)) 0, st.heap⟩ { tmps := vals.toArray ++ Array.replicate (fn.ntmps - vals.toArray.size) undef, defers := [] } w := by
    refine ⟨⟨s.h.len, s.h.ent, s.h.sep, s.h.view, s.h.imm, s.h.below, .refl _ _, s.h.glob, s.h.sz⟩, envOf_ok hargs _, ?_, rfl⟩
    · have : vals.length ≤ fn.ntmps := by rw [← hl]; simpa using hN
      simp [cx']; omega
  refine wp_mono (hk cx' G _ w rfl sat).1 ?_
  rintro e a' w' ⟨G', st', s', he, α, h1, h2⟩
  have hG : GLe G.g.length G G' := by rw [s.h.len]; exact s'.h.ext
  have hres : ∃ v, (results fn a'.tmps).run P w' = .ok v w' ∧ Ar G' α v := by
    unfold inRes at h1
    split at h1
    · next r hrr =>
      have : resAVs P st' fn.results.toList = some [α] := by rw [hrr]; simp [resAVs, h1]
      obtain ⟨vs, q1, q2⟩ := run_results s' this
      cases q2 with
      | cons h1 h2 => cases h2; exact ⟨_, q1, h1⟩
    · split at h1
      · next αs hrr =>
        split at h1
        · next hfl =>
          cases h1
          obtain ⟨vs, q1, q2⟩ := run_results s' hrr
          refine ⟨_, q1, ?_⟩
          have hlen := q2.length
          have hw : All2 (Wr G') αs vs := q2.imp' fun α v hm hr => AV.flat_wr (List.all_eq_true.1 hfl.1 α hm) hr
          refine ⟨vs, ?_, hw⟩
          match vs, hlen with
          | [], _ => rfl
          | [u], hlen => exact absurd hlen hfl.2
          | u :: u' :: r, _ => rfl
        · cases h1
      · cases h1
  obtain ⟨v, hrun, hα⟩ := hres
  have hsat' : SatH cx G' st'.heap w' := ⟨s'.h.len, s'.h.ent, s'.h.sep, s'.h.view, s'.h.imm, s'.h.below, s.h.ext.trans (hG.all _), s'.h.glob, s'.h.sz⟩
  have fin := hK' _ _ (h2 cx G' _ w' Q rfl ((s.step hG hsat').put hα hd) hQ)
  rcases he with rfl | rfl
  · exact ⟨s'.defers, v, hrun, fin⟩
  · exact ⟨s'.defers, v, hrun, fin⟩
end Go.Ax

/-
  Guarded operations; a region that draws its order: walked once, in the order of the text. No condition.
-/
namespace Go.Ax
open Go Go.RowKit

variable {P : Program} {pm : Pm} {ops : Array Oper} {rest : List Oper} {st : St} {K : St → Prop} {h : List LB}

/-- Is the operation wanted, as far as the state tells? -/
def wantedA (ops : Array Oper) (o : Oper) (ρ : Env) : Option Bool :=
  match o.guard with
  | none => some true
  | some (j, want) => match (ops[j]?).bind (·.dst) with
    | some d => match lk d ρ with
      | .c (.d (.bool b)) => some (b == want)
      | .tup [] => some false
      | _ => none
    | none => none

/-- A slot of an operation that was left out. -/
abbrev U : AV := .tup []
theorem U_ok {G : Gh} : Ar G U undef := ⟨[], rfl, .nil⟩
theorem ar_undef {G : Gh} {v : Value} (h : Ar G (.tup []) v) : v = undef := by
  obtain ⟨us, rfl, hu⟩ := h
  cases hu; rfl
theorem wanted_of {G : Gh} {o : Oper} {ρ : Env} {a : Act} {b : Bool} (hw : wantedA ops o ρ = some b) (hd : ∀ j want d, o.guard = some (j, want) → (ops[j]?).bind (·.dst) = some d → d < a.tmps.size ∧ Ar G (lk d ρ) (a.tmps.getD d undef)) :
    Region.wanted o (yielded ops a.tmps) = b := by
  unfold wantedA at hw
  unfold Region.wanted
  split at hw
  · next e => cases hw; simp [e]
  · next j want e =>
    split at hw
    · next d hdd =>
      split at hw
      · next c hlk =>
        cases hw
        obtain ⟨h1, h2⟩ := hd j want d e hdd
        rw [hlk] at h2
        have hv := ar_bool h2
        have : a.tmps[d]? = some (.bool c) := by
          rw [Array.getElem?_eq_getElem h1]
          rw [← hv]
          simp [Array.getD, h1]
        simp only [e, yielded, hdd, Option.bind_some, this]
        rw [Bool.eq_iff_iff]
        simp
      · next hlk =>
        cases hw
        obtain ⟨h1, h2⟩ := hd j want d e hdd
        rw [hlk] at h2
        have hv := ar_undef h2
        have : a.tmps[d]? = some undef := by
          rw [Array.getElem?_eq_getElem h1]
          rw [← hv]
          simp [Array.getD, h1]
        simp [e, yielded, hdd, this, undef]
      · cases hw
    · cases hw

theorem Sat.guard {cx : Cx} {G : Gh} {a : Act} {w : World} (s : Sat cx G st a w) {o : Oper} {b : Bool} (hw : wantedA ops o st.env = some b) (hN : ∀ j want d, o.guard = some (j, want) → (ops[j]?).bind (·.dst) = some d → d < cx.pm.N) : Region.wanted o (yielded ops a.tmps) = b :=
  wanted_of hw fun j want d h1 h2 => ⟨by rw [s.N]; exact hN j want d h1 h2, s.ev (.tmp d)⟩

def gdOk (ops : Array Oper) (N : Nat) (o : Oper) : Bool :=
  match o.guard with
  | none => true
  | some (j, _) => match (ops[j]?).bind (·.dst) with
    | some d => decide (d < N)
    | none => true
theorem gdOk_spec {N : Nat} {o : Oper} (h : gdOk ops N o = true) : ∀ j want d, o.guard = some (j, want) → (ops[j]?).bind (·.dst) = some d → d < N := by
  intro j want d h1 h2
  unfold gdOk at h
  rw [h1] at h
  simp only [h2] at h
  exact of_decide_eq_true h

theorem AXl.qt_guard {o : Oper} {r : AV} (hd : dstOk pm.N o.dst) (hw : wantedA ops o st.env = some true) (hg : gdOk ops pm.N o = true) (hq : Qt P pm st.heap o (ev pm.Γ st.env) r) (hk : AXl P pm ops rest (st.put o.dst r) K) : AXl P pm ops (o :: rest) st K := by
  intro cx G a w Q hp s hQ
  refine wpList_step fun K' hK' => ?_
  rw [if_pos (s.guard hw (hp ▸ gdOk_spec hg))]
  refine hq cx G w a hp s.h (fun x _ => hp ▸ s.ev x) _ _ fun v w' G' hG sh hv => hK' _ _ ?_
  exact hk cx G' _ w' Q hp ((s.step hG sh).put hv (hp ▸ hd)) hQ

theorem AXl.skip_guard {o : Oper} (hd : dstOk pm.N o.dst) (hw : wantedA ops o st.env = some false) (hg : gdOk ops pm.N o = true) (hk : AXl P pm ops rest (st.put o.dst U) K) : AXl P pm ops (o :: rest) st K := by
  intro cx G a w Q hp s hQ
  refine wpList_step fun K' hK' => ?_
  rw [if_neg (by rw [s.guard hw (hp ▸ gdOk_spec hg)]; simp)]
  refine hK' _ _ ?_
  exact hk cx G _ w Q hp (s.put U_ok (hp ▸ hd)) hQ

/-- A test's slot, its value parted: in each part the slot holds the value written out. -/
theorem AXl.split (d : Nat) (b : Bool) (hb : lk d st.env = .c (.d (.bool b))) (ht : b = true → AXl P pm ops rest ⟨pute d (.c (.d (.bool true))) st.env, st.heap⟩ K) (hf : b = false → AXl P pm ops rest ⟨pute d (.c (.d (.bool false))) st.env, st.heap⟩ K) : AXl P pm ops rest st K := by
  intro cx G a w Q hp s hQ
  have key : ∀ c : Bool, b = c → Sat cx G ⟨pute d (.c (.d (.bool c))) st.env, st.heap⟩ a w := by
    intro c hc
    subst hc
    refine ⟨s.h, fun t => ?_, s.N, s.defers⟩
    rw [lk_put]
    split
    · next e => subst e; rw [← hb]; exact s.ev (.tmp d)
    · exact s.env t
  cases b with
  | true => exact ht rfl cx G a w Q hp (key true rfl) hQ
  | false => exact hf rfl cx G a w Q hp (key false rfl) hQ

/-! ### a region that draws its order -/
def putE (dst : Option Nat) (α : AV) (ρ : Env) : Env :=
  match dst with
  | none => ρ
  | some t => pute t (α) ρ

inductive Run (P : Program) (pm : Pm) (h : List LB) (ops : Array Oper) : List Oper → Env → Env → Prop where
  | nil (ρ : Env) : Run P pm h ops [] ρ ρ
  | op (o : Oper) (rest : List Oper) (ρ ρ' : Env) (r : AV) (hw : wantedA ops o ρ = some true) (hq : Qt P pm h o (ev pm.Γ ρ) r) (hr : Run P pm h ops rest (putE o.dst r ρ) ρ') : Run P pm h ops (o :: rest) ρ ρ'
  | skip (o : Oper) (rest : List Oper) (ρ ρ' : Env) (hw : wantedA ops o ρ = some false) (hr : Run P pm h ops rest (putE o.dst U ρ) ρ') : Run P pm h ops (o :: rest) ρ ρ'
  | same (rest : List Oper) (ρ ρ₁ ρ' : Env) (hs : ∀ t, lk t ρ₁ = lk t ρ) (hr : Run P pm h ops rest ρ₁ ρ') : Run P pm h ops rest ρ ρ'

def AXd (P : Program) (pm : Pm) (h : List LB) (ops : Array Oper) (pre : List Oper) (ρ : Env) (Kd : Env → Prop) : Prop := ∃ ρ', Run P pm h ops pre ρ ρ' ∧ Kd ρ'

theorem AXd.nil {ρ : Env} {Kd : Env → Prop} (hk : Kd ρ) : AXd P pm h ops [] ρ Kd := ⟨ρ, .nil ρ, hk⟩
theorem AXd.op {o : Oper} {ρ : Env} {Kd : Env → Prop} {r : AV} (hw : wantedA ops o ρ = some true) (hq : Qt P pm h o (ev pm.Γ ρ) r) (hk : AXd P pm h ops rest (putE o.dst r ρ) Kd) : AXd P pm h ops (o :: rest) ρ Kd := by
  obtain ⟨ρ', h1, h2⟩ := hk
  exact ⟨ρ', .op o rest ρ ρ' r hw hq h1, h2⟩
theorem AXd.skip {o : Oper} {ρ : Env} {Kd : Env → Prop} (hw : wantedA ops o ρ = some false) (hk : AXd P pm h ops rest (putE o.dst U ρ) Kd) : AXd P pm h ops (o :: rest) ρ Kd := by
  obtain ⟨ρ', h1, h2⟩ := hk
  exact ⟨ρ', .skip o rest ρ ρ' hw h1, h2⟩
theorem AXd.split {ρ : Env} {Kd : Env → Prop} (d : Nat) (b : Bool) (hb : lk d ρ = .c (.d (.bool b))) (ht : b = true → AXd P pm h ops rest (pute d (.c (.d (.bool true))) ρ) Kd) (hf : b = false → AXd P pm h ops rest (pute d (.c (.d (.bool false))) ρ) Kd) : AXd P pm h ops rest ρ Kd := by
  have key : ∀ c : Bool, b = c → AXd P pm h ops rest (pute d (.c (.d (.bool c))) ρ) Kd → AXd P pm h ops rest ρ Kd := by
    rintro c rfl ⟨ρ', h1, h2⟩
    refine ⟨ρ', .same _ ρ _ ρ' (fun t => ?_) h1, h2⟩
    rw [lk_put]
    split
    · next e => rw [← e, hb]
    · rfl
  cases b with
  | true => exact key true rfl (ht rfl)
  | false => exact key false rfl (hf rfl)

/-- Slots that a list of operations writes. -/
def dsts (l : List Oper) : List Nat := l.filterMap (·.dst)

theorem lk_putE {t : Nat} {dst : Option Nat} {α : AV} {ρ : Env} (h : dst ≠ some t) : lk t (putE dst α ρ) = lk t ρ := by
  cases dst with
  | none => rfl
  | some k => simp only [putE]; rw [lk_put, if_neg (fun e => h (by rw [e]))]

theorem Run.out {l : List Oper} {ρ ρ' : Env} (hr : Run P pm h ops l ρ ρ') : ∀ t, t ∉ dsts l → lk t ρ' = lk t ρ := by
  induction hr with
  | nil ρ => intro t _; rfl
  | op o rest ρ ρ' r hw hq hr ih =>
    intro t ht
    simp only [dsts, List.filterMap_cons] at ht
    cases e : o.dst with
    | none => rw [e] at ht; rw [ih t ht, e]; rfl
    | some k =>
      rw [e] at ht
      simp only [List.mem_cons, not_or] at ht
      rw [ih t ht.2, e, lk_putE (by simpa using fun e' => ht.1 e'.symm)]
  | skip o rest ρ ρ' hw hr ih =>
    intro t ht
    simp only [dsts, List.filterMap_cons] at ht
    cases e : o.dst with
    | none => rw [e] at ht; rw [ih t ht, e]; rfl
    | some k =>
      rw [e] at ht
      simp only [List.mem_cons, not_or] at ht
      rw [ih t ht.2, e, lk_putE (by simpa using fun e' => ht.1 e'.symm)]
  | same rest ρ ρ₁ ρ' hs hr ih => intro t ht; rw [ih t ht, hs]

/-- What the walk says of operation number i. -/
theorem Run.at {l : List Oper} {ρ ρ' : Env} (hr : Run P pm h ops l ρ ρ') (hnd : (dsts l).Nodup) : ∀ (i : Nat) (o : Oper), l[i]? = some o →
    ∃ ρi, (∀ t, t ∉ dsts (l.take i) → lk t ρi = lk t ρ) ∧ (∀ t, t ∉ dsts (l.drop i) → lk t ρ' = lk t ρi) ∧
      ((wantedA ops o ρi = some true ∧ ∃ r, Qt P pm h o (ev pm.Γ ρi) r ∧ ∀ d, o.dst = some d → lk d ρ' = r) ∨ (wantedA ops o ρi = some false ∧ ∀ d, o.dst = some d → lk d ρ' = U)) := by
  induction hr with
  | nil ρ => intro i o hi; simp at hi
  | op o rest ρ ρ' r hw hq hr ih =>
    intro i o' hi
    have hnd' : (dsts rest).Nodup := by
      simp only [dsts, List.filterMap_cons] at hnd
      split at hnd
      · exact hnd
      · exact (List.nodup_cons.1 hnd).2
    cases i with
    | zero =>
      simp at hi
      subst hi
      refine ⟨ρ, fun t _ => rfl, fun t ht => (Run.op o rest ρ ρ' r hw hq hr).out t (by simpa using ht), .inl ⟨hw, r, hq, fun d hd => ?_⟩⟩
      have : d ∉ dsts rest := by
        simp only [dsts, List.filterMap_cons, hd] at hnd
        exact (List.nodup_cons.1 hnd).1
      rw [hr.out d this, hd]
      simp [putE, lk_put]
    | succ i =>
      obtain ⟨ρi, h1, h2, h3⟩ := ih hnd' i o' (by simpa using hi)
      refine ⟨ρi, fun t ht => ?_, fun t ht => h2 t (by simpa using ht), h3⟩
      simp only [List.take_succ_cons, dsts, List.filterMap_cons] at ht
      cases e : o.dst with
      | none => rw [e] at ht; rw [h1 t ht, e]; rfl
      | some k =>
        rw [e] at ht
        simp only [List.mem_cons, not_or] at ht
        rw [h1 t ht.2, e, lk_putE (by simpa using fun e' => ht.1 e'.symm)]
  | skip o rest ρ ρ' hw hr ih =>
    intro i o' hi
    have hnd' : (dsts rest).Nodup := by
      simp only [dsts, List.filterMap_cons] at hnd
      split at hnd
      · exact hnd
      · exact (List.nodup_cons.1 hnd).2
    cases i with
    | zero =>
      simp at hi
      subst hi
      refine ⟨ρ, fun t _ => rfl, fun t ht => (Run.skip o rest ρ ρ' hw hr).out t (by simpa using ht), .inr ⟨hw, fun d hd => ?_⟩⟩
      have : d ∉ dsts rest := by
        simp only [dsts, List.filterMap_cons, hd] at hnd
        exact (List.nodup_cons.1 hnd).1
      rw [hr.out d this, hd]
      simp [putE, lk_put]
    | succ i =>
      obtain ⟨ρi, h1, h2, h3⟩ := ih hnd' i o' (by simpa using hi)
      refine ⟨ρi, fun t ht => ?_, fun t ht => h2 t (by simpa using ht), h3⟩
      simp only [List.take_succ_cons, dsts, List.filterMap_cons] at ht
      cases e : o.dst with
      | none => rw [e] at ht; rw [h1 t ht, e]; rfl
      | some k =>
        rw [e] at ht
        simp only [List.mem_cons, not_or] at ht
        rw [h1 t ht.2, e, lk_putE (by simpa using fun e' => ht.1 e'.symm)]
  | same rest ρ ρ₁ ρ' hs hr ih =>
    intro i o hi
    obtain ⟨ρi, h1, h2, h3⟩ := ih hnd i o hi
    exact ⟨ρi, fun t ht => by rw [h1 t ht, hs], h2, h3⟩
end Go.Ax

/-
  A region that draws its order, walked once in the order of the text: whatever order is drawn, the readings at the end are those. No condition.
-/
namespace Go.Ax
open Go Go.RowKit

variable {P : Program} {pm : Pm} {st : St} {h : List LB}

def tmpsOf (o : Oper) : List Nat := o.op.operands.toList.filterMap fun | .tmp t => some t | _ => none
def gtmp (l : List Oper) (o : Oper) : List Nat :=
  match o.guard with
  | some (j, _) => match (l[j]?).bind (·.dst) with
    | some d => [d]
    | none => []
  | none => []
def edges (o : Oper) : List Nat := (o.after.toList.filter (Region.binds .any)).map (·.on)
def uni (a b : List Nat) : List Nat := a.foldr (fun x l => if l.contains x then l else x :: l) b
theorem mem_uni {x : Nat} : ∀ (a b : List Nat), x ∈ uni a b ↔ x ∈ a ∨ x ∈ b
  | [], b => by simp [uni]
  | y :: a, b => by
    have ih := mem_uni (x := x) a b
    simp only [uni, List.foldr_cons] at ih ⊢
    split
    · next hc =>
      rw [ih]
      have : y ∈ a ∨ y ∈ b := (mem_uni (x := y) a b).1 (by simpa [uni] using hc)
      constructor
      · rintro (h | h) <;> simp [h]
      · rintro (h | h)
        · rcases List.mem_cons.1 h with rfl | h
          · exact this
          · exact .inl h
        · exact .inr h
    · rw [List.mem_cons, ih]
      simp [or_assoc]
/-- For each operation those that must have come up before it. -/
def clos : List Oper → List (List Nat) → List (List Nat)
  | [], acc => acc
  | o :: r, acc => clos r (acc ++ [(edges o).foldr (fun e c => uni (e :: acc.getD e []) c) []])

def Down (l : List Oper) (D : Nat → Prop) : Prop := ∀ i o, l[i]? = some o → D i → ∀ e ∈ edges o, D e

theorem fold_mem {acc : List (List Nat)} {x : Nat} : ∀ (es : List Nat), x ∈ es.foldr (fun e c => uni (e :: acc.getD e []) c) [] → ∃ e ∈ es, x = e ∨ x ∈ acc.getD e []
  | [], h => by simp at h
  | e :: es, h => by
    simp only [List.foldr_cons] at h
    rcases (mem_uni _ _).1 h with h | h
    · rcases List.mem_cons.1 h with rfl | h
      · exact ⟨x, by simp, .inl rfl⟩
      · exact ⟨e, by simp, .inr h⟩
    · obtain ⟨e', h1, h2⟩ := fold_mem es h
      exact ⟨e', by simp [h1], h2⟩

theorem clos_ok (l : List Oper) (D : Nat → Prop) (hD : Down l D) : ∀ (r : List Oper) (acc : List (List Nat)) (k : Nat), l.drop k = r → acc.length = k →
    (∀ (i : Nat) (o : Oper) (c : List Nat), l[i]? = some o → acc[i]? = some c → (∀ e ∈ edges o, D e) → ∀ j ∈ c, D j) → ∀ (i : Nat) (o : Oper) (c : List Nat), l[i]? = some o → (clos r acc)[i]? = some c → (∀ e ∈ edges o, D e) → ∀ j ∈ c, D j
  | [], acc, k, _, _, hacc => hacc
  | o :: r, acc, k, hr, hk, hacc => by
    have hok : l[k]? = some o := by
      have := List.getElem?_drop (xs := l) (i := k) (j := 0)
      rw [hr] at this
      simpa using this.symm
    refine clos_ok l D hD r _ (k + 1) (by rw [← List.drop_drop, hr]; rfl) (by simp [hk]) fun i o' c hi hc he j hj => ?_
    rcases getElem?_push hc with hc | ⟨rfl, rfl⟩
    · exact hacc i o' c hi hc he j hj
    · rw [hk, hok] at hi
      cases hi
      obtain ⟨e, h1, h2⟩ := fold_mem _ hj
      rcases h2 with rfl | h2
      · exact he _ h1
      · cases hq : acc[e]? with
        | none => simp [List.getD, hq] at h2
        | some c =>
          simp [List.getD, hq] at h2
          have hlt := getElem?_lt hq
          have hll : k < l.length := getElem?_lt hok
          obtain ⟨oe, hoe⟩ : ∃ oe, l[e]? = some oe := ⟨_, List.getElem?_eq_getElem (by omega)⟩
          exact hacc e oe c hoe hq (hD e oe hoe (he e h1)) j h2

/-- What the walk in the order of the text leans on; to be decided of the region's text. -/
def drawOk (l : List Oper) (m N : Nat) : Bool :=
  let pre := l.take m
  let cl := clos l []
  decide (m ≤ l.length) && decide (dsts pre).Nodup && (l.all fun o => match o.dst with | some d => decide (d < N) | none => true) && (l.all fun o => (gtmp l o).all fun d => decide (d < N)) &&
  ((List.range l.length).all fun i => match l[i]? with
    | some o => (edges o).all fun e => decide (e < i)
    | none => true) &&
  ((List.range m).all fun i => match l[i]? with
    | some o => (tmpsOf o ++ gtmp l o).all fun t => (List.range m).all fun j => match l[j]? with
      | some oj => if oj.dst = some t then decide (j < i) && (edges o).contains j else true
      | none => true
    | none => true) &&
  ((List.range l.length).all fun i => decide (i < m) || ((List.range i).all fun j => (cl.getD i []).contains j))

structure DrawOk (l : List Oper) (m N : Nat) : Prop where
  le : m ≤ l.length
  nd : (dsts (l.take m)).Nodup
  dN : ∀ (i : Nat) (o : Oper) (d : Nat), l[i]? = some o → o.dst = some d → d < N
  gN : ∀ (i : Nat) (o : Oper) (d : Nat), l[i]? = some o → d ∈ gtmp l o → d < N
  ed : ∀ (i : Nat) (o : Oper) (e : Nat), l[i]? = some o → e ∈ edges o → e < i
  rd : ∀ (i : Nat) (o : Oper) (t j : Nat) (oj : Oper), i < m → l[i]? = some o → t ∈ tmpsOf o ++ gtmp l o → j < m → l[j]? = some oj → oj.dst = some t → j < i ∧ j ∈ edges o
  tl : ∀ (i j : Nat), i < l.length → m ≤ i → j < i → j ∈ (clos l []).getD i []

theorem drawOk_spec {l : List Oper} {m N : Nat} (hh : drawOk l m N = true) : DrawOk l m N := by
  unfold drawOk at hh
  simp only [Bool.and_eq_true, decide_eq_true_eq, List.all_eq_true, List.mem_range, Bool.or_eq_true] at hh
  obtain ⟨⟨⟨⟨⟨⟨h1, h2⟩, h3⟩, h4⟩, h5⟩, h6⟩, h7⟩ := hh
  refine ⟨h1, h2, fun i o d hi hd => ?_, fun i o d hi hd => ?_, fun i o e hi he => ?_, fun i o t j oj hi ho ht hj hoj hd => ?_, fun i j hi hm hj => ?_⟩
  · have := h3 o (List.mem_of_getElem? hi)
    rw [hd] at this
    exact of_decide_eq_true this
  · exact h4 o (List.mem_of_getElem? hi) d hd
  · have := h5 i (getElem?_lt hi)
    rw [hi] at this
    simp only [List.all_eq_true, decide_eq_true_eq] at this
    exact this e he
  · have := h6 i hi
    rw [ho] at this
    simp only [List.all_eq_true, List.mem_range] at this
    have := this t ht j hj
    rw [hoj] at this
    simp only [hd, if_true, Bool.and_eq_true, decide_eq_true_eq, List.contains_eq_mem] at this
    exact this
  · have := h7 i hi
    rcases this with h | h
    · omega
    · have := h j hj
      simpa using this

theorem edges_after {o : Oper} {e : Edge} (he : e ∈ o.after) (hb : Region.binds .any e = true) : e.on ∈ edges o := by
  unfold edges
  rw [List.mem_map]
  exact ⟨e, List.mem_filter.2 ⟨by simpa using he, hb⟩, rfl⟩
theorem edges_mem {o : Oper} {x : Nat} (h : x ∈ edges o) : ∃ e ∈ o.after, Region.binds .any e = true ∧ e.on = x := by
  unfold edges at h
  rw [List.mem_map] at h
  obtain ⟨e, h1, h2⟩ := h
  obtain ⟨h3, h4⟩ := List.mem_filter.1 h1
  exact ⟨e, by simpa using h3, h4, h2⟩

theorem tmp_mem {o : Oper} {t : Nat} (h : Operand.tmp t ∈ o.op.operands.toList) : t ∈ tmpsOf o := by
  unfold tmpsOf
  rw [List.mem_filterMap]
  exact ⟨_, h, rfl⟩

theorem mem_dsts {l : List Oper} {t : Nat} : t ∈ dsts l ↔ ∃ (i : Nat) (o : Oper), l[i]? = some o ∧ o.dst = some t := by
  unfold dsts
  rw [List.mem_filterMap]
  constructor
  · rintro ⟨o, h1, h2⟩
    obtain ⟨i, hi, e⟩ := List.mem_iff_getElem.1 h1
    exact ⟨i, o, by rw [List.getElem?_eq_getElem hi, e], h2⟩
  · rintro ⟨i, o, h1, h2⟩
    exact ⟨o, List.mem_of_getElem? h1, h2⟩

theorem dsts_split {l : List Oper} (hnd : (dsts l).Nodup) {i : Nat} {t : Nat} (h1 : t ∈ dsts (l.take i)) (h2 : t ∈ dsts (l.drop i)) : False := by
  have : dsts l = dsts (l.take i) ++ dsts (l.drop i) := by
    unfold dsts
    rw [← List.filterMap_append, List.take_append_drop]
  rw [this] at hnd
  exact (List.nodup_append.1 hnd).2.2 t h1 t h2 rfl

section
variable {l : List Oper} {m : Nat} {Q : Exit → Act → World → Prop}

/-- The tail comes up in the order of the text alone. -/
theorem tail_any (c : DrawOk l m pm.N) : ∀ (fuel i : Nat) (listed : Array Bool) (a : Act) (w : World), m ≤ i → i + fuel = l.length → listed.size = l.length → (∀ j, j < l.length → listed.getD j false = decide (j < i)) →
    wpList P l.toArray Q (l.drop i) a w → wpAny P .any l.toArray Q fuel listed a w
  | 0, i, listed, a, w, hm, hf, hs, hl, hw => by
    refine ⟨?_, ?_⟩
    · apply List.eq_nil_iff_forall_not_mem.2
      intro j hj
      obtain ⟨h1, o, h2, _⟩ := mem_ready.1 hj
      have hjl : j < l.length := by have := (Array.getElem?_eq_some_iff.1 h2).1; simpa using this
      have h3 := hl j hjl
      have : listed.getD j true = listed.getD j false := by simp [Array.getD, hs, hjl]
      rw [this, h3] at h1
      simp at h1
      omega
    · rw [List.drop_of_length_le (by omega)] at hw
      exact hw
  | fuel + 1, i, listed, a, w, hm, hf, hs, hl, hw => by
    have hil : i < l.length := by omega
    have hgd : ∀ j, j < l.length → ∀ d, listed.getD j d = decide (j < i) := fun j hj d => by
      have := hl j hj
      rw [← this]
      simp [Array.getD, hs, hj]
    have hdown : Down l (fun j => j < i) := fun j o hj hji e he => by have := c.ed j o e hj he; omega
    have hready : ∀ j ∈ Region.ready .any l.toArray listed, j = i := by
      intro j hj
      obtain ⟨h1, o, h2, h3⟩ := mem_ready.1 hj
      have hjl : j < l.length := by have := (Array.getElem?_eq_some_iff.1 h2).1; simpa using this
      rw [hgd j hjl] at h1
      simp only [decide_eq_false_iff_not, Nat.not_lt] at h1
      rcases Nat.lt_or_ge i j with h | h
      · exfalso
        have hcl := c.tl j i hjl (by omega) h
        have hlen : ∃ cc, (clos l [])[j]? = some cc := by
          cases e : (clos l [])[j]? with
          | none => simp [List.getD, e] at hcl
          | some cc => exact ⟨cc, rfl⟩
        obtain ⟨cc, hcc⟩ := hlen
        simp [List.getD, hcc] at hcl
        have := clos_ok l (fun j => j < i) hdown l [] 0 rfl rfl (by simp) j o cc (by simpa using h2) hcc (fun e he => by
          obtain ⟨ee, q1, q2, q3⟩ := edges_mem he
          have h4 := h3 ee q1 q2
          have hel : ee.on < l.length := by have := c.ed j o ee.on (by simpa using h2) (edges_after q1 q2); omega
          rw [hgd _ hel] at h4
          rw [← q3]
          exact of_decide_eq_true h4) i hcl
        omega
      · omega
    have hi : i ∈ Region.ready .any l.toArray listed := by
      obtain ⟨o, ho⟩ : ∃ o, l[i]? = some o := ⟨_, List.getElem?_eq_getElem hil⟩
      refine mem_ready.2 ⟨by rw [hgd i hil]; simp, o, by simpa using ho, fun e he hb => ?_⟩
      have := c.ed i o e.on ho (edges_after he hb)
      rw [hgd _ (by omega)]
      simpa using this
    refine ⟨fun e => (by rw [e] at hi; cases hi), fun j hj => ?_⟩
    have hji := hready j hj
    subst hji
    rw [List.drop_eq_getElem_cons hil] at hw
    have hoj : l.toArray[j]? = some l[j] := by simp [hil]
    unfold wpOp
    rw [hoj]
    simp only [wpList] at hw
    have hnext : ∀ a w, wpList P l.toArray Q (l.drop (j + 1)) a w → wpAny P .any l.toArray Q fuel (listed.setIfInBounds j true) a w := fun a' w' hw' =>
      tail_any c fuel (j + 1) _ a' w' (by omega) (by omega) (by simpa using hs) (fun k hk => by
        by_cases hkj : j = k
        · subst hkj
          simp [Array.getD, hs, hil]
        · rw [getD_set_ne false hkj, hl k hk]
          simp only [decide_eq_decide]
          omega) hw'
    by_cases hwd : Region.wanted l[j] (yielded l.toArray a.tmps) = true
    · rw [if_pos hwd] at hw
      simp only [hwd, if_true]
      exact hw.imp (Oper.wp_mono hnext) id
    · rw [if_neg hwd] at hw
      simp only [hwd]
      exact hnext _ _ hw

/-- Which slots hold their results already. -/
def Done (l : List Oper) (m : Nat) (listed : Array Bool) (t : Nat) : Prop := ∃ (i : Nat) (o : Oper), i < m ∧ l[i]? = some o ∧ o.dst = some t ∧ listed.getD i false = true

structure Pre (cx : Cx) (h : List LB) (l : List Oper) (m : Nat) (ρ ρ' : Env) (listed : Array Bool) (a : Act) (w : World) : Prop where
  sat : ∃ G, SatH cx G h w ∧ (∀ t, Done l m listed t → Ar G (lk t ρ') (a.tmps.getD t undef)) ∧ (∀ t, ¬ Done l m listed t → Ar G (lk t ρ) (a.tmps.getD t undef))
  N : a.tmps.size = cx.pm.N
  defers : a.defers = cx.df
  size : listed.size = l.length
  none : ∀ i, m ≤ i → i < l.length → listed.getD i false = false
  down : Down l (fun i => listed.getD i false = true)

theorem unl_pos {listed : Array Bool} {n : Nat} : ∀ {k : Nat}, k ≤ n → ((List.range k).countP fun i => !listed.getD i false) = 0 → ∀ i, i < k → listed.getD i false = true := by
  intro k _ hc i hi
  have := List.countP_eq_zero.1 hc i (List.mem_range.2 hi)
  simpa using this

theorem count_set {listed : Array Bool} {n i : Nat} (hs : listed.size = n) (hi : i < n) (hu : listed.getD i false = false) :
    ((List.range n).countP fun j => !(listed.setIfInBounds i true).getD j false) + 1 = (List.range n).countP fun j => !listed.getD j false := by
  have key : ∀ k, k ≤ n → ((List.range k).countP fun j => !(listed.setIfInBounds i true).getD j false) + (if i < k then 1 else 0) = (List.range k).countP fun j => !listed.getD j false := by
    intro k
    induction k with
    | zero => intro _; simp
    | succ k ih =>
      intro hk
      rw [List.range_succ, List.countP_append, List.countP_append]
      have ih := ih (by omega)
      by_cases hik : i = k
      · subst hik
        have e1 : (listed.setIfInBounds i true).getD i false = true := by simp [Array.getD, hs, hi]
        simp only [List.countP_singleton, e1, hu, Bool.not_true, Bool.not_false, if_true, Bool.false_eq_true, if_false] at ih ⊢
        rw [if_pos (show i < i + 1 by omega)]
        rw [if_neg (show ¬ i < i by omega)] at ih
        omega
      · have e1 : (listed.setIfInBounds i true).getD k false = listed.getD k false := getD_set_ne false hik
        simp only [List.countP_singleton, e1] at ih ⊢
        generalize (if (!listed.getD k false) = true then 1 else 0) = q
        by_cases h1 : i < k
        · rw [if_pos (show i < k + 1 by omega)]; rw [if_pos h1] at ih; omega
        · rw [if_neg (show ¬ i < k + 1 by omega)]; rw [if_neg h1] at ih; omega
  have := key n (Nat.le_refl n)
  rw [if_pos hi] at this
  exact this

theorem put_other {a : Act} {dst : Option Tmp} {v : Value} {t : Nat} (h : dst ≠ some t) : (a.put dst v).tmps.getD t undef = a.tmps.getD t undef := by
  cases dst with
  | none => rfl
  | some d =>
    have : d ≠ t := fun e => h (by rw [e])
    simp only [Act.put, Array.getD_eq_getD_getElem?, Array.getElem?_setIfInBounds]
    rw [if_neg this]

theorem pre_sat {cx : Cx} {ρ ρ' : Env} {listed : Array Bool} {a : Act} {w : World} (hrun : Run P pm h l.toArray (l.take m) ρ ρ') (hpre : Pre cx h l m ρ ρ' listed a w) {G : Gh} (s : SatH cx G h w)
    (h1 : ∀ t, Done l m listed t → Ar G (lk t ρ') (a.tmps.getD t undef)) (h2 : ∀ t, ¬ Done l m listed t → Ar G (lk t ρ) (a.tmps.getD t undef)) (hall : ∀ i, i < m → listed.getD i false = true) : Sat cx G ⟨ρ', h⟩ a w := by
  refine ⟨s, fun t => ?_, hpre.N, hpre.defers⟩
  by_cases hd : t ∈ dsts (l.take m)
  · obtain ⟨i, o, b1, b2⟩ := mem_dsts.1 hd
    rw [List.getElem?_take] at b1
    split at b1
    · next him => exact h1 t ⟨i, o, him, b1, b2, hall i him⟩
    · cases b1
  · rw [hrun.out t hd]
    refine h2 t fun ⟨i, o, a1, a2, a3, _⟩ => hd (mem_dsts.2 ⟨i, o, by rw [List.getElem?_take, if_pos a1]; exact a2, a3⟩)

theorem pre_any (c : DrawOk l m pm.N) {cx : Cx} (hp : cx.pm = pm) {ρ ρ' : Env} (hrun : Run P pm h l.toArray (l.take m) ρ ρ') (htail : ∀ G a w, Sat cx G ⟨ρ', h⟩ a w → wpList P l.toArray Q (l.drop m) a w) :
    ∀ (fuel : Nat) (listed : Array Bool) (a : Act) (w : World), ((List.range l.length).countP fun j => !listed.getD j false) = fuel → Pre cx h l m ρ ρ' listed a w → wpAny P .any l.toArray Q fuel listed a w := by
  intro fuel
  induction fuel with
  | zero =>
    intro listed a w hc hpre
    have hall := unl_pos (Nat.le_refl _) hc
    have hml : m = l.length := by
      rcases Nat.lt_or_ge m l.length with h1 | h1
      · have := hpre.none m (Nat.le_refl _) h1
        rw [hall m h1] at this; cases this
      · have := c.le; omega
    refine tail_any c 0 m listed a w (Nat.le_refl _) (by omega) hpre.size (fun j hj => by rw [hall j hj]; simp; omega) ?_
    obtain ⟨G, s, h1, h2⟩ := hpre.sat
    exact htail G a w (pre_sat hrun hpre s h1 h2 fun i hi => hall i (by omega))
  | succ fuel ih =>
    intro listed a w hc hpre
    have hgd : ∀ j, j < l.length → ∀ d, listed.getD j d = listed.getD j false := fun j hj d => by simp [Array.getD, hpre.size, hj]
    by_cases hall : ∀ i, i < m → listed.getD i false = true
    · -- all that may come up in any order has come up
      have hlist : ∀ j, j < l.length → listed.getD j false = decide (j < m) := fun j hj => by
        by_cases hjm : j < m
        · rw [hall j hjm]; simp [hjm]
        · rw [hpre.none j (by omega) hj]; simp [hjm]
      have hcount : ((List.range l.length).countP fun j => !listed.getD j false) = l.length - m := by
        have h1 : ((List.range l.length).countP fun j => !listed.getD j false) = (List.range l.length).countP fun j => decide (m ≤ j) := by
          apply List.countP_congr
          intro j hj
          rw [List.mem_range] at hj
          rw [hlist j hj]
          simp
        rw [h1]
        have h2 : ∀ n, ((List.range n).countP fun j => decide (m ≤ j)) = n - m := by
          intro n
          induction n with
          | zero => simp
          | succ n ih =>
            rw [List.range_succ, List.countP_append, ih, List.countP_singleton]
            by_cases h : m ≤ n
            · simp [h]; omega
            · simp [h]; omega
        exact h2 _
      have hml := c.le
      obtain ⟨G, s, h1, h2⟩ := hpre.sat
      exact tail_any c (fuel + 1) m listed a w (Nat.le_refl _) (by omega) hpre.size hlist (htail G a w (pre_sat hrun hpre s h1 h2 hall))
    · refine ⟨fun hempty => ?_, fun i hi => ?_⟩
      · -- the first that has not come up may come up
        exfalso
        have hex : ∃ i, i < m ∧ listed.getD i false = false := by
          false_or_by_contra
          rename_i hno
          refine hall fun i hi => ?_
          cases e : listed.getD i false with
          | true => rfl
          | false => exact absurd ⟨i, hi, e⟩ hno
        have hmin : ∃ i, (i < m ∧ listed.getD i false = false) ∧ ∀ j, j < i → listed.getD j false = true := by
          obtain ⟨i, hi⟩ := hex
          induction i using Nat.strongRecOn with
          | _ i ih =>
            by_cases hj : ∃ j, j < i ∧ listed.getD j false = false
            · obtain ⟨j, h1, h2⟩ := hj
              exact ih j h1 ⟨by omega, h2⟩
            · refine ⟨i, hi, fun j hji => ?_⟩
              cases e : listed.getD j false with
              | true => rfl
              | false => exact absurd ⟨j, hji, e⟩ hj
        obtain ⟨i, ⟨him, hun⟩, hbefore⟩ := hmin
        have hml := c.le
        have hil : i < l.length := by omega
        have : i ∈ Region.ready .any l.toArray listed := by
          refine mem_ready.2 ⟨by rw [hgd i hil]; exact hun, l[i], by simp [hil], fun e he hb => hbefore _ (c.ed i _ _ (List.getElem?_eq_getElem hil) (edges_after he hb))⟩
        rw [hempty] at this
        cases this
      · obtain ⟨q1, o, q2, q3⟩ := mem_ready.1 hi
        have hoi : l[i]? = some o := by simpa using q2
        have hil := getElem?_lt hoi
        rw [hgd i hil] at q1
        have hed : ∀ e ∈ edges o, listed.getD e false = true := fun e he => by
          obtain ⟨ee, r1, r2, r3⟩ := edges_mem he
          rw [← r3]; exact q3 ee r1 r2
        have him : i < m := by
          rcases Nat.lt_or_ge i m with h1 | h1
          · exact h1
          · exfalso
            refine hall fun j hj => ?_
            have hcl := c.tl i j hil h1 (by omega)
            cases e : (clos l [])[i]? with
            | none => simp [List.getD, e] at hcl
            | some cc =>
              simp [List.getD, e] at hcl
              exact clos_ok l _ hpre.down l [] 0 rfl rfl (by simp) i o cc hoi e hed j hcl
        obtain ⟨G, s, h1, h2⟩ := hpre.sat
        have hot : (l.take m)[i]? = some o := by rw [List.getElem?_take, if_pos him]; exact hoi
        obtain ⟨ρi, u1, u2, u3⟩ := hrun.at c.nd i o hot
        have hdd : ∀ t, t ∈ tmpsOf o ++ gtmp l o → Ar G (lk t ρi) (a.tmps.getD t undef) := by
          intro t ht
          by_cases hw : ∃ (j : Nat) (oj : Oper), j < m ∧ l[j]? = some oj ∧ oj.dst = some t
          · obtain ⟨j, oj, hj, hoj, hdj⟩ := hw
            obtain ⟨hji, hje⟩ := c.rd i o t j oj him hoi ht hj hoj hdj
            have hdone : Done l m listed t := ⟨j, oj, hj, hoj, hdj, hed j hje⟩
            have : lk t ρ' = lk t ρi := u2 t fun hmem => dsts_split c.nd (i := i) (t := t) (mem_dsts.2 ⟨j, oj, by rw [List.getElem?_take, if_pos hji, List.getElem?_take, if_pos hj]; exact hoj, hdj⟩) hmem
            rw [← this]
            exact h1 t hdone
          · have hnd : ¬ Done l m listed t := fun ⟨j, oj, a1, a2, a3, _⟩ => hw ⟨j, oj, a1, a2, a3⟩
            have : lk t ρi = lk t ρ := u1 t fun hmem => by
              obtain ⟨j, oj, b1, b2⟩ := mem_dsts.1 hmem
              have hj := getElem?_lt b1
              rw [List.getElem?_take] at b1
              split at b1
              · rw [List.getElem?_take] at b1
                split at b1
                · exact hw ⟨j, oj, by omega, b1, b2⟩
                · cases b1
              · cases b1
            rw [this]
            exact h2 t hnd
        have hops : ∀ x ∈ o.op.operands.toList, Ar G (ev pm.Γ ρi x) (a.eval x) := by
          intro x hx
          cases x with
          | tmp t => exact hdd t (List.mem_append.2 (.inl (tmp_mem hx)))
          | const v => exact cAV_ok G v
          | global g => exact lkG_ok (cx := cx) _ (by rw [← hp]; exact s.glob)
          | func f => exact ⟨[], rfl, .nil⟩
        have hwant : ∀ b, wantedA l.toArray o ρi = some b → Region.wanted o (yielded l.toArray a.tmps) = b := fun b hb =>
          wanted_of hb fun j want d e1 e2 => by
            have hg : d ∈ gtmp l o := by
              unfold gtmp
              rw [e1]
              have : (l[j]?).bind (·.dst) = some d := by simpa using e2
              simp [this]
            exact ⟨by rw [hpre.N, hp]; exact c.gN i o d hoi hg, hdd d (List.mem_append.2 (.inr hg))⟩
        -- what holds behind it
        have hstep : ∀ (v : Value) (w' : World) (G' : Gh) (r : AV), GLe G.g.length G G' → SatH cx G' h w' → Ar G' r v → (∀ d, o.dst = some d → lk d ρ' = r) →
            wpAny P .any l.toArray Q fuel (listed.setIfInBounds i true) (a.put o.dst v) w' := by
          intro v w' G' r hG s' hr hlk
          refine ih _ _ _ (by have := count_set hpre.size hil q1; omega) ⟨⟨G', s', fun t ht => ?_, fun t ht => ?_⟩, ?_, ?_, by simpa using hpre.size, fun k hk hkl => ?_, fun k ok hk hD e he => ?_⟩
          · by_cases hdt : o.dst = some t
            · rw [hlk t hdt, hdt]
              have hlt : t < a.tmps.size := by rw [hpre.N, hp]; exact c.dN i o t hoi hdt
              have : ((a.put (some t) v).tmps).getD t undef = v := by simp [Act.put, Array.getD, hlt]
              rw [this]; exact hr
            · have hd' : Done l m listed t := by
                obtain ⟨j, oj, b1, b2, b3, b4⟩ := ht
                have hji : i ≠ j := fun e => by
                  subst e
                  rw [hoi] at b2
                  cases b2
                  exact hdt b3
                exact ⟨j, oj, b1, b2, b3, by rwa [getD_set_ne false hji] at b4⟩
              rw [put_other hdt]
              exact (h1 t hd').grow hG
          · have hdt : o.dst ≠ some t := fun e => ht ⟨i, o, him, hoi, e, by simp [Array.getD, hpre.size, hil]⟩
            have hd' : ¬ Done l m listed t := fun ⟨j, oj, b1, b2, b3, b4⟩ => ht ⟨j, oj, b1, b2, b3, getD_set_true b4⟩
            rw [put_other hdt]
            exact (h2 t hd').grow hG
          · cases o.dst <;> simp [Act.put, hpre.N]
          · cases o.dst <;> simp [Act.put, hpre.defers]
          · rw [getD_set_ne false (by omega)]
            exact hpre.none k hk hkl
          · by_cases hki : i = k
            · subst hki
              rw [hoi] at hk
              cases hk
              exact getD_set_true (hed e he)
            · have hD' : (listed.setIfInBounds i true).getD k false = true := hD
              rw [getD_set_ne false hki] at hD'
              exact getD_set_true (hpre.down k ok hk hD' e he)
        unfold wpOp
        simp only [q2]
        rcases u3 with ⟨hw, r, hq, hlk⟩ | ⟨hw, hlk⟩
        · rw [if_pos (hwant true hw)]
          exact .inl (hq cx G w a hp s hops _ _ fun v w' G' hG s' hr => hstep v w' G' r hG s' hr hlk)
        · rw [if_neg (by rw [hwant false hw]; simp)]
          exact hstep undef w G U (.refl _ _) s U_ok hlk

/-- A REGION THAT DRAWS ITS ORDER: the first m operations in whatever order, the others behind them in the order of the text. -/
theorem AXc.draw {id : Nat} {st : St} {Q : Exit → St → Prop} (hm : P.follows .mixedOrders = true) (m : Nat) (hok : drawOk l m pm.N = true)
    (hh : AXd P pm st.heap l.toArray (l.take m) st.env fun ρ' => AXl P pm l.toArray (l.drop m) ⟨ρ', st.heap⟩ (Q .normal)) : AXc P pm (.region id l.toArray true) st Q := by
  intro cx G a w hp s
  have c := drawOk_spec hok
  obtain ⟨ρ', hrun, htail⟩ := hh
  refine wp2_region_any hm ?_
  have s' : SatH cx G st.heap { w with drawn := w.drawn + 1 } := s.h.later ((Below.refl _ w).drew)
  refine pre_any (Q := Post cx Q) c hp hrun (fun G a w sat => htail cx G a w _ hp sat fun G' st' _ _ s' k => ⟨G', st', s', k⟩) _ _ a _ ?_ ⟨⟨G, s', fun t ht => ?_, fun t _ => s.ev (.tmp t)⟩, s.N, s.defers, by simp, fun i _ hil => by simp [Array.getD, hil], fun i o hi hD => ?_⟩
  · have : ∀ n k, n ≤ k → ((List.range n).countP fun j => !(Array.replicate k false).getD j false) = n := by
      intro n k hnk
      have : ((List.range n).countP fun j => !(Array.replicate k false).getD j false) = (List.range n).countP fun _ => true := by
        apply List.countP_congr
        intro j hj
        rw [List.mem_range] at hj
        simp [Array.getD, show j < k by omega]
      rw [this]; simp
    simpa using this l.length l.length (Nat.le_refl _)
  · obtain ⟨j, oj, b1, b2, b3, b4⟩ := ht
    exfalso
    have hj := getElem?_lt b2
    simp [Array.getD, hj] at b4
  · exfalso
    have hj := getElem?_lt hi
    simp [Array.getD, hj] at hD
end
end Go.Ax

/-
  Small steps for walks that a program prints: exits, regions with what follows out of sight, ends. No condition.
-/
namespace Go.Ax
open Go Go.RowKit

variable {P : Program} {pm : Pm} {st : St} {K : St → Prop} {Q : Exit → St → Prop}

theorem Ethen.n (h : K st) : Ethen K Q .normal st := h
theorem Ethen.e {id : Nat} (h : Q (.exit id) st) : Ethen K Q (.exit id) st := h
theorem Ethen.r (h : Q .ret st) : Ethen K Q .ret st := h
theorem EinBlock.n {id : Nat} (h : Q .normal st) : EinBlock id Q .normal st := h
theorem EinBlock.r {id : Nat} (h : Q .ret st) : EinBlock id Q .ret st := h
theorem EinBlock.hit {id : Nat} (h : Q .normal st) : EinBlock id Q (.exit id) st := by simp only [EinBlock, if_true]; exact h
theorem EinBlock.miss {id id' : Nat} (hne : id' ≠ id) (h : Q (.exit id') st) : EinBlock id Q (.exit id') st := by simp only [EinBlock, if_neg hne]; exact h

theorem AXc.region' {id : Nat} {l : List Oper} (h : ∀ K : St → Prop, (∀ st', Q .normal st' → K st') → AXl P pm l.toArray l st K) : AXc P pm (.region id l.toArray false) st Q :=
  AXc.region (h _ fun _ h => h)
theorem AXc.draw' {id : Nat} {l : List Oper} (hm : P.follows .mixedOrders = true) (m : Nat) (hok : drawOk l m pm.N = true)
    (hh : ∀ K : St → Prop, (∀ st', Q .normal st' → K st') → AXd P pm st.heap l.toArray (l.take m) st.env fun ρ' => AXl P pm l.toArray (l.drop m) ⟨ρ', st.heap⟩ K) : AXc P pm (.region id l.toArray true) st Q :=
  AXc.draw hm m hok (hh _ fun _ h => h)

theorem AXc.cond_t {c : Operand} {x y : Code} (hc : ev pm.Γ st.env c = .c (.d (.bool true))) (h : AXc P pm x st Q) : AXc P pm (.cond c x y) st Q :=
  AXc.cond hc (fun _ => h) (fun e => by cases e)
theorem AXc.cond_f {c : Operand} {x y : Code} (hc : ev pm.Γ st.env c = .c (.d (.bool false))) (h : AXc P pm y st Q) : AXc P pm (.cond c x y) st Q :=
  AXc.cond hc (fun e => by cases e) (fun _ => h)

theorem Fin.ret {res : List ResultVar} {fr : Option Nat} {rs rs' : List RV} {αs : List AV} (h1 : resAVs P st res = some αs) (h2 : rvsOf fr st.heap αs = some rs') (he : rs' = rs) : Fin P res fr rs .ret st :=
  ⟨.inl rfl, αs, h1, by rw [h2, he]⟩
theorem Fin.norm {res : List ResultVar} {fr : Option Nat} {rs rs' : List RV} {αs : List AV} (h1 : resAVs P st res = some αs) (h2 : rvsOf fr st.heap αs = some rs') (he : rs' = rs) : Fin P res fr rs .normal st :=
  ⟨.inr rfl, αs, h1, by rw [h2, he]⟩

/-- A function that hands over no row. -/
theorem AFn.of_body0 {Γ : List (Nat × List D)} {f : FuncId} {fn : Func} {c : Code} {args : List AV} {rs : List RV} {n : Nat} {res : List ResultVar} (hf : P.funcs[f]? = some fn) (hname : (fn.name == "runtime.NumGoroutine") = false) (hb : fn.body = some c) (hn : fn.ntmps = n) (hres : fn.results.toList = res) (hN : args.length ≤ n)
    (h : AXc P ⟨0, n, Γ⟩ c ⟨envOf args 0, []⟩ (Fin P res none rs)) : AFn P Γ f args rs :=
  AFn.of_body hf hname hb (by rw [hn]; exact hN) none (by intro i st αs h; cases h) (by rw [hn, hres]; exact h)

/-- A function whose one result is a row that it hands over. -/
theorem AFn.of_body1 {Γ : List (Nat × List D)} {f : FuncId} {fn : Func} {c : Code} {args : List AV} {te : TypeId} {sz : Nat} {els : List (List D)} {n : Nat} {r : ResultVar} (i : Nat) (hf : P.funcs[f]? = some fn) (hname : (fn.name == "runtime.NumGoroutine") = false) (hb : fn.body = some c) (hn : fn.ntmps = n) (hres : fn.results.toList = [r]) (hN : args.length ≤ n)
    (h : AXc P ⟨0, n, Γ⟩ c ⟨envOf args 0, []⟩ (Fin P [r] (some i) [.fresh te sz els])) : AFn P Γ f args [.fresh te sz els] := by
  refine AFn.of_body hf hname hb (by rw [hn]; exact hN) (some i) (fun i' st αs hi hr => ?_) (by rw [hn, hres]; exact h)
  cases hi
  match αs, hr with
  | [], hr => cases hr
  | α :: αs, hr =>
    simp only [rvsOf] at hr
    split at hr
    · next x l h1 h2 =>
      cases hr
      unfold rvOf at h1
      split at h1
      · next c =>
        split at h1
        · cases h1
        · split at h1
          · next j ver _ =>
            split at h1
            · next t sz' els' v hj =>
              split at h1
              · next hcond =>
                have : j = i := by have := hcond.2; injection this with this; exact this.symm
                subst this
                exact ⟨_, hj, trivial⟩
              · cases h1
            · cases h1
          · cases h1
      · next cs =>
        cases hcs : cellDs (some i) st.heap cs with
        | none => simp [hcs] at h1
        | some ds => simp [hcs] at h1
      · cases h1
    · cases hr

variable {ops : Array Oper} {rest : List Oper} {dst : Option Tmp} {ty : TypeId} {p : String} {af : Array Edge} {gd : Option (Nat × Bool)} {h : List LB} {ρ : Operand → AV}

theorem s_struct' (op : BinOp) (t t' : TypeId) (x y : Operand) {tags : List Nat} {cs ds : List C} {xs ys : List D} {b b' : Bool} (hT : EqT P t tags) (hx : ρ x = .agg cs) (hy : ρ y = .agg ds) (hcs : toDs cs = some xs) (hds : toDs ds = some ys) (ht : xs.map tagD = tags) (hb : eqDs xs ys = some b) (hb' : beqs op b = some b') :
    Still P h ⟨dst, .binOp op t x y t', ty, p, af, gd⟩ ρ (.c (.d (.bool b'))) :=
  s_struct op t t' x y hT (by rw [hx, toDs_ok _ _ hcs]) (by rw [hy, toDs_ok _ _ hds]) ht hb hb'

/-- append to a nil slice: a new row of the call's own. -/
theorem AXl.append_nil {t : TypeId} {k : Nat} {y : Operand} {te : TypeId} {sz by_ : Nat} {news : List (List D)} (ht : apT P t = some (te, sz, by_)) (hx : lk k st.env = .c (.d (.raw (.slice none 0 0)))) (hky : y ≠ .tmp k)
    (hy : elsOfN sz st.heap (ev pm.Γ st.env y) = some (sz, news)) (hb : news.length * by_ ≤ 140737488355328) (hm : news.length ≤ 4294967296) (hd : dstOk pm.N dst)
    (hk : AXl P pm ops rest (St.put ⟨pute k (.c (.own st.heap.length 0)) st.env, st.heap ++ [.row te sz news 1]⟩ dst (.c (.own st.heap.length 1))) K) :
    AXl P pm ops (⟨dst, .call { callee := .builtin .append, args := #[.tmp k, y], argTypes := #[t, t] }, ty, p, af, none⟩ :: rest) st K := by
  refine AXl.nilrow k te sz hx ?_
  have hev : ev pm.Γ (pute k (AV.c (.own st.heap.length 0)) st.env) y = ev pm.Γ st.env y := by
    cases y with
    | tmp t =>
      simp only [ev]
      rw [lk_put, if_neg (fun e => hky (by rw [e]))]
    | _ => rfl
  have hels0 : ∀ α, elsOf st.heap α = some (sz, news) → elsOf (st.heap ++ [.row te sz [] 0]) α = some (sz, news) := by
    intro α hα
    unfold elsOf at hα ⊢
    have hpre : ∀ (i : Nat) (b : LB), st.heap[i]? = some b → (st.heap ++ [LB.row te sz [] 0])[i]? = some b := fun i b hi => by
      rw [List.getElem?_append_left (getElem?_lt hi)]; exact hi
    split at hα
    · exact hα
    · exact hα
    · split at hα
      · next hi => simp only [hpre _ _ hi]; exact hα
      · cases hα
    · split at hα
      · next hi => simp only [hpre _ _ hi]; exact hα
      · cases hα
    · cases hα
  have hels : ∀ α, elsOfN sz st.heap α = some (sz, news) → elsOfN sz (st.heap ++ [.row te sz [] 0]) α = some (sz, news) := by
    intro α hα
    unfold elsOfN at hα ⊢
    split at hα
    · exact hα
    · exact hels0 _ hα
  refine AXl.append (i := st.heap.length) (ver := 0) (els := []) ht (by simp [ev, lk_put]) (by simp) (by rw [hev]; exact hels _ hy) (by simpa using hb) (by simpa using hm) hd ?_
  have e : (st.heap ++ [LB.row te sz [] 0]).set st.heap.length (.row te sz ([] ++ news) (0 + 1)) = st.heap ++ [.row te sz news 1] := by simp
  simp only [e]
  exact hk
end Go.Ax

/- Small facts for walks: bytes as numbers, rests of lists, the first place of a byte, predicates as function values. No condition. -/
namespace Go.Ax
open Go Go.RowKit
theorem u8eq (a b : UInt8) : ((a.toNat : Int) = (b.toNat : Int)) ↔ a = b := by rw [Int.ofNat_inj, UInt8.toNat_inj]
theorem drop_cons {α : Type} {l : List α} {k : Nat} (h : k < l.length) : l.drop k = l[k] :: l.drop (k + 1) := List.drop_eq_getElem_cons h
theorem drop_end {α : Type} {l : List α} {k : Nat} (h : ¬ k < l.length) : l.drop k = [] := List.drop_eq_nil_of_le (by omega)
theorem take_next {α : Type} {l : List α} {k : Nat} (h : k < l.length) : l.take (k + 1) = l.take k ++ [l[k]] := List.take_succ_eq_append_getElem h
theorem icast_succ (k : Nat) : ((k + 1 : Nat) : Int) = (k : Int) + 1 := rfl

section
variable {P : Program} {h : List LB} {ρ : Operand → AV} {dst : Option Tmp} {ty : TypeId} {p : String} {af : Array Edge} {gd : Option (Nat × Bool)}
theorem s_indexByte {f : FuncId} {fn : Func} (hf : P.funcs[f]? = some fn) (hname : (fn.name == "runtime.NumGoroutine") = false) (hb : fn.body.isNone = true) (hn : Extern.findNext fn = none) (he : Extern.find fn = some Extern.BytealgIndexByte.indexByte)
    (x y : Operand) (ts : Array TypeId) {l : List UInt8} {c : UInt8} (hx : ρ x = .c (.d (.str l))) (hy : ρ y = .c (.d (.int .u8 c.toNat))) :
    Still P h ⟨dst, .call { callee := .value (.func f), args := #[x, y], argTypes := ts }, ty, p, af, gd⟩ ρ (.c (.d (.int .i64 (Lib.indexByte l c)))) := by
  intro cx G w a s ho
  have e1 := ar_str (hx ▸ ho x (by simp [Op.operands, Call.operands]))
  have e2 := ar_int (hy ▸ ho y (by simp [Op.operands, Call.operands]))
  refine ⟨_, ?_, Dr.int _ _⟩
  have e3 : ((c.toNat : Nat) : Int).toNat.toUInt8 = c := by simp
  have h0 : a.eval (.func f) = .func (.func f) #[] #[] := rfl
  simp [execOp, resolve, Deferred.ofValue, h0, invoke, run_callFunc_extern hf hname hb hn he, e1, e2, Lib.run_indexByteString, e3]
end

/-- What a function value does that tells a property of one struct. -/
def predF {α : Type} (ds : α → List D) (p : α → Bool) : List AV → List RV → Prop := fun a r => ∃ x, a = [.agg ((ds x).map C.d)] ∧ r = [.d (.bool (p x))]
/-- The first place, from a number on, or -1. -/
def fI {α : Type} (p : α → Bool) : Nat → List α → Int
  | _, [] => -1
  | i, x :: r => if p x then (i : Int) else fI p (i + 1) r
theorem fI_spec {α : Type} (p : α → Bool) : ∀ (l : List α) (i : Nat), (fI p i l = -1 ∧ l.find? p = none) ∨ (∃ j : Nat, fI p i l = ((i + j : Nat) : Int) ∧ ∃ h : j < l.length, l.find? p = some l[j])
  | [], i => .inl ⟨rfl, rfl⟩
  | x :: r, i => by
    by_cases hp : p x = true
    · exact .inr ⟨0, by simp [fI, hp], by simp, by simp [hp]⟩
    · rcases fI_spec p r (i + 1) with ⟨h1, h2⟩ | ⟨j, h1, h2, h3⟩
      · exact .inl ⟨by simp [fI, hp, h1], by simp [hp, h2]⟩
      · exact .inr ⟨j + 1, by simp [fI, hp, h1]; omega, by simp; omega, by simp [hp, h3]⟩
theorem fI_lt {α : Type} (p : α → Bool) (l : List α) : fI p 0 l < l.length := by
  rcases fI_spec p l 0 with ⟨h1, _⟩ | ⟨j, h1, h2, _⟩ <;> omega
theorem fI_ge {α : Type} (p : α → Bool) (l : List α) : decide (0 ≤ fI p 0 l) = l.any p := by
  rcases fI_spec p l 0 with ⟨h1, h2⟩ | ⟨j, h1, h2, h3⟩
  · rw [h1]; symm; simp at h2 ⊢; exact fun x hx => by simpa using h2 x hx
  · rw [h1]; symm
    have := List.find?_some h3
    simp
    exact ⟨_, List.getElem_mem h2, this⟩
theorem indexByte_any (l : List UInt8) (c : UInt8) : decide (Lib.indexByte l c < 0) = !(l.any (· == c)) := by
  have hge := Lib.indexByte_ge l c
  by_cases h : Lib.indexByte l c = -1
  · rw [h]
    have := Lib.indexByte_none h
    have hn : l.any (· == c) = false := by
      rw [List.any_eq_false]
      intro x hx
      obtain ⟨k, hk, rfl⟩ := List.getElem_of_mem hx
      have := this k
      rw [List.getElem?_eq_getElem hk] at this
      simpa using this
    rw [hn]; rfl
  · obtain ⟨o, ho⟩ : ∃ o : Nat, Lib.indexByte l c = o := ⟨(Lib.indexByte l c).toNat, by omega⟩
    have h1 := (Lib.indexByte_some ho).1
    have hy : l.any (· == c) = true := List.any_eq_true.2 ⟨c, List.mem_of_getElem? h1, by simp⟩
    rw [hy, ho]; simp
end Go.Ax

namespace Go.Ax
open Go Go.RowKit
variable {P : Program} {pm : Pm} {st : St}
/-- Another account of an entry that holds as well. -/
theorem SatH.relabel {cx : Cx} {G : Gh} {h : List LB} {w : World} (s : SatH cx G h w) {i : Nat} {lb lb' : LB} (hi : h[i]? = some lb) (hl : lb'.live → lb.live)
    (hn : ∀ e, G.g[i]? = some e → Lr G w cx.w0.heap.size lb e → Lr G w cx.w0.heap.size lb' e) : SatH cx G (h.set i lb') w := by
  have back : ∀ (j : Nat) (b : LB), (h.set i lb')[j]? = some b → ∃ b0, h[j]? = some b0 ∧ (b.live → b0.live) ∧ ((j = i ∧ b = lb') ∨ b = b0) := by
    intro j b hb
    rw [List.getElem?_set] at hb
    by_cases e : i = j
    · subst e
      simp only [if_true] at hb
      rw [if_pos (getElem?_lt hi)] at hb
      cases hb
      exact ⟨lb, hi, hl, .inl ⟨rfl, rfl⟩⟩
    · rw [if_neg e] at hb
      exact ⟨b, hb, id, .inr rfl⟩
  refine ⟨by rw [List.length_set]; exact s.len, fun j b e hb he => ?_, fun j k bj bk ej ek q h1 h2 l1 l2 => ?_, s.view, s.imm, s.below, s.ext, s.glob, s.sz⟩
  · obtain ⟨b0, h0, _, hc⟩ := back j b hb
    rcases hc with ⟨rfl, rfl⟩ | rfl
    · rw [hi] at h0; cases h0
      exact hn e he (s.ent _ _ _ hi he)
    · exact s.ent _ _ _ h0 he
  · obtain ⟨b1, g1, k1, _⟩ := back j bj h1
    obtain ⟨b2, g2, k2, _⟩ := back k bk h2
    exact s.sep j k b1 b2 ej ek q g1 g2 (k1 l1) (k2 l2)

/-- A nil slice in a box, taken as an empty row of the call's own. -/
theorem Sat.nilbox {cx : Cx} {G : Gh} {a : Act} {w : World} (s : Sat cx G st a w) (i j : Nat) (te : TypeId) (sz : Nat) {t : TypeId} {cs : List C} (hi : st.heap[i]? = some (.box t cs)) (hj : cs[j]? = some (.d (.raw (.slice none 0 0)))) :
    Sat cx ⟨G.V, G.g ++ [(.slice none 0 0, 0)]⟩ ⟨st.env, (st.heap ++ [LB.row te sz [] 0]).set i (LB.box t (cs.set j (C.own st.heap.length 0)))⟩ a w := by
  have s' := s.h.push (.slice none 0 0) 0 (.row te sz [] 0) ⟨rfl, [], World.ownsRow_nil w _ te sz, fun b hb => (by cases hb), .nil, by simp⟩ (fun k hk => by cases hk)
  have hlt := getElem?_lt hi
  have hi' : (st.heap ++ [LB.row te sz [] 0])[i]? = some (.box t cs) := by rw [List.getElem?_append_left hlt]; exact hi
  have s2 := s'.relabel (lb' := .box t (cs.set j (.own st.heap.length 0))) hi' id fun e he hL => by
    obtain ⟨h1, b, vs, h2, h3, h4, h5, h6⟩ := hL
    refine ⟨h1, b, vs, h2, h3, h4, h5, ?_⟩
    obtain ⟨v, hv, hr⟩ := h6.get _ _ hj
    have e1 := ar_raw (hr : Ar _ (.c (.d (.raw (.slice none 0 0)))) v)
    have hs := h6.set (i := j) (a := C.own st.heap.length 0) (b := v) (by
      rw [e1]
      exact ⟨rfl, _, 0, get_last _ _ s.h.len.symm, Nat.le_refl _, fun _ => rfl⟩)
    rwa [show vs.set j v = vs from by
      have := getElem?_lt hv
      rw [List.getElem?_eq_getElem this] at hv
      injection hv with hv
      rw [← hv]; exact List.set_getElem_self this] at hs
  exact ⟨s2, fun t => (s.env t).grow (gle_push _), s.N, s.defers⟩
theorem AXc.nilbox {c : Code} {Q : Exit → St → Prop} (i j : Nat) (te : TypeId) (sz : Nat) {t : TypeId} {cs : List C} (hi : st.heap[i]? = some (.box t cs)) (hj : cs[j]? = some (.d (.raw (.slice none 0 0))))
    (h : AXc P pm c ⟨st.env, (st.heap ++ [LB.row te sz [] 0]).set i (LB.box t (cs.set j (C.own st.heap.length 0)))⟩ Q) : AXc P pm c st Q :=
  fun cx G a w hp s => h cx _ a w hp (s.nilbox i j te sz hi hj)
end Go.Ax

namespace Go.Ax
open Go Go.RowKit
def locsOf : List AV → Option (List Nat)
  | [] => some []
  | .c (.loc i 0) :: r => (locsOf r).map (i :: ·)
  | _ => none
theorem locsOf_map : ∀ {l : List AV} {is : List Nat}, locsOf l = some is → l = is.map fun i => AV.c (.loc i 0)
  | [], is, h => by cases h; rfl
  | .c (.loc i 0) :: r, is, h => by
    simp only [locsOf, Option.map_eq_some_iff] at h
    obtain ⟨js, h1, rfl⟩ := h
    rw [locsOf_map h1]; rfl
  | .c (.loc i (n + 1)) :: r, is, h => by simp [locsOf] at h
  | .any :: r, is, h => by simp [locsOf] at h
  | .agg _ :: r, is, h => by simp [locsOf] at h
  | .tup _ :: r, is, h => by simp [locsOf] at h
  | .c (.d _) :: r, is, h => by simp [locsOf] at h
  | .c .junk :: r, is, h => by simp [locsOf] at h
  | .c (.own _ _) :: r, is, h => by simp [locsOf] at h
  | .c (.sub _ _ _ _ _) :: r, is, h => by simp [locsOf] at h
  | .c (.rowp _ _ _ _ _) :: r, is, h => by simp [locsOf] at h
  | .c (.ptr _) :: r, is, h => by simp [locsOf] at h
  | .c (.bor _ _) :: r, is, h => by simp [locsOf] at h
  | .c (.clo _ _) :: r, is, h => by simp [locsOf] at h
  | .c (.fn _) :: r, is, h => by simp [locsOf] at h
variable {P : Program} {h : List LB} {ρ : Operand → AV} {dst : Option Tmp} {ty : TypeId} {p : String} {af : Array Edge} {gd : Option (Nat × Bool)}
theorem s_makeFunc' (f : FuncId) (caps : Array Operand) {is : List Nat} (hc : locsOf (caps.toList.map ρ) = some is) : Still P h ⟨dst, .makeFunc (.func f) #[] caps, ty, p, af, gd⟩ ρ (.c (.clo f is)) := s_makeFunc f caps (locsOf_map hc)
end Go.Ax

namespace Go.Ax
theorem indexByte_any' (l : List UInt8) (c : UInt8) : decide (0 ≤ Lib.indexByte l c) = l.any (· == c) := by
  have h := indexByte_any l c
  cases e : l.any (· == c) <;> rw [e] at h <;> simp at h ⊢ <;> omega
end Go.Ax

namespace Go.Ax
theorem rvsOf_own {h : List LB} {i ver sz : Nat} {t : TypeId} {els : List (List D)} (hi : h[i]? = some (.row t sz els ver)) : rvsOf (some i) h [.c (.own i ver)] = some [.fresh t sz els] := by
  simp [rvsOf, rvOf, cellD, hi]
end Go.Ax

/- Slices of an array behind a pointer; a slice against nil. No condition. -/
namespace Go.Ax
open Go Go.RowKit
variable {P : Program} {h : List LB} {ρ : Operand → AV} {dst : Option Tmp} {ty : TypeId} {p : String} {af : Array Edge} {gd : Option (Nat × Bool)}
theorem s_slice_arr (t : TypeId) (x : Operand) {e : TypeId} {m sz : Nat} {cs : List D} (els : List (List D)) (hs : arT P t = some (m, e, sz)) (hx : ρ x = .c (.ptr cs)) (hcs : cs = els.flatten) (hlen : els.length = m) (hall : ∀ e ∈ els, e.length = sz) (hm : m ≤ maxLen) :
    Still P h ⟨dst, .slice t x none none none, ty, p, af, gd⟩ ρ (.c (.bor sz els)) := by
  intro cx G w a s ho
  obtain ⟨hu, hsz⟩ := arT_some hs
  obtain ⟨ad, u, e1, hc⟩ := (hx ▸ ho x (by simp [Op.operands]) : Ar G (.c (.ptr cs)) (a.eval x))
  have hp : (if m = 0 then ad else ad.add (0 * sz)) = ad := by split <;> simp [add_zero]
  refine ⟨.slice (some ad) els.length m, ?_, some ad, m, (fun i j => u (i * sz + j)), rfl, by omega, hm, hall, fun _ => ⟨ad, rfl, fun i e' j c h1 h2 => ?_⟩, fun i e' j c h1 h2 => ?_⟩
  · simp [execOp, Instr.sliceAt, run_underlying hu, e1, Instr.sliceBounds, run_sizeOf' hsz, Instr.sureAddr, hlen, add_zero]
    try rfl
  · have := flat_get els hall i e' j c h1 h2
    rw [← hcs] at this
    exact (hc _ c this).1
  · have := flat_get els hall i e' j c h1 h2
    rw [← hcs] at this
    exact (hc _ c this).2

theorem run_nilne {t e : TypeId} (hu : P.underlying t = some (.slice e)) (ad : Addr) (n c d : Nat) (w : World) : (Op.equalIn (d + 1) t (.slice (some ad) n c) (.slice none 0 0)).run P w = .ok false w := by
  simp [Op.equalIn, run_underlying hu]
theorem run_nileq {t e : TypeId} (hu : P.underlying t = some (.slice e)) (d : Nat) (w : World) : (Op.equalIn (d + 1) t (.slice none 0 0) (.slice none 0 0)).run P w = .ok true w := by
  simp [Op.equalIn, run_underlying hu]
theorem run_nilne' {t e : TypeId} (hu : P.underlying t = some (.slice e)) (ad : Addr) (n c : Nat) (w : World) : (Op.equal t (.slice (some ad) n c) (.slice none 0 0)).run P w = .ok false w := run_nilne hu ad n c 9999 w
theorem run_nileq' {t e : TypeId} (hu : P.underlying t = some (.slice e)) (w : World) : (Op.equal t (.slice none 0 0) (.slice none 0 0)).run P w = .ok true w := run_nileq hu 9999 w
def nilq : BinOp → Bool → Option Bool
  | .eql, b => some b
  | .neq, b => some (!b)
  | _, _ => none
/-- A slice that is not empty is not nil. -/
theorem s_slnil_ne (op : BinOp) (t t' : TypeId) (x : Operand) {e : TypeId} {n sz : Nat} {els : List (List D)} {b : Bool} (hs : slT P t = some (e, n)) (hx : ρ x = .c (.d (.lst sz els)) ∨ ρ x = .c (.bor sz els)) (hne : els ≠ []) (hb : nilq op false = some b) :
    Still P h ⟨dst, .binOp op t x (.const (.slice none 0 0)) t', ty, p, af, gd⟩ ρ (.c (.d (.bool b))) := by
  intro cx G w a s ho
  obtain ⟨hu, hsz⟩ := slT_some hs
  have key : ∃ ad n c, a.eval x = .slice (some ad) n c := by
    rcases hx with hx | hx
    · obtain ⟨A, cap, u, e1, _, _, _, ha, _⟩ := dr_lst (hx ▸ ho x (by simp [Op.operands]) : Ar G (.c (.d (.lst sz els))) (a.eval x))
      obtain ⟨ad, rfl, _⟩ := ha hne
      exact ⟨_, _, _, e1⟩
    · obtain ⟨A, cap, u, e1, _, _, _, ha, _⟩ := (hx ▸ ho x (by simp [Op.operands]) : Ar G (.c (.bor sz els)) (a.eval x))
      obtain ⟨ad, rfl, _⟩ := ha hne
      exact ⟨_, _, _, e1⟩
  obtain ⟨ad, k, c, e1⟩ := key
  have e2 : a.eval (.const (.slice none 0 0)) = .slice none 0 0 := rfl
  refine ⟨.bool b, ?_, Dr.bool _⟩
  cases op <;> simp only [nilq, Option.some.injEq, reduceCtorEq] at hb <;> subst hb <;>
    simp [execOp, e1, e2, eqGuard, binOp, run_nilne' hu]
theorem s_slnil (op : BinOp) (t t' : TypeId) (x : Operand) {e : TypeId} {n : Nat} {b : Bool} (hs : slT P t = some (e, n)) (hx : ρ x = .c (.d (.raw (.slice none 0 0)))) (hb : nilq op true = some b) :
    Still P h ⟨dst, .binOp op t x (.const (.slice none 0 0)) t', ty, p, af, gd⟩ ρ (.c (.d (.bool b))) := by
  intro cx G w a s ho
  obtain ⟨hu, hsz⟩ := slT_some hs
  have e1 := ar_raw (hx ▸ ho x (by simp [Op.operands]) : Ar G (.c (.d (.raw (.slice none 0 0)))) (a.eval x))
  have e2 : a.eval (.const (.slice none 0 0)) = .slice none 0 0 := rfl
  refine ⟨.bool b, ?_, Dr.bool _⟩
  cases op <;> simp only [nilq, Option.some.injEq, reduceCtorEq] at hb <;> subst hb <;>
    simp [execOp, e1, e2, eqGuard, binOp, run_nileq' hu]
end Go.Ax

/- A row of the call's own, taken as still from here on. No condition. -/
namespace Go.Ax
open Go Go.RowKit
variable {P : Program} {pm : Pm} {st : St}
theorem freeze_core {cx : Cx} {G : Gh} {h : List LB} {w : World} (s : SatH cx G h w) {i : Nat} {t : TypeId} {sz ver : Nat} {els : List (List D)} (hi : h[i]? = some (.row t sz els ver)) :
    ∃ V', GLe G.g.length G ⟨V', G.g⟩ ∧ SatH cx ⟨V', G.g⟩ (h.set i .dead) w ∧ ∀ v, Cr G (.own i ver) v → Dr V' (.lst sz els) v := by
  obtain ⟨v0, xs, hg, how, hob, hdr, hl⟩ := row_at s hi
  have rf := row_form how
  let V' : Vw := ⟨fun b => if blkOf v0 = some b then w.heap[b]? else G.V.H b, fun b => G.V.I b ∨ blkOf v0 = some b⟩
  have hle : G.V.Le V' := ⟨fun b o ho => by
    have hne : ¬ (blkOf v0 = some b) := fun e => by
      have := hob b (rf.2.1 b e)
      rw [this] at ho; cases ho
    simp only [V', if_neg hne]; exact ho, fun b hb => .inl hb⟩
  have hG : GLe G.g.length G ⟨V', G.g⟩ := ⟨hle, fun j v n _ e => ⟨v, n, e, Nat.le_refl _, fun _ => rfl, fun _ => ⟨rfl, rfl⟩⟩⟩
  have hblk : ∀ b, blkOf v0 = some b → (∃ o, w.heap[b]? = some o) ∧ cx.w0.heap.size ≤ b := fun b hb => by
    obtain ⟨hlen, ⟨rfl, _⟩ | ⟨g, cap, cur, rfl, hge, hh, _⟩⟩ := how
    · cases hb
    · cases hb; exact ⟨⟨_, hh⟩, hge⟩
  refine ⟨V', hG, ⟨by rw [List.length_set]; exact s.len, fun j b e hb he => ?_, fun j k bj bk ej ek q h1 h2 l1 l2 g1 g2 => ?_, fun b o ho => ?_, fun b hb => ?_, s.below, s.ext.trans (hG.all _), fun q hq => (s.glob q hq).grow hG, s.sz⟩, fun v hv => ?_⟩
  · rw [List.getElem?_set] at hb
    by_cases e1 : i = j
    · subst e1
      rw [if_pos rfl, if_pos (getElem?_lt hi)] at hb
      cases hb
      trivial
    · rw [if_neg e1] at hb
      have hL := s.ent j b e hb he
      refine Lr.mono' hG (fun k hlive hk => ?_) hL
      have hne : ¬ (blkOf v0 = some k) := fun e2 => e1 (s.sep i j _ b _ e k hi hb trivial hlive hg he e2 hk)
      simp only [V', if_neg hne]
      exact (hL.blk hlive hk).2.2
  · have back : ∀ (j : Nat) (b : LB), (h.set i .dead)[j]? = some b → b.live → h[j]? = some b := fun j b hb hlive => by
      rw [List.getElem?_set] at hb
      by_cases e1 : i = j
      · subst e1
        rw [if_pos rfl, if_pos (getElem?_lt hi)] at hb
        cases hb
        exact hlive.elim
      · rwa [if_neg e1] at hb
    exact s.sep j k bj bk ej ek q (back j bj h1 l1) (back k bk h2 l2) l1 l2 g1 g2
  · simp only [V'] at ho
    split at ho
    · exact ho
    · exact s.view b o ho
  · rcases hb with hb | hb
    · obtain ⟨⟨o, ho⟩, h2⟩ := s.imm b hb
      exact ⟨⟨o, hle.H b o ho⟩, h2⟩
    · obtain ⟨⟨o, ho⟩, h2⟩ := hblk b hb
      exact ⟨⟨o, by simp only [V', if_pos hb]; exact ho⟩, .inr h2⟩
  · obtain ⟨_, v1, n1, hg', _, hxx⟩ := hv
    rw [hg] at hg'
    cases hg'
    have := hxx rfl
    subst this
    obtain ⟨A, cap, rfl, hc, hm⟩ := own_form how
    have hat : ∀ (a b : Nat) (e : List D) (c : D), els[a]? = some e → e[b]? = some c → ∃ u, xs[a * sz + b]? = some u ∧ Dr G.V c u := fun a b e c h1 h2 => hdr.get _ c (flat_get els hl a e b c h1 h2)
    refine .lst sz els A cap (fun a b => (xs[a * sz + b]?).getD undef) hc hm hl (fun hn => ?_) (fun a e b c h1 h2 => ?_)
    · have hpos : 0 < els.length := List.length_pos_iff.2 hn
      obtain ⟨g, cap', e1, hge, _, _, hcell⟩ := own_cells how hpos
      cases e1
      refine ⟨⟨g, 0, none⟩, rfl, .inr rfl, fun a e b c h1 h2 => ?_⟩
      obtain ⟨u, hu, _⟩ := hat a b e c h1 h2
      have := hcell _ _ hu
      rw [hu, add_plain]
      simp only [Option.getD_some, Nat.zero_add]
      have h3 : blkOf (Value.slice (some ⟨g, 0, none⟩) els.length cap) = some g := rfl
      simp only [cellIn, V', h3, if_true]
      rw [← cellIn_world] at this
      exact this
    · obtain ⟨u, hu, hd⟩ := hat a b e c h1 h2
      rw [hu]
      exact Dr.mono hle hd

theorem Sat.freezeVar {cx : Cx} {G : Gh} {a : Act} {w : World} (s : Sat cx G st a w) (k : Nat) {i : Nat} {t : TypeId} {sz ver : Nat} {els : List (List D)} (hk : lk k st.env = .c (.own i ver)) (hi : st.heap[i]? = some (.row t sz els ver)) :
    ∃ G', Sat cx G' ⟨pute k (.c (.d (.lst sz els))) st.env, st.heap.set i .dead⟩ a w := by
  obtain ⟨V', hG, s', hv⟩ := freeze_core s.h hi
  refine ⟨⟨V', G.g⟩, s', fun x => ?_, s.N, s.defers⟩
  rw [lk_put]
  by_cases hkx : k = x
  · subst hkx
    rw [if_pos rfl]
    exact hv _ (hk ▸ s.ev (.tmp k) : Ar G (.c (.own i ver)) (a.tmps.getD k undef))
  · rw [if_neg hkx]; exact (s.env x).grow hG
theorem Sat.freezeBox {cx : Cx} {G : Gh} {a : Act} {w : World} (s : Sat cx G st a w) (j c : Nat) {i : Nat} {t tb : TypeId} {sz ver : Nat} {els : List (List D)} {cs : List C} (hj : st.heap[j]? = some (.box tb cs)) (hc : cs[c]? = some (.own i ver)) (hi : st.heap[i]? = some (.row t sz els ver)) :
    ∃ G', Sat cx G' ⟨st.env, (st.heap.set i .dead).set j (LB.box tb (cs.set c (C.d (.lst sz els))))⟩ a w := by
  obtain ⟨V', hG, s', hv⟩ := freeze_core s.h hi
  have hne : i ≠ j := fun e => by subst e; rw [hi] at hj; cases hj
  have hj' : (st.heap.set i .dead)[j]? = some (.box tb cs) := by rw [List.getElem?_set, if_neg hne]; exact hj
  have s2 := s'.relabel (lb' := .box tb (cs.set c (C.d (.lst sz els)))) hj' id fun e he hL => by
    obtain ⟨h1, b, vs, h2, h3, h4, h5, h6⟩ := hL
    refine ⟨h1, b, vs, h2, h3, h4, h5, ?_⟩
    obtain ⟨v, hvv, hr⟩ := h6.get _ _ hc
    have hs := h6.set (i := c) (a := C.d (.lst sz els)) (b := v) (hv v hr)
    rwa [show vs.set c v = vs from by
      have := getElem?_lt hvv
      rw [List.getElem?_eq_getElem this] at hvv
      injection hvv with hvv
      rw [← hvv]; exact List.set_getElem_self this] at hs
  exact ⟨⟨V', G.g⟩, s2, fun x => (s.env x).grow hG, s.N, s.defers⟩
theorem AXc.freezeVar {c : Code} {Q : Exit → St → Prop} (k : Nat) {i : Nat} {t : TypeId} {sz ver : Nat} {els : List (List D)} (hk : lk k st.env = .c (.own i ver)) (hi : st.heap[i]? = some (.row t sz els ver))
    (h : AXc P pm c ⟨pute k (.c (.d (.lst sz els))) st.env, st.heap.set i .dead⟩ Q) : AXc P pm c st Q :=
  fun cx _ a w hp s => (s.freezeVar k hk hi).elim fun G' s' => h cx G' a w hp s'
theorem AXc.freezeBox {c : Code} {Q : Exit → St → Prop} (j k : Nat) {i : Nat} {t tb : TypeId} {sz ver : Nat} {els : List (List D)} {cs : List C} (hj : st.heap[j]? = some (.box tb cs)) (hc : cs[k]? = some (.own i ver)) (hi : st.heap[i]? = some (.row t sz els ver))
    (h : AXc P pm c ⟨st.env, (st.heap.set i .dead).set j (LB.box tb (cs.set k (C.d (.lst sz els))))⟩ Q) : AXc P pm c st Q :=
  fun cx _ a w hp s => (s.freezeBox j k hj hc hi).elim fun G' s' => h cx G' a w hp s'
variable {ops : Array Oper} {rest : List Oper} {K : St → Prop}
theorem AXl.freezeVar (k : Nat) {i : Nat} {t : TypeId} {sz ver : Nat} {els : List (List D)} (hk : lk k st.env = .c (.own i ver)) (hi : st.heap[i]? = some (.row t sz els ver))
    (h : AXl P pm ops rest ⟨pute k (.c (.d (.lst sz els))) st.env, st.heap.set i .dead⟩ K) : AXl P pm ops rest st K :=
  fun cx _ a w Q hp s hQ => (s.freezeVar k hk hi).elim fun G' s' => h cx G' a w Q hp s' hQ
end Go.Ax

namespace Go.Ax
/-- What a callee may take an argument's cell for: itself, or a nil slice for an empty list. -/
inductive NilTo : D → D → Prop where
  | refl (x : D) : NilTo x x
  | nil (sz : Nat) : NilTo (.raw (.slice none 0 0)) (.lst sz [])
theorem NilTo.dr {V : Vw} {x y : D} {v : Value} (h : NilTo x y) (hd : Dr V x v) : Dr V y v := by
  cases h with
  | refl => exact hd
  | nil sz =>
    cases hd
    exact Dr.lst sz [] none 0 (fun _ _ => undef) (Nat.le_refl _) (Nat.zero_le _) (fun e he => by cases he) (fun hn => absurd rfl hn) (fun i e j c h1 _ => by simp at h1)
theorem ArgOk.aggn {pm : Pm} {h : List LB} {cs : List C} {ds ds' : List D} (hc : toDs cs = some ds) (hn : All2 NilTo ds ds') : ArgOk pm h (.agg cs) (.agg (ds'.map C.d)) := fun cx G w v hp s hv => by
  obtain ⟨vs, rfl, hcs⟩ := (ArgOk.agg hc cx G w v hp s hv : Ar _ (.agg (ds.map C.d)) v)
  refine ⟨vs, rfl, ?_⟩
  have h1 := All2.of_map_left hcs
  refine All2.map_left ?_
  clear hcs hv hc
  induction hn generalizing vs with
  | nil => cases h1; exact .nil
  | cons hx ht ih => cases h1 with | cons hd tl => exact .cons (hx.dr hd) (ih _ tl)
end Go.Ax

/- Arguments of a statement, read as closed data, by the shape of their type. No condition. -/
namespace Go.Ax
open Go Go.RowKit

/-- What a cell of a type can hold. -/
inductive Cs where
  | int (k : IntKind)
  | bool
  | str
  | lst (el : List Cs)

def shapeFs (P : Program) (r : TypeId → Option (List Cs)) : List Field → Nat → Option (List Cs)
  | [], _ => some []
  | f :: fs, off => if f.offset = off then
      match r f.type with
      | some a => if a.length = P.cellsOf f.type then (shapeFs P r fs (off + a.length)).map (a ++ ·) else none
      | none => none
    else none
def shape (P : Program) : Nat → TypeId → Option (List Cs)
  | 0, _ => none
  | n + 1, t => match P.underlying t with
    | some .bool => some [.bool]
    | some (.int k) => some [.int k]
    | some .string => some [.str]
    | some (.slice e) => match shape P n e with
      | some el => if 0 < el.length ∧ el.length = P.cellsOf e then some [.lst el] else none
      | none => none
    | some (.struct fs) => match shapeFs P (shape P n) fs.toList 0 with
      | some sh => if sh.length = P.cellsOf t then some sh else none
      | none => none
    | _ => none

/-- A datum is of a shape. -/
inductive FitC : Cs → D → Prop where
  | int (k : IntKind) (n : Int) (h : (Lit.int k n).wf = true) : FitC (.int k) (.int k n)
  | bool (b : Bool) : FitC .bool (.bool b)
  | str (l : List UInt8) (h : l.length ≤ maxLen) : FitC .str (.str l)
  | lst (el : List Cs) (els : List (List D)) (h1 : ∀ (i : Nat) (e : List D), els[i]? = some e → e.length = el.length) (h2 : ∀ (i : Nat) (e : List D) (j : Nat) (s : Cs) (d : D), els[i]? = some e → el[j]? = some s → e[j]? = some d → FitC s d) : FitC (.lst el) (.lst el.length els)

abbrev wV (w : World) : Vw := ⟨fun b => w.heap[b]?, fun b => ∃ o, w.heap[b]? = some o⟩

theorem cells_get {w : World} {base n : Nat} {a : Addr} {cs : List Value} (h : w.cells? base a n = some cs) : cs.length = n ∧ ∀ (j : Nat) (v : Value), cs[j]? = some v → w.cell? (a.add j) = some v := by
  unfold World.cells? at h
  split at h
  · have hl : cs.length = n := by simpa using mapM_some_length h
    refine ⟨hl, fun j v hj => ?_⟩
    have hlt : j < n := by rw [← hl]; exact getElem?_lt hj
    rw [mapM_some_get h j j (by simp [hlt])]
    exact hj
  · cases h

theorem heap_of_cell {w : World} {a : Addr} {v : Value} (h : w.cell? a = some v) : ∃ o, w.heap[a.block]? = some o := by
  unfold World.cell? at h
  cases e : w.heap[a.block]? with
  | some o => exact ⟨o, rfl⟩
  | none => simp [e] at h

variable {H : Type} {enc : TypeId × Value → H} {P : Program} {w : World} {base : Nat} {spare : Nat → Bool} {held : Bool}
structure Reads (w : World) (sh : List Cs) (cs : List Value) (ds : List D) : Prop where
  dr : All2 (Dr (wV w)) ds cs
  fit : All2 FitC sh ds

theorem read_fields {r : TypeId → Option (List Cs)} {g : TypeId → List Value → Option (DataW H × List MemPlace)} {cs : List Value} (hr : ∀ t cs x sh, r t = some sh → g t cs = some x → ∃ ds, Reads w sh cs ds) : ∀ (fs : List Field) (off : Nat) (sh : List Cs), shapeFs P r fs off = some sh →
    (∀ f ∈ fs, ∃ y, g f.type ((cs.drop f.offset).take (P.cellsOf f.type)) = some y) → ∃ ds, Reads w sh ((cs.drop off).take sh.length) ds
  | [], off, sh, h, _ => by cases h; exact ⟨[], by simp; exact .nil, .nil⟩
  | f :: fs, off, sh, h, hy => by
    unfold shapeFs at h
    split at h
    · next ho =>
      split at h
      · next a ha =>
        split at h
        · next hl =>
          cases e : shapeFs P r fs (off + a.length) with
          | none => simp [e] at h
          | some b =>
            simp only [e, Option.map_some, Option.some.injEq] at h
            subst h
            obtain ⟨y, hy1⟩ := hy f (by simp)
            obtain ⟨d1, h1⟩ := hr _ _ _ _ ha hy1
            obtain ⟨d2, h2⟩ := read_fields hr fs _ b e fun f' hf' => hy f' (by simp [hf'])
            refine ⟨d1 ++ d2, ?_, h1.fit.append h2.fit⟩
            have := h1.dr.append h2.dr
            rw [ho, ← hl] at this
            rwa [List.length_append, List.take_add, List.drop_drop]
        · cases h
      · cases h
    · cases h

theorem read_ok : ∀ (n : Nat) (t : TypeId) (sh : List Cs), shape P n t = some sh → ∀ (fuel : Nat) (cs : List Value) (x : DataW H × List MemPlace), DataW.trod enc P w base spare held fuel t cs = some x → ∃ ds, Reads w sh cs ds
  | 0, _, _, h, _, _, _, _ => by cases h
  | n + 1, t, sh, h, fuel, cs, x, hx => by
    unfold shape at h
    split at h
    · next hu => cases h; obtain ⟨b, rfl, _⟩ := DataW.trod_bool hu hx; exact ⟨[.bool b], .cons (.bool b) .nil, .cons (.bool b) .nil⟩
    · next k hu => cases h; obtain ⟨m, rfl, _, hw⟩ := DataW.trod_int hu hx; exact ⟨[.int k m], .cons (.int k m) .nil, .cons (.int k m hw) .nil⟩
    · next hu =>
      cases h; obtain ⟨s, rfl, _, hs⟩ := DataW.trod_string hu hx
      refine ⟨[.str s.data.toList], .cons ?_ .nil, .cons (.str _ (by rw [Array.length_toList]; exact hs)) .nil⟩
      have := Dr.str (V := wV w) s.data.toList
      rwa [byteArray_eta] at this
    · next e hu =>
      split at h
      · next el hel =>
        split at h
        · next hpos =>
          cases h
          rcases DataW.trod_slice hu hx with ⟨rfl, _⟩ | ⟨a, len, cap, elems, rest, m, _, rfl, _, hb, hlc, hcm, hlen, hat, _⟩
          · refine ⟨[.lst el.length []], .cons ((NilTo.nil el.length).dr (Dr.raw _ rfl)) .nil, .cons (FitC.lst el [] (fun i e he => nomatch he) (fun i e j s d he => nomatch he)) .nil⟩
          · have key : ∀ i, i < len → ∃ ds : List D, ∃ cs', w.cells? base (a.add (i * P.cellsOf e)) (P.cellsOf e) = some cs' ∧ Reads w el cs' ds := fun i hi => by
              have h1 := hat i hi
              rw [List.getElem?_eq_getElem (by omega)] at h1
              obtain ⟨cs', h2, h3⟩ := Option.bind_eq_some_iff.1 h1
              obtain ⟨ds, h4⟩ := read_ok n e el hel _ _ _ h3
              exact ⟨ds, cs', h2, h4⟩
            let f : Nat → List D := fun i => if h : i < len then Classical.choose (key i h) else []
            have hf : ∀ i, i < len → ∃ cs', w.cells? base (a.add (i * P.cellsOf e)) (P.cellsOf e) = some cs' ∧ Reads w el cs' (f i) := fun i hi => by
              have := Classical.choose_spec (key i hi)
              simp only [f, dif_pos hi]; exact this
            have hget : ∀ (i : Nat) (x : List D), ((List.range len).map f)[i]? = some x → i < len ∧ x = f i := fun i x hix => by
              have hlt := getElem?_lt hix
              simp only [List.length_map, List.length_range] at hlt
              simp [hlt] at hix
              exact ⟨hlt, hix.symm⟩
            have hall : ∀ (i : Nat) (x : List D), ((List.range len).map f)[i]? = some x → x.length = el.length ∧ ∀ (j : Nat) (c : D), x[j]? = some c → ∃ v, w.cell? (a.add (i * el.length + j)) = some v ∧ Dr (wV w) c v := fun i x hix => by
              obtain ⟨hi, rfl⟩ := hget i x hix
              obtain ⟨cs', h1, h2⟩ := hf i hi
              obtain ⟨h3, h4⟩ := cells_get h1
              refine ⟨h2.fit.length.symm, fun j c hj => ?_⟩
              obtain ⟨v, hv, hd⟩ := h2.dr.get j c hj
              have := h4 j v hv
              rw [add_add, ← hpos.2] at this
              exact ⟨v, this, hd⟩
            have hL : ((List.range len).map f).length = len := by simp
            have hdr : Dr (wV w) (.lst el.length ((List.range len).map f)) (.slice (some a) ((List.range len).map f).length cap) := by
              refine Dr.lst el.length _ (some a) cap (fun i j => (w.cell? (a.add (i * el.length + j))).getD undef) (by rw [hL]; exact hlc) hcm (fun x hx => ?_) (fun hn => ?_) (fun i x j c h1 h2 => ?_)
              · obtain ⟨i, hi, rfl⟩ := List.getElem_of_mem hx
                exact (hall i _ (List.getElem?_eq_getElem hi)).1
              · have hpl : 0 < ((List.range len).map f).length := List.length_pos_iff.2 hn
                refine ⟨a, rfl, ?_, fun i x j c h1 h2 => ?_⟩
                · obtain ⟨h3, h4⟩ := hall 0 _ (List.getElem?_eq_getElem hpl)
                  obtain ⟨v, hv, _⟩ := h4 0 _ (List.getElem?_eq_getElem (by omega))
                  have := heap_of_cell hv
                  rwa [add_block] at this
                · obtain ⟨v, hv, _⟩ := (hall i x h1).2 j c h2
                  rw [cellIn_world, hv]; rfl
              · obtain ⟨v, hv, hd⟩ := (hall i x h1).2 j c h2
                rw [hv]; exact hd
            rw [hL] at hdr
            refine ⟨_, .cons hdr .nil, .cons (.lst el _ (fun i x hix => (hall i x hix).1) (fun i x j s d hix hs hd => ?_)) .nil⟩
            obtain ⟨hi, rfl⟩ := hget i x hix
            obtain ⟨cs', h1, h2⟩ := hf i hi
            obtain ⟨d', hd', hfit⟩ := h2.fit.get j s hs
            rw [hd] at hd'; cases hd'
            exact hfit
        · cases h
      · cases h
    · next fs hu =>
      split at h
      · next sh' hsh =>
        split at h
        · next hl =>
          cases h
          obtain ⟨xs, m, rfl, _, hlen, hxl, hat⟩ := DataW.trod_struct hu hx
          obtain ⟨ds, hds⟩ := read_fields (P := P) (w := w) (g := DataW.trod enc P w base spare held m) (cs := cs) (fun t cs x sh h1 h2 => read_ok n t sh h1 m cs x h2) fs.toList 0 sh hsh fun f hf => by
            obtain ⟨i, hi, rfl⟩ := List.getElem_of_mem hf
            have h1 := hat i _ (by rw [Array.getElem?_eq_getElem (by simpa using hi)])
            rw [List.getElem?_eq_getElem (by rw [hxl]; simpa using hi)] at h1
            exact ⟨_, by simpa using h1⟩
          refine ⟨ds, ?_⟩
          rw [List.drop_zero, List.take_of_length_le (by rw [hl, hlen]; exact Nat.le_refl _)] at hds
          exact hds
        · cases h
      · cases h
    · cases h
end Go.Ax

/- A statement's row from a contract: what the arguments read as, the listed variables, and what is so behind the call. No condition. -/
namespace Go.Ax
open Go Go.RowKit Go.ChangeShapes Go.WideShapes

section
variable {H : Type} {enc : TypeId × Value → H} {P : Program} {w : World} {base : Nat} {spare : Nat → Bool} {held : Bool}
theorem arg_one {t : TypeId} {v : Value} {d : DataW H} {ps : List MemPlace} (n : Nat) {s : Cs} (hv : v.cells = #[v]) (hsh : shape P n t = some [s]) (h : DataW.Trod enc P w base spare held t v d ps) :
    ∃ x, FitC s x ∧ Ar ⟨wV w, []⟩ (.c (.d x)) v := by
  obtain ⟨fuel, hf⟩ := h
  obtain ⟨ds, h1⟩ := read_ok n t _ hsh fuel _ _ hf
  rw [hv] at h1
  match ds, h1.dr, h1.fit with
  | [x], hd, hfit =>
    cases hd with | cons a _ => cases hfit with | cons b _ => exact ⟨x, b, a⟩
theorem arg_agg {t : TypeId} {cs : Array Value} {d : DataW H} {ps : List MemPlace} (n : Nat) {sh : List Cs} (hsh : shape P n t = some sh) (h : DataW.Trod enc P w base spare held t (.agg cs) d ps) :
    ∃ ds, All2 FitC sh ds ∧ Ar ⟨wV w, []⟩ (.agg (ds.map C.d)) (.agg cs) := by
  obtain ⟨fuel, hf⟩ := h
  obtain ⟨ds, h1⟩ := read_ok n t _ hsh fuel _ _ hf
  refine ⟨ds, h1.fit, cs.toList, by simp, All2.map_left ?_⟩
  exact h1.dr
theorem cells_slice {r : Reach} {b0 : Nat} {t e : TypeId} {v : Value} (ht : P.underlying t = some (.slice e)) (h : Value.okWide P w r b0 t v) : v.cells = #[v] := by
  cases v <;> first | rfl | (simp [Value.okWide, ht, Cell.okWide, Cell.ok] at h)
theorem cells_string {r : Reach} {b0 : Nat} {t : TypeId} {v : Value} (ht : P.underlying t = some .string) (h : Value.okWide P w r b0 t v) : v.cells = #[v] := by
  cases v <;> first | rfl | (simp [Value.okWide, ht, Cell.okWide, Cell.ok] at h)
theorem cells_int {r : Reach} {b0 : Nat} {t : TypeId} {k : IntKind} {v : Value} (ht : P.underlying t = some (.int k)) (h : Value.okWide P w r b0 t v) : v.cells = #[v] := by
  cases v <;> first | rfl | (simp [Value.okWide, ht, Cell.okWide, Cell.ok] at h)
theorem cells_bool {r : Reach} {b0 : Nat} {t : TypeId} {v : Value} (ht : P.underlying t = some .bool) (h : Value.okWide P w r b0 t v) : v.cells = #[v] := by
  cases v <;> first | rfl | (simp [Value.okWide, ht, Cell.okWide, Cell.ok] at h)
end

/-! ### what fits -/
theorem fit_int {k : IntKind} {x : D} (h : FitC (.int k) x) : ∃ n, x = .int k n ∧ (Lit.int k n).wf = true := by cases h; exact ⟨_, rfl, by assumption⟩
theorem fit_bool {x : D} (h : FitC .bool x) : ∃ b, x = .bool b := by cases h; exact ⟨_, rfl⟩
theorem fit_str {x : D} (h : FitC .str x) : ∃ l, x = .str l ∧ l.length ≤ maxLen := by cases h; exact ⟨_, rfl, by assumption⟩
theorem fit_u8 {x : D} (h : FitC (.int .u8) x) : ∃ c : UInt8, x = .int .u8 c.toNat := by
  obtain ⟨n, rfl, hw⟩ := fit_int h
  have hx : 0 ≤ n ∧ n ≤ 255 := by simpa [Lit.wf, IntKind.min, IntKind.max, IntKind.signed, IntKind.bits] using hw
  refine ⟨n.toNat.toUInt8, ?_⟩
  congr 1
  simp; omega
theorem fit_i64 {x : D} (h : FitC (.int .i64) x) : ∃ n : Int, x = .int .i64 n ∧ -9223372036854775808 ≤ n ∧ n ≤ 9223372036854775807 := by
  obtain ⟨n, rfl, hw⟩ := fit_int h
  have hx : -9223372036854775808 ≤ n ∧ n ≤ 9223372036854775807 := by simpa [Lit.wf, IntKind.min, IntKind.max, IntKind.signed, IntKind.bits] using hw
  exact ⟨n, rfl, hx⟩
theorem fit_lst {el : List Cs} {x : D} (h : FitC (.lst el) x) : ∃ els, x = .lst el.length els ∧ ∀ e ∈ els, All2 FitC el e := by
  cases h with
  | lst _ els h1 h2 =>
    refine ⟨els, rfl, fun e he => ?_⟩
    obtain ⟨i, hi, rfl⟩ := List.getElem_of_mem he
    have hg := List.getElem?_eq_getElem hi
    exact All2.of_get (h1 i _ hg).symm fun j s d hs hd => h2 i _ j s d hg hs hd
theorem exists_list {α : Type} {ds : α → List D} : ∀ {els : List (List D)}, (∀ e ∈ els, ∃ x, e = ds x) → ∃ xs : List α, els = xs.map ds
  | [], _ => ⟨[], rfl⟩
  | e :: r, h => by
    obtain ⟨x, rfl⟩ := h e (by simp)
    obtain ⟨xs, rfl⟩ := exists_list (els := r) fun e he => h e (by simp [he])
    exact ⟨x :: xs, rfl⟩

/-! ### flat variables -/
def D.toV : D → Value
  | .int k n => .int k n
  | .bool b => .bool b
  | .str l => .string ⟨l.toArray⟩
  | .raw v => v
  | .lst _ _ => .slice none 0 0
  | .mp _ _ => .map none
def D.flat : D → Bool
  | .int _ _ | .bool _ | .str _ => true
  | _ => false
theorem D.dr {V : Vw} : ∀ {x : D}, x.flat = true → Dr V x x.toV
  | .int k n, _ => .int k n
  | .bool b, _ => .bool b
  | .str l, _ => .str l
  | .raw _, h => by cases h
  | .lst _ _, h => by cases h
  | .mp _ _, h => by cases h
def Lit.toV : Lit → List Value
  | .bool b => [.bool b]
  | .int k n => [.int k n]
  | .string l => [.string ⟨l.toArray⟩]
  | _ => []
def flatV {H : Type} : Nat → DataW H → List Value
  | 0, _ => []
  | _ + 1, .lit l => Lit.toV l
  | n + 1, .agg ps => ps.flatMap (flatV n)
  | _, _ => []
def flatFs (P : Program) (r : TypeId → Bool) : List Field → Nat → Option Nat
  | [], off => some off
  | f :: fs, off => if f.offset = off ∧ r f.type = true then flatFs P r fs (off + P.cellsOf f.type) else none
def flatT (P : Program) : Nat → TypeId → Bool
  | 0, _ => false
  | n + 1, t => match P.underlying t with
    | some .bool => true
    | some (.int _) => true
    | some .string => true
    | some (.struct fs) => flatFs P (flatT P n) fs.toList 0 == some (P.cellsOf t)
    | some (.array m e) => flatT P n e && (m * P.cellsOf e == P.cellsOf t)
    | _ => false

section
variable {H : Type} {enc : TypeId × Value → H} {P : Program} {w : World} {base : Nat} {spare : Nat → Bool} {held : Bool}
theorem flat_fields {r : TypeId → Bool} {n : Nat} {g : TypeId → List Value → Option (DataW H × List MemPlace)} {cs : List Value} (hr : ∀ t cs x, r t = true → g t cs = some x → cs = flatV n x.1) :
    ∀ (fs : List Field) (off : Nat) (e : Nat) (xs : List (DataW H × List MemPlace)), flatFs P r fs off = some e → xs.length = fs.length → (∀ (i : Nat) (f : Field), fs[i]? = some f → g f.type ((cs.drop f.offset).take (P.cellsOf f.type)) = xs[i]?) →
      off ≤ e ∧ (cs.drop off).take (e - off) = xs.flatMap fun x => flatV n x.1
  | [], off, e, xs, h, hl, _ => by
    cases h
    match xs, hl with
    | [], _ => simp
  | f :: fs, off, e, xs, h, hl, hx => by
    unfold flatFs at h
    split at h
    · next hc =>
      match xs, hl with
      | x :: xs, hl =>
        have h1 := hx 0 f rfl
        simp only [List.getElem?_cons_zero] at h1
        have h2 := hr _ _ _ hc.2 h1
        obtain ⟨h3, h4⟩ := flat_fields hr fs _ e xs h (by simpa using hl) fun i f' hf' => by simpa using hx (i + 1) f' (by simpa using hf')
        refine ⟨by omega, ?_⟩
        rw [List.flatMap_cons, ← h2, ← h4, hc.1, show e - off = P.cellsOf f.type + (e - (off + P.cellsOf f.type)) by omega, List.take_add, List.drop_drop]
    · cases h

theorem flat_ok : ∀ (n : Nat) (t : TypeId), flatT P n t = true → ∀ (fuel : Nat) (cs : List Value) (x : DataW H × List MemPlace), DataW.trod enc P w base spare held fuel t cs = some x → cs = flatV n x.1
  | 0, _, h, _, _, _, _ => by cases h
  | n + 1, t, h, fuel, cs, x, hx => by
    unfold flatT at h
    split at h
    · next hu => obtain ⟨b, rfl, rfl⟩ := DataW.trod_bool hu hx; rfl
    · next k hu => obtain ⟨m, rfl, rfl, hw⟩ := DataW.trod_int hu hx; rfl
    · next hu =>
      obtain ⟨s, rfl, rfl, hs⟩ := DataW.trod_string hu hx
      simp only [flatV, Lit.toV]
    · next fs hu =>
      obtain ⟨xs, m, rfl, rfl, hlen, hxl, hat⟩ := DataW.trod_struct hu hx
      have h' : flatFs P (flatT P n) fs.toList 0 = some (P.cellsOf t) := by simpa using h
      obtain ⟨_, h2⟩ := flat_fields (n := n) (g := DataW.trod enc P w base spare held m) (cs := cs) (fun t cs x h1 h2 => flat_ok n t h1 m cs x h2) fs.toList 0 _ xs h' (by simpa using hxl) fun i f hf => hat i f (by simpa using hf)
      rw [List.drop_zero, Nat.sub_zero, List.take_of_length_le (by omega)] at h2
      simp only [flatV]
      rw [h2, List.flatMap_map]
    · next m e hu =>
      obtain ⟨xs, q, rfl, rfl, hlen, hxl, hat⟩ := DataW.trod_array hu hx
      simp only [Bool.and_eq_true, beq_iff_eq] at h
      have key : ∀ (k : Nat), k ≤ m → cs.take (k * P.cellsOf e) = (xs.take k).flatMap fun x => flatV n x.1 := by
        intro k
        induction k with
        | zero => intro _; simp
        | succ k ih =>
          intro hk
          have hkx : k < xs.length := by omega
          have h1 := hat k (by omega)
          rw [List.getElem?_eq_getElem hkx] at h1
          have h2 := flat_ok n e h.1 q _ _ h1
          rw [take_next hkx, List.flatMap_append, ← ih (by omega), Nat.succ_mul, List.take_add]
          simp only [List.flatMap_cons, List.flatMap_nil, List.append_nil]
          rw [← h2]
      have := key m (Nat.le_refl _)
      rw [List.take_of_length_le (by rw [hlen, h.2]; exact Nat.le_refl _), List.take_of_length_le (by omega)] at this
      simp only [flatV]
      rw [List.flatMap_map]; exact this
    · cases h
end

/-- A listed variable of plain cells: its cells stand in its block. -/
theorem glob_flat {P : Program} {W : World} {name : String} {dat : DataW Unit} {g : Nat} {t : TypeId} {ds : List D} (n : Nat) (hg : P.globalNamed name = some g) (ht : (P.globals[g]?).map (·.type) = some t) (hfl : flatT P n t = true)
    (hds : flatV n dat = ds.map D.toV) (hf : ds.all D.flat = true) (h : ∃ ps, DataW.LaidVars P W [(name, dat)] ps) : Gp ⟨wV W, []⟩ (g, ds) := by
  obtain ⟨ps, g', t', cs, fuel, p, q, h1, h2, h3, h4, _⟩ := h
  rw [hg] at h1; cases h1
  rw [ht] at h2; cases h2
  have e := flat_ok n t hfl fuel _ _ h4
  simp only [hds] at e
  unfold World.var? at h3
  rw [hg] at h3
  simp only [Option.bind_some] at h3
  split at h3
  · next c tt fr hh =>
    cases h3
    refine ⟨⟨⟨g, 0, none⟩, fun j => (cs.toList.getD j undef), rfl, fun j c hj => ?_⟩, cs, tt, fr, hh, by simpa using congrArg List.length e⟩
    have hlt := getElem?_lt hj
    have hjv : cs.toList[j]? = some c.toV := by rw [e, List.getElem?_map, hj]; rfl
    have hget : cs.toList.getD j undef = c.toV := by rw [List.getD_eq_getElem?_getD, hjv]; rfl
    refine ⟨?_, ?_⟩
    · rw [add_plain]
      simp only [cellIn, wV, hh, Nat.zero_add]
      have : cs[j]? = some c.toV := by simpa using hjv
      rw [hget]; simpa using this
    · show Dr (wV W) c (cs.toList.getD j undef)
      rw [hget]
      exact D.dr (by rw [List.all_eq_true] at hf; exact hf c (List.mem_of_getElem? hj))
  · cases h3

theorem viewOk_world {Γ : List (Nat × List D)} {W : World} (hg : ∀ p, p ∈ Γ → Gp ⟨wV W, []⟩ p) : ViewOk Γ (wV W) W :=
  ⟨fun _ _ h => h, fun _ h => h, hg⟩

theorem trodAll_carry {H : Type} {enc : TypeId × Value → H} {P : Program} (hl : laidOutB P = true) {W W' : World} (hb : Below W.heap.size W W') : ∀ {ts : List TypeId} {vs : List Value} {ds : List (DataW H)} {ps : List MemPlace},
    (∀ t ∈ ts, P.readableRec t = true ∧ t < P.types.size) → DataW.TrodAll enc P W 0 (fun _ => true) true ts vs ds ps → (∀ x ∈ ps, x.block < W.heap.size) → DataW.TrodAll enc P W' 0 (fun b => decide (b < W.heap.size)) true ts vs ds ps
  | [], [], [], ps, _, h, _ => h
  | t :: ts, v :: vs, d :: ds, ps, hr, h, hlt => by
    obtain ⟨p, q, h1, h2, rfl⟩ := h
    exact ⟨p, q, Below.trod hl (hr t (by simp)).1 (hr t (by simp)).2 h1 hb (fun x hx => hlt x (by simp [hx])), trodAll_carry hl hb (fun t ht => hr t (by simp [ht])) h2 (fun x hx => hlt x (by simp [hx])), rfl⟩
  | [], _ :: _, _, _, _, h, _ => h.elim
  | [], [], _ :: _, _, _, h, _ => h.elim
  | _ :: _, [], _, _, _, h, _ => h.elim
  | _ :: _, _ :: _, [], _, _, h, _ => h.elim

theorem ok_bool {P : Program} {W' : World} {t : TypeId} (ht : P.underlying t = some .bool) (b : Bool) : Value.okWide P W' .any 0 t (.bool b) := by
  simp [Value.okWide, ht, Cell.okWide, Cell.ok]

/-- FROM A CONTRACT TO A LAW's ROW: the call returns true, and each argument reads as it did. -/
theorem law_post {H : Type} {enc : TypeId × Value → H} {P : Program} {f : FuncId} {fn : Func} {s : ChangeSpec} {Γ : List (Nat × List D)} {args' : List AV} {W : World} {args : Array Value} {ds gs : List (DataW H)} {before : List MemPlace} {tb : TypeId}
    (hW : DataW.Whole enc P fn.params.toList s.vars false W args.toList ds gs before) (hv : s.vars = []) (hres : fn.resultTypes = #[tb]) (htb : P.underlying tb = some .bool)
    (hfn : s.fn H ds = { results := [.lit (.bool true)], args := ds }) (hl : laidOutB P = true) (hr : ∀ t ∈ fn.params.toList, P.readableRec t = true ∧ t < P.types.size)
    (hA : AFn P Γ f args' [.d (.bool true)]) (hΓ : ViewOk Γ (wV W) W) (hargs : All2 (Ar ⟨wV W, []⟩) args' args.toList) :
    Calls P f args W fun e W' => ∃ v, e = .returned v ∧ s.post enc P fn false true false false W args v W' := by
  have hcall := hA.run (wV W) W args.toList hΓ hargs
  rw [show args.toList.toArray = args by simp] at hcall
  refine hcall.mono fun e W' ⟨V', vs, he, hle, hview, himm, hrs, hb⟩ => ?_
  have hvs : vs = [.bool true] := by
    cases hrs with
    | cons h1 h2 => cases h2; rw [dr_bool h1]
  subst hvs
  subst he
  have hW0 := hW
  obtain ⟨p, q, hA0, hV, rfl, hfz, hnd⟩ := hW
  rw [hv] at hV
  obtain ⟨rfl, rfl⟩ := trodVars_none hV
  have hlt : ∀ x ∈ p, x.block < W.heap.size := fun x hx => hW0.lt x (by simpa using hx)
  refine ⟨_, rfl, ds, [], p ++ [], [], p, [], hW0, ?_, ?_, ?_, World.keptBut_mono (fun p' hp => ⟨hp, ?_⟩) (hb.frame (· ∈ p ++ [])), fun h => (by cases h)⟩
  all_goals simp only [List.append_nil] at *
  · rw [hfn, hres]
    exact trodAll_cons_mk (shut_bool htb true) trodAll_mk0
  · rw [hfn]
    exact trodAll_carry hl hb hr hA0 hlt
  · rw [hfn, hv]; rfl
  · exact Or.inr (by simpa using hp)
end Go.Ax

/- A string turned into a list of bytes. No condition. -/
namespace Go.Ax
open Go Go.RowKit Go.Lib
def byD (c : UInt8) : List D := [.int .u8 c.toNat]
attribute [push_cast] byD
def strB (P : Program) (t : TypeId) : Bool := match P.underlying t with | some .string => true | _ => false
def bysT (P : Program) (t : TypeId) : Bool := match P.underlying t with
  | some (.slice e) => match P.underlying e with
    | some (.int .u8) => true
    | _ => false
  | _ => false
theorem strB_ok {P : Program} {t : TypeId} (h : strB P t = true) : P.underlying t = some .string := by
  unfold strB at h
  split at h
  · assumption
  · cases h
theorem bysT_ok {P : Program} {t : TypeId} (h : bysT P t = true) : ∃ e, P.underlying t = some (.slice e) ∧ P.underlying e = some (.int .u8) := by
  unfold bysT at h
  split at h
  · next e he =>
    split at h
    · next h2 => exact ⟨e, he, h2⟩
    · cases h
  · cases h
section
variable {P : Program} {pm : Pm} {h : List LB} {ρ : Operand → AV} {dst : Option Tmp} {ty : TypeId} {p : String} {af : Array Edge} {gd : Option (Nat × Bool)}
theorem q_rune {src d' : TypeId} {x : Operand} {kd : IntKind} {n : Int} (hx : ρ x = .c (.d (.int kd n))) (hs : (P.underlying src).isSome = true) (hd : strB P d' = true) :
    Still P h ⟨dst, .convert src d' x, ty, p, af, gd⟩ ρ (.c (.d (.str (encodeRune n)))) := by
  intro cx G w a s ho
  have h1 := ar_int (hx ▸ ho x (by simp [Op.operands]))
  refine ⟨.string (Utf8.encode n), ?_, ?_⟩
  · have := run_convert_int_string (P := P) w src d' kd n hs (strB_ok hd)
    simp only [execOp, h1, Sem.run_bind, this, Result.andThen_ok, Sem.run_pure]
  · rw [encode_str]; exact Dr.str _
theorem q_bytes {src d' : TypeId} {x : Operand} {l : List UInt8} (hx : ρ x = .c (.d (.str l))) (hs : strB P src = true) (hd : bysT P d' = true) (hl : l.length ≤ 16777216) :
    Qt P pm h ⟨dst, .convert src d' x, ty, p, af, gd⟩ ρ (.c (.d (.lst 1 (l.map byD)))) := by
  intro cx G w a _ s ho next Q hnext
  obtain ⟨e, he, h8⟩ := bysT_ok hd
  have h1 : a.eval x = .string ⟨l.toArray⟩ := ar_str (hx ▸ ho x (by simp [Op.operands]))
  have hrun := Go.Lib.run_convert_string_bytes (P := P) w src d' e ⟨l.toArray⟩ (strB_ok hs) he h8
  have hsz : (⟨l.toArray⟩ : ByteArray).size = l.length := rfl
  have hr : (execOp a.eval ⟨dst, .convert src d' x, ty, p, af, gd⟩).run P w = .ok (.value (.slice (some ⟨w.heap.size, 0, none⟩) l.length (grownCap w l.length 0 e))) (bytesWorld w e ⟨l.toArray⟩) := by
    simp only [execOp, h1, Sem.run_bind, hrun, Result.andThen_ok, Sem.run_pure, hsz]
  unfold Oper.wp
  rw [hr]
  have hb : Below w.heap.size w (bytesWorld w e ⟨l.toArray⟩) := ⟨rfl, rfl, rfl, by rw [bytesWorld_size]; omega, fun k hk => bytesWorld_at_old w e _ k hk⟩
  have s' : SatH cx G h (bytesWorld w e ⟨l.toArray⟩) := s.later hb
  have hH : G.V.H w.heap.size = none := (s.alloc (.cells #[] e)).2.1
  have hne := (s.alloc (.cells #[] e)).2.2
  have hnew := bytesWorld_at_new w e ⟨l.toArray⟩
  generalize hob : Obj.cells (bytesCells w e ⟨l.toArray⟩) e ((bytesCells w e ⟨l.toArray⟩).size, (bytesCells w e ⟨l.toArray⟩).size + 1) = ob at hnew
  let V' : Vw := ⟨fun b => if b = w.heap.size then some ob else G.V.H b, fun b => G.V.I b ∨ b = w.heap.size⟩
  have hV : G.V.Le V' := ⟨fun b o e => by
    have : b ≠ w.heap.size := fun e' => by rw [e', hH] at e; cases e
    simp only [V', if_neg this, e], fun b hb => .inl hb⟩
  have hG : GLe G.g.length G ⟨V', G.g⟩ := ⟨hV, fun i v n _ e => ⟨v, n, e, Nat.le_refl _, fun _ => rfl, fun _ => ⟨rfl, rfl⟩⟩⟩
  refine hnext _ _ ⟨V', G.g⟩ hG ⟨s'.len, fun i b e hi he => ?_, s'.sep, fun b o hb => ?_, fun b hb => ?_, s'.below, s'.ext.trans (hG.all _), fun q hq => (s'.glob q hq).grow hG, s'.sz⟩ ?_
  · have h0 := s'.ent i b e hi he
    refine Lr.mono' hG ?_ h0
    intro k hlv hk
    have := hne i b e hi hlv he
    have hkn : k ≠ w.heap.size := fun e' => this (by rw [hk, e'])
    simp only [V', if_neg hkn]
    exact (h0.blk hlv hk).2.2
  · simp only [V'] at hb
    split at hb
    · next e => cases hb; rw [e]; exact hnew
    · exact s'.view b o hb
  · rcases hb with hb | rfl
    · obtain ⟨⟨o, h1⟩, h2⟩ := s'.imm b hb
      exact ⟨⟨o, hV.H b o h1⟩, h2⟩
    · exact ⟨⟨ob, by simp [V']⟩, .inr s.below.size⟩
  · show Dr V' _ _
    have key : Dr V' (.lst 1 (l.map byD)) (.slice (some ⟨w.heap.size, 0, none⟩) (l.map byD).length (grownCap w l.length 0 e)) := by
      refine .lst 1 (l.map byD) _ _ (fun i _ => .int .u8 (l.getD i 0).toNat) (by rw [List.length_map]; exact grownCap_ge w _ 0 e) (grownCap_le_maxLen w _ 0 e (by unfold maxLen; omega)) (fun x hx => ?_) (fun hn => ⟨_, rfl, .inr rfl, fun i x j c h1 h2 => ?_⟩) (fun i x j c h1 h2 => ?_)
      · obtain ⟨c, _, rfl⟩ := List.mem_map.1 hx; rfl
      · have hil : i < l.length := by have := getElem?_lt h1; simpa using this
        simp only [List.getElem?_map, List.getElem?_eq_getElem hil, Option.map_some, Option.some.injEq] at h1
        subst h1
        have hj : j = 0 := by
          cases j with
          | zero => rfl
          | succ j => simp [byD] at h2
        subst hj
        rw [add_plain]
        have hcell := bytesWorld_cell w e ⟨l.toArray⟩ i hil
        rw [show 0 + (i * 1 + 0) = i by omega]
        have e1 : cellIn V'.H ⟨w.heap.size, i, none⟩ = (bytesWorld w e ⟨l.toArray⟩).cell? ⟨w.heap.size, i, none⟩ := by
          rw [← cellIn_world]
          simp only [cellIn, V', if_true, hnew]
        rw [e1, hcell]
      · have hil : i < l.length := by have := getElem?_lt h1; simpa using this
        simp only [List.getElem?_map, List.getElem?_eq_getElem hil, Option.map_some, Option.some.injEq] at h1
        subst h1
        have hj : j = 0 := by
          cases j with
          | zero => rfl
          | succ j => simp [byD] at h2
        subst hj
        simp only [byD, List.getElem?_cons_zero, Option.some.injEq] at h2
        subst h2
        have : l.getD i 0 = l[i] := by simp [List.getElem?_eq_getElem hil]
        rw [this]
        exact .int _ _
    rw [List.length_map] at key
    exact key
end
end Go.Ax
