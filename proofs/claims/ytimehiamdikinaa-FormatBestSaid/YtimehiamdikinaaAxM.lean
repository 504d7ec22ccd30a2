/-
  A function's body proves its contract; a call by its contract; a call walked in place. No condition.
-/
import Derived.Test.YtimehiamdikinaaAxL
set_option linter.all false
namespace Go.Ax
open Go Go.RowKit

variable {P : Program} {Γ : List (Nat × List D)}

theorem cellD_ok {cx : Cx} {G : Gh} {h : List LB} {w : World} (s : SatH cx G h w) {V : Vw} (hV : cx.G0.V = V) (hS : cx.S = V.I) (h0 : ViewOk cx.pm.Γ V cx.w0) {fr : Option Nat} {fb : Option Nat} (hfb : ∀ b, fb = some b → G.V.H b = none)
    (hfr : ∀ b, fb = some b → ∃ i lb e, fr = some i ∧ h[i]? = some lb ∧ lb.live ∧ G.g[i]? = some e ∧ blkOf e.1 = some b) {c : C} {x : D} (hc : cellD fr h c = some x) {v : Value} (hv : Cr G c v) : Dr (exitV V cx.w0.heap.size fb w) x v := by
  cases c with
  | d y => cases hc; exact exit_dr s hV hS h0 fb hfb hv
  | own i ver =>
    simp only [cellD] at hc
    split at hc
    · next t sz els v' hi =>
      split at hc
      · next hcond =>
        cases hc
        obtain ⟨rfl, hne⟩ := hcond
        refine exit_own s hV hS h0 fb hfb hi hv fun b hb hob => ?_
        obtain ⟨i', lb, e, q1, q2, q3, q4, q5⟩ := hfr b hb
        obtain ⟨v0, xs, hg, how, _⟩ := row_at s hi
        obtain ⟨_, v0', n', hg', _, hx⟩ := hv
        rw [hg] at hg'
        cases hg'
        have := hx rfl
        subst this
        have := s.sep i i' _ lb _ e b hi q2 trivial q3 hg q4 ((row_form how).2.2.1 b hob) q5
        exact hne (by rw [q1, this])
      · cases hc
    · cases hc
  | _ => cases hc

theorem rvOf_ok {cx : Cx} {G : Gh} {h : List LB} {w : World} (s : SatH cx G h w) {V : Vw} (hV : cx.G0.V = V) (hS : cx.S = V.I) (h0 : ViewOk cx.pm.Γ V cx.w0) {fr : Option Nat} {fb : Option Nat} (hfb : ∀ b, fb = some b → G.V.H b = none)
    (hfr : ∀ b, fb = some b → ∃ i lb e, fr = some i ∧ h[i]? = some lb ∧ lb.live ∧ G.g[i]? = some e ∧ blkOf e.1 = some b) (hfr' : ∀ i e b, fr = some i → G.g[i]? = some e → blkOf e.1 = some b → fb = some b)
    {α : AV} {r : RV} (hc : rvOf fr h α = some r) {v : Value} (hv : Ar G α v) : Rr (exitV V cx.w0.heap.size fb w) w cx.w0.heap.size r v := by
  cases α with
  | any => cases hc
  | tup vs => cases hc
  | c c =>
    simp only [rvOf] at hc
    split at hc
    · next x hx => cases hc; exact cellD_ok s hV hS h0 hfb hfr hx hv
    · split at hc
      · next i ver _ =>
        split at hc
        · next t sz els v' hi =>
          split at hc
          · next hcond =>
            cases hc
            obtain ⟨rfl, hi'⟩ := hcond
            obtain ⟨v0, xs, hg, how, hob, hd, hl⟩ := row_at s hi
            obtain ⟨_, v0', n', hg', _, hx⟩ := (hv : Cr G (.own i v') v)
            rw [hg] at hg'
            cases hg'
            have := hx rfl
            subst this
            refine ⟨xs, how, fun b hb => ?_, hd.imp fun _ _ hdd => exit_dr s hV hS h0 fb hfb hdd, hl⟩
            have := hfr' i _ b hi' hg ((row_form how).2.2.1 b hb)
            simp [exitV, this]
          · cases hc
        · cases hc
      · cases hc
  | agg cs =>
    simp only [rvOf] at hc
    cases e : cellDs fr h cs with
    | none => simp [e] at hc
    | some ds =>
      simp [e] at hc
      subst hc
      obtain ⟨vs, rfl, hcs⟩ := hv
      refine ⟨vs, rfl, ?_⟩
      induction hcs generalizing ds with
      | nil => cases e; exact .nil
      | cons hh ht ih =>
        simp only [cellDs] at e
        split at e
        · next x l h1 h2 => cases e; exact .cons (cellD_ok s hV hS h0 hfb hfr h1 hh) (ih _ h2)
        · cases e

/-- The end of a function: its results read so. -/
def Fin (P : Program) (res : List ResultVar) (fr : Option Nat) (rs : List RV) : Exit → St → Prop := fun e st =>
  (e = .ret ∨ e = .normal) ∧ ∃ αs, resAVs P st res = some αs ∧ rvsOf fr st.heap αs = some rs

theorem rvsOf_ok {cx : Cx} {G : Gh} {h : List LB} {w : World} (s : SatH cx G h w) {V : Vw} (hV : cx.G0.V = V) (hS : cx.S = V.I) (h0 : ViewOk cx.pm.Γ V cx.w0) {fr : Option Nat} {fb : Option Nat} (hfb : ∀ b, fb = some b → G.V.H b = none)
    (hfr : ∀ b, fb = some b → ∃ i lb e, fr = some i ∧ h[i]? = some lb ∧ lb.live ∧ G.g[i]? = some e ∧ blkOf e.1 = some b) (hfr' : ∀ i e b, fr = some i → G.g[i]? = some e → blkOf e.1 = some b → fb = some b) :
    ∀ (αs : List AV) (rs : List RV) (vs : List Value), rvsOf fr h αs = some rs → All2 (Ar G) αs vs → All2 (Rr (exitV V cx.w0.heap.size fb w) w cx.w0.heap.size) rs vs
  | [], rs, vs, hc, hv => by cases hc; cases hv; exact .nil
  | α :: αs, rs, vs, hc, hv => by
    cases hv with
    | cons h1 h2 =>
      simp only [rvsOf] at hc
      split at hc
      · next x l q1 q2 => cases hc; exact .cons (rvOf_ok s hV hS h0 hfb hfr hfr' q1 h1) (rvsOf_ok s hV hS h0 hfb hfr hfr' αs l _ q2 h2)
      · cases hc

theorem exit_after {cx : Cx} {G : Gh} {st : St} {a : Act} {w : World} (s : Sat cx G st a w) {V : Vw} (hV : cx.G0.V = V) (hS : cx.S = V.I) (h0 : ViewOk cx.pm.Γ V cx.w0) {fr : Option Nat} (hlive : ∀ i, fr = some i → ∃ lb, st.heap[i]? = some lb ∧ lb.live)
    {αs : List AV} {rs : List RV} {vs : List Value} (hr : rvsOf fr st.heap αs = some rs) (hv : All2 (Ar G) αs vs) : After V cx.w0 rs (.returned (tupV vs)) w := by
  obtain ⟨fb, hfb, hfr, hfr'⟩ : ∃ fb : Option Nat, (∀ b, fb = some b → G.V.H b = none) ∧ (∀ b, fb = some b → ∃ i lb e, fr = some i ∧ st.heap[i]? = some lb ∧ lb.live ∧ G.g[i]? = some e ∧ blkOf e.1 = some b) ∧
      (∀ i e b, fr = some i → G.g[i]? = some e → blkOf e.1 = some b → fb = some b) := by
    cases fr with
    | none => exact ⟨none, fun b h => (by cases h), fun b h => (by cases h), fun i e b h => (by cases h)⟩
    | some i =>
      obtain ⟨lb, h1, h2⟩ := hlive i rfl
      obtain ⟨e, h3, h4⟩ := s.h.entry h1
      refine ⟨blkOf e.1, fun b hb => (h4.blk h2 hb).2.2, fun b hb => ⟨i, lb, e, rfl, h1, h2, h3, hb⟩, fun i' e' b q1 q2 q3 => ?_⟩
      cases q1
      rw [h3] at q2
      cases q2
      exact q3
  have hfbb : ∀ b, fb = some b → cx.w0.heap.size ≤ b := fun b hb => by
    obtain ⟨i, lb, e, _, q2, q3, q4, q5⟩ := hfr b hb
    exact ((s.h.ent i lb e q2 q4).blk q3 q5).1
  refine ⟨exitV V cx.w0.heap.size fb w, vs, rfl, ⟨fun b o ho => ?_, fun b hb => ?_⟩, fun b o ho => ?_, fun b hb => ?_, rvsOf_ok s.h hV hS h0 hfb hfr hfr' αs rs vs hr hv, s.h.below⟩
  · have hlt := heap_lt (h0.view b o ho)
    have hne : ¬ (some b = fb) := fun e => by have := hfbb b e.symm; omega
    simp only [exitV, if_neg hne]
    rw [if_neg (by omega)]
    exact ho
  · obtain ⟨o, ho⟩ := h0.imm b hb
    have hlt := heap_lt (h0.view b o ho)
    exact ⟨fun e => by have := hfbb b e.symm; omega, .inl hb⟩
  · simp only [exitV] at ho
    split at ho
    · cases ho
    · split at ho
      · exact ho
      · next hlt =>
        rw [s.h.below.block b (by omega)]
        exact h0.view b o ho
  · obtain ⟨h1, h2⟩ := hb
    refine ⟨?_, h2.imp id fun h => h.1⟩
    simp only [exitV, if_neg h1]
    split
    · next hge =>
      rcases h2 with h2 | h2
      · obtain ⟨o, ho⟩ := h0.imm b h2
        have hlt := heap_lt (h0.view b o ho)
        omega
      · exact ⟨_, Array.getElem?_eq_getElem h2.2⟩
    · next hlt =>
      rcases h2 with h2 | h2
      · exact h0.imm b h2
      · omega

theorem AFn.of_body {f : FuncId} {fn : Func} {c : Code} {args : List AV} {rs : List RV} (hf : P.funcs[f]? = some fn) (hname : (fn.name == "runtime.NumGoroutine") = false) (hb : fn.body = some c) (hN : args.length ≤ fn.ntmps) (fr : Option Nat)
    (hfr : ∀ i (st : St) (αs : List AV), fr = some i → rvsOf fr st.heap αs = some rs → ∃ lb, st.heap[i]? = some lb ∧ lb.live)
    (h : AXc P ⟨0, fn.ntmps, Γ⟩ c ⟨envOf args 0, []⟩ (Fin P fn.results.toList fr rs)) : AFn P Γ f args rs := by
  refine ⟨⟨fn, hf, hname, by rw [hb]; rfl⟩, fun V w vals h0 hargs => ?_⟩
  refine calls_of_wp hf hb ?_
  have hl := hargs.length
  let cx : Cx := ⟨⟨0, fn.ntmps, Γ⟩, w, V.I, ⟨V, []⟩⟩
  have sat : Sat cx ⟨V, []⟩ ⟨envOf args 0, []⟩ { tmps := vals.toArray ++ Array.replicate (fn.ntmps - vals.toArray.size) undef, defers := [] } w := by
    refine ⟨⟨rfl, fun i b e hi => by simp at hi, fun i j bi bj ei ej k hi => by simp at hi, h0.view, fun b hb => ⟨h0.imm b hb, .inl hb⟩, .refl _ _, .refl _ _, h0.glob⟩, envOf_ok hargs _, ?_, rfl⟩
    · simp [cx]; omega
  refine wp_mono (h cx ⟨V, []⟩ _ w rfl sat) ?_
  rintro e a' w' ⟨G', st', s', he, αs, h1, h2⟩
  obtain ⟨vs, hres, hvs⟩ := run_results s' h1
  have hafter : After V cx.w0 rs (.returned (tupV vs)) w' := exit_after s' rfl rfl h0 (fun i hi => hfr i st' αs hi h2) h2 hvs
  rcases he with rfl | rfl
  · exact ⟨s'.defers, _, hres, hafter⟩
  · exact ⟨s'.defers, _, hres, hafter⟩

/-! ### calls -/
/-- A value that reads so here reads so for a callee. -/
def ArgOk (pm : Pm) (h : List LB) (α α' : AV) : Prop :=
  ∀ (cx : Cx) (G : Gh) (w : World) (v : Value), cx.pm = pm → SatH cx G h w → Ar G α v → Ar ⟨⟨fun b => w.heap[b]?, G.V.I⟩, []⟩ α' v

theorem SatH.le {cx : Cx} {G : Gh} {h : List LB} {w : World} (s : SatH cx G h w) : G.V.Le ⟨fun b => w.heap[b]?, G.V.I⟩ := ⟨s.view, fun _ h => h⟩

theorem ArgOk.d {pm : Pm} {h : List LB} {x : D} : ArgOk pm h (.c (.d x)) (.c (.d x)) := fun _ _ _ _ _ s hv => Dr.mono s.le hv
theorem ArgOk.agg {pm : Pm} {h : List LB} {cs : List C} {ds : List D} (hc : toDs cs = some ds) : ArgOk pm h (.agg cs) (.agg (ds.map C.d)) := fun _ _ _ _ _ s hv => by
  obtain ⟨vs, rfl, hvs⟩ := hv
  rw [toDs_ok _ _ hc] at hvs
  have h1 := (all2_dr hvs).imp fun _ _ hd => hd.mono s.le
  exact ⟨vs, rfl, All2.map_left (f := C.d) (R := Cr _) h1⟩
theorem ArgOk.bor {pm : Pm} {h : List LB} {α : AV} {sz : Nat} {els : List (List D)} (hα : elsOf h α = some (sz, els)) : ArgOk pm h α (.c (.bor sz els)) := fun _ _ _ _ _ s hv => by
  obtain ⟨A, cap, u, h1, h2, h3, h4, h5, h6⟩ := (slAt_of s hα hv).form
  exact ⟨A, cap, u, h1, h2, h3, h4, fun hn => by obtain ⟨ad, e, hc⟩ := h5 hn; exact ⟨ad, e, hc⟩, fun i e j c a b => (h6 i e j c a b).mono s.le⟩
theorem ArgOk.nil_bor {pm : Pm} {h : List LB} {sz : Nat} : ArgOk pm h (.c (.d (.raw (.slice none 0 0)))) (.c (.bor sz [])) := fun _ _ _ _ _ _ hv => by
  have := ar_raw hv
  subst this
  exact ⟨none, 0, fun _ _ => undef, rfl, by simp, by simp, by simp, by simp, by simp⟩
theorem ArgOk.nil_lst {pm : Pm} {h : List LB} {sz : Nat} : ArgOk pm h (.c (.d (.raw (.slice none 0 0)))) (.c (.d (.lst sz []))) := fun _ _ _ _ _ _ hv => by
  have := ar_raw hv
  subst this
  exact Dr.lst sz [] none 0 (fun _ _ => undef) (by simp) (by simp) (by simp) (by simp) (by simp)
theorem ArgOk.ptr {pm : Pm} {h : List LB} {α : AV} {cs : List C} {ds : List D} (hα : cellsAt h α = some cs) (hc : toDs cs = some ds) : ArgOk pm h α (.c (.ptr ds)) := fun _ _ _ _ _ s hv => by
  obtain ⟨ad, vs, rfl, hvs, hcell⟩ := (ptAt_of s hα hv).form
  rw [toDs_ok _ _ hc] at hvs
  have hd := all2_dr hvs
  refine ⟨ad, fun j => vs.getD j undef, rfl, fun j c hj => ?_⟩
  obtain ⟨u, hu, hdu⟩ := hd.get j c hj
  have := hcell j u hu
  rw [← cellIn_world] at this
  simp only [List.getD, hu, Option.getD_some]
  exact ⟨this, hdu.mono s.le⟩
theorem ArgOk.fn {pm : Pm} {h : List LB} {R : Vw → Value → Prop} : ArgOk pm h (.c (.fn R)) (.c (.fn R)) := fun _ _ _ _ _ s hv => ⟨hv.1, fun V' hV => hv.2 V' (s.le.trans hV)⟩

/-- What a function value is good for: called with arguments that read so it gives results that read so. -/
def FnSpec (P : Program) (Γ : List (Nat × List D)) (F : List AV → List RV → Prop) : Vw → Value → Prop := fun V v =>
  ∃ (f : FuncId) (caps : Array Value), v = .func (.func f) #[] caps ∧ CallOk P f ∧ ∀ args rs, F args rs → ∀ (V2 : Vw) (w : World) (vals : List Value), V.Le V2 → ViewOk Γ V2 w → All2 (Ar ⟨V2, []⟩) args vals → Calls P f (vals.toArray ++ caps) w (After V2 w rs)

/-- A closure over boxes that hold closed data is good for what its contract says. -/
theorem ArgOk.clo {pm : Pm} {h : List LB} {f : FuncId} {caps : List Nat} {F : List AV → List RV → Prop} {dss : List (List D)} (hcall : CallOk P f) (hcaps : (caps.map fun i => ((h[i]?).bind fun | .box _ cs => toDs cs | _ => none)) = dss.map some)
    (hF : ∀ args rs, F args rs → AFn P Γ f (args ++ dss.map fun ds => .c (.ptr ds)) rs) : ArgOk pm h (.c (.clo f caps)) (.c (.fn (FnSpec P Γ F))) := by
  intro cx G w v _ s hv
  obtain ⟨bs, rfl, hbs⟩ := hv
  refine ⟨rfl, fun V1 hV1 => ⟨f, _, rfl, hcall, fun args rs hf V2 w2 vals hV2 hview hargs => ?_⟩⟩
  have key : ∀ (caps bs : List Nat) (dss : List (List D)), All2 (fun i b => ∃ n, G.g[i]? = some (.pointer (some ⟨b, 0, none⟩), n)) caps bs → (caps.map fun i => ((h[i]?).bind fun | .box _ cs => toDs cs | _ => none)) = dss.map some →
      All2 (Ar ⟨V2, []⟩) (dss.map fun ds => .c (.ptr ds)) (bs.map fun b => Value.pointer (some ⟨b, 0, none⟩)) := by
    intro caps bs dss hh
    induction hh generalizing dss with
    | nil => intro e; cases dss with
      | nil => exact .nil
      | cons => simp at e
    | @cons i b caps bs h1 h2 ih =>
      intro e
      cases dss with
      | nil => simp at e
      | cons ds dss =>
        simp only [List.map_cons, List.cons.injEq] at e
        refine .cons ?_ (ih dss e.2)
        cases hi : h[i]? with
        | none => simp [hi] at e
        | some lb =>
          cases lb with
          | box t cs =>
            simp [hi] at e
            obtain ⟨b', vs, hg, _, _, hb, hc⟩ := box_at s hi
            obtain ⟨n, hg'⟩ := h1
            rw [hg] at hg'
            have hbb : b' = b := by injection hg' with hg'; injection hg' with hg' _; injection hg' with hg'; injection hg' with hg'; injection hg'
            subst hbb
            rw [toDs_ok _ _ e.1] at hc
            have hd := all2_dr hc
            refine ⟨⟨b', 0, none⟩, fun j => vs.getD j undef, rfl, fun j c hj => ?_⟩
            obtain ⟨u, hu, hdu⟩ := hd.get j c hj
            have hle := hV1.trans hV2
            have hblk := hle.H b' _ hb
            simp only [List.getD, hu, Option.getD_some]
            refine ⟨?_, (hdu.mono s.le).mono hle⟩
            rw [add_plain]
            simp [cellIn, hblk, hu]
          | _ => simp [hi] at e
  have := (hF args rs hf).run V2 w2 (vals ++ bs.map fun b => Value.pointer (some ⟨b, 0, none⟩)) hview (hargs.append (key caps bs dss hbs hcaps))
  simpa using this
end Go.Ax
