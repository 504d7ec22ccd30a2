/- Ends of functions, nil slices among them; a slice held against nil; a part of a row, indexed. No condition. -/
import Derived.Test.YtimehiamdikinaaAxVe
set_option linter.all false
namespace Go.Ax
open Go Go.RowKit

/-! ### results -/
def celR (h : List LB) (fr : Option Nat) : C → D → Prop
  | .own i ver, .lst sz els => match h[i]? with
    | some (.row _ sz' els' v) => (v = ver ∧ fr ≠ some i ∧ sz' = sz) ∧ els' = els
    | _ => False
  | .d (.raw (.slice none 0 0)), .lst _ els => els = []
  | .d x, y => x = y
  | _, _ => False
def celsR (h : List LB) (fr : Option Nat) : List C → List D → Prop
  | [], [] => True
  | c :: r, x :: xs => celR h fr c x ∧ celsR h fr r xs
  | _, _ => False
def resR (h : List LB) (fr : Option Nat) : AV → RV → Prop
  | .c c, .d x => celR h fr c x
  | .agg cs, .agg ds => celsR h fr cs ds
  | .c (.own i ver), .fresh t sz els => match h[i]? with
    | some (.row t' sz' els' v) => (v = ver ∧ fr = some i ∧ t' = t ∧ sz' = sz) ∧ els' = els
    | _ => False
  | .c (.d (.raw (.slice none 0 0))), .fresh _ _ els => els = []
  | _, _ => False
def ressR (h : List LB) (fr : Option Nat) : List AV → List RV → Prop
  | [], [] => True
  | α :: r, x :: xs => resR h fr α x ∧ ressR h fr r xs
  | _, _ => False
/-- Which row is handed over. -/
def frOf : List AV → List RV → Option Nat
  | [.c (.own i _)], [.fresh _ _ _] => some i
  | _, _ => none

variable {P : Program}
theorem celR_ok {cx : Cx} {G : Gh} {h : List LB} {w : World} (s : SatH cx G h w) {V : Vw} (hV : cx.G0.V = V) (hS : cx.S = V.I) (h0 : ViewOk cx.pm.Γ V cx.w0) {fr : Option Nat} {fb : Option Nat} (hfb : ∀ b, fb = some b → G.V.H b = none)
    (hfr : ∀ b, fb = some b → ∃ i lb e, fr = some i ∧ h[i]? = some lb ∧ lb.live ∧ G.g[i]? = some e ∧ blkOf e.1 = some b) {c : C} {x : D} (hc : celR h fr c x) {v : Value} (hv : Cr G c v) : Dr (exitV V cx.w0.heap.size fb w) x v := by
  unfold celR at hc
  split at hc
  · next i ver sz els =>
    split at hc
    · next t sz' els' v' hi =>
      obtain ⟨⟨rfl, hne, rfl⟩, rfl⟩ := hc
      exact cellD_ok s hV hS h0 hfb hfr (c := .own i v') (by simp [cellD, hi, hne]) hv
    · exact hc.elim
  · next sz els =>
    subst hc
    have := ar_raw hv
    subst this
    exact Dr.lst sz [] none 0 (fun _ _ => undef) (by simp) (by simp) (by simp) (by simp) (by simp)
  · subst hc
    exact exit_dr s hV hS h0 fb hfb hv
  · exact hc.elim
theorem celsR_ok {cx : Cx} {G : Gh} {h : List LB} {w : World} (s : SatH cx G h w) {V : Vw} (hV : cx.G0.V = V) (hS : cx.S = V.I) (h0 : ViewOk cx.pm.Γ V cx.w0) {fr : Option Nat} {fb : Option Nat} (hfb : ∀ b, fb = some b → G.V.H b = none)
    (hfr : ∀ b, fb = some b → ∃ i lb e, fr = some i ∧ h[i]? = some lb ∧ lb.live ∧ G.g[i]? = some e ∧ blkOf e.1 = some b) : ∀ (cs : List C) (ds : List D) (vs : List Value), celsR h fr cs ds → All2 (Cr G) cs vs → All2 (Dr (exitV V cx.w0.heap.size fb w)) ds vs
  | [], [], vs, _, hv => by cases hv; exact .nil
  | c :: r, x :: xs, vs, hc, hv => by
    cases hv with
    | cons h1 h2 => exact .cons (celR_ok s hV hS h0 hfb hfr hc.1 h1) (celsR_ok s hV hS h0 hfb hfr r xs _ hc.2 h2)
  | [], _ :: _, _, hc, _ => hc.elim
  | _ :: _, [], _, hc, _ => hc.elim
theorem resR_ok {cx : Cx} {G : Gh} {h : List LB} {w : World} (s : SatH cx G h w) {V : Vw} (hV : cx.G0.V = V) (hS : cx.S = V.I) (h0 : ViewOk cx.pm.Γ V cx.w0) {fr : Option Nat} {fb : Option Nat} (hfb : ∀ b, fb = some b → G.V.H b = none)
    (hfr : ∀ b, fb = some b → ∃ i lb e, fr = some i ∧ h[i]? = some lb ∧ lb.live ∧ G.g[i]? = some e ∧ blkOf e.1 = some b) (hfr' : ∀ i e b, fr = some i → G.g[i]? = some e → blkOf e.1 = some b → fb = some b)
    {α : AV} {r : RV} (hc : resR h fr α r) {v : Value} (hv : Ar G α v) : Rr (exitV V cx.w0.heap.size fb w) w cx.w0.heap.size r v := by
  unfold resR at hc
  split at hc
  · exact celR_ok s hV hS h0 hfb hfr hc hv
  · next cs ds =>
    obtain ⟨vs, rfl, hcs⟩ := hv
    exact ⟨vs, rfl, celsR_ok s hV hS h0 hfb hfr cs ds vs hc hcs⟩
  · next i ver t sz els =>
    split at hc
    · next t' sz' els' v' hi =>
      obtain ⟨⟨rfl, hfi, rfl, rfl⟩, rfl⟩ := hc
      exact rvOf_ok s hV hS h0 hfb hfr hfr' (α := .c (.own i v')) (by simp [rvOf, cellD, hi, hfi]) hv
    · exact hc.elim
  · next t sz els =>
    subst hc
    have := ar_raw hv
    subst this
    exact ⟨[], World.ownsRow_nil w _ t sz, fun b hb => (by cases hb), .nil, by simp⟩
  · exact hc.elim
theorem ressR_ok {cx : Cx} {G : Gh} {h : List LB} {w : World} (s : SatH cx G h w) {V : Vw} (hV : cx.G0.V = V) (hS : cx.S = V.I) (h0 : ViewOk cx.pm.Γ V cx.w0) {fr : Option Nat} {fb : Option Nat} (hfb : ∀ b, fb = some b → G.V.H b = none)
    (hfr : ∀ b, fb = some b → ∃ i lb e, fr = some i ∧ h[i]? = some lb ∧ lb.live ∧ G.g[i]? = some e ∧ blkOf e.1 = some b) (hfr' : ∀ i e b, fr = some i → G.g[i]? = some e → blkOf e.1 = some b → fb = some b) :
    ∀ (αs : List AV) (rs : List RV) (vs : List Value), ressR h fr αs rs → All2 (Ar G) αs vs → All2 (Rr (exitV V cx.w0.heap.size fb w) w cx.w0.heap.size) rs vs
  | [], [], vs, _, hv => by cases hv; exact .nil
  | c :: r, x :: xs, vs, hc, hv => by
    cases hv with
    | cons h1 h2 => exact .cons (resR_ok s hV hS h0 hfb hfr hfr' hc.1 h1) (ressR_ok s hV hS h0 hfb hfr hfr' r xs _ hc.2 h2)
  | [], _ :: _, _, hc, _ => hc.elim
  | _ :: _, [], _, hc, _ => hc.elim

theorem exit_afterR {cx : Cx} {G : Gh} {st : St} {a : Act} {w : World} (s : Sat cx G st a w) {V : Vw} (hV : cx.G0.V = V) (hS : cx.S = V.I) (h0 : ViewOk cx.pm.Γ V cx.w0) {fr : Option Nat} (hlive : ∀ i, fr = some i → ∃ lb, st.heap[i]? = some lb ∧ lb.live)
    {αs : List AV} {rs : List RV} {vs : List Value} (hr : ressR st.heap fr αs rs) (hv : All2 (Ar G) αs vs) : After V cx.w0 rs (.returned (tupV vs)) w := by
  obtain ⟨fb, hfb, hfr, hfr'⟩ : ∃ fb : Option Nat, (∀ b, fb = some b → G.V.H b = none) ∧ (∀ b, fb = some b → ∃ i lb e, fr = some i ∧ st.heap[i]? = some lb ∧ lb.live ∧ G.g[i]? = some e ∧ blkOf e.1 = some b) ∧
      (∀ i e b, fr = some i → G.g[i]? = some e → blkOf e.1 = some b → fb = some b) := by
    cases fr with
    | none => exact ⟨none, fun b h => (by cases h), fun b h => (by cases h), fun i e b h => (by cases h)⟩
    | some i =>
      obtain ⟨lb, h1, h2⟩ := hlive i rfl
      obtain ⟨e, h3, h4⟩ := s.h.entry h1
      refine ⟨blkOf e.1, fun b hb => (h4.blk h2 hb).2.2, fun b hb => ⟨i, lb, e, rfl, h1, h2, h3, hb⟩, fun i' e' b q1 q2 q3 => ?_⟩
      cases q1
      rw [h3] at q2
      cases q2
      exact q3
  have hfbb : ∀ b, fb = some b → cx.w0.heap.size ≤ b := fun b hb => by
    obtain ⟨i, lb, e, _, q2, q3, q4, q5⟩ := hfr b hb
    exact ((s.h.ent i lb e q2 q4).blk q3 q5).1
  refine ⟨exitV V cx.w0.heap.size fb w, vs, rfl, ⟨fun b o ho => ?_, fun b hb => ?_⟩, fun b o ho => ?_, fun b hb => ?_, ressR_ok s.h hV hS h0 hfb hfr hfr' αs rs vs hr hv, s.h.below⟩
  · have hlt := heap_lt (h0.view b o ho)
    have hne : ¬ (some b = fb) := fun e => by have := hfbb b e.symm; omega
    simp only [exitV, if_neg hne]
    rw [if_neg (by omega)]
    exact ho
  · obtain ⟨o, ho⟩ := h0.imm b hb
    have hlt := heap_lt (h0.view b o ho)
    exact ⟨fun e => by have := hfbb b e.symm; omega, .inl hb⟩
  · simp only [exitV] at ho
    split at ho
    · cases ho
    · split at ho
      · exact ho
      · next hlt =>
        rw [s.h.below.block b (by omega)]
        exact h0.view b o ho
  · obtain ⟨h1, h2⟩ := hb
    refine ⟨?_, h2.imp id fun h => h.1⟩
    simp only [exitV, if_neg h1]
    split
    · next hge =>
      rcases h2 with h2 | h2
      · obtain ⟨o, ho⟩ := h0.imm b h2
        have hlt := heap_lt (h0.view b o ho)
        omega
      · exact ⟨_, Array.getElem?_eq_getElem h2.2⟩
    · next hlt =>
      rcases h2 with h2 | h2
      · exact h0.imm b h2
      · omega

theorem frOf_live {h : List LB} {αs : List AV} {rs : List RV} (hr : ressR h (frOf αs rs) αs rs) : ∀ i, frOf αs rs = some i → ∃ lb, h[i]? = some lb ∧ lb.live := by
  intro i hi
  unfold frOf at hi
  split at hi
  · cases hi
    obtain ⟨h1, _⟩ := hr
    simp only [resR] at h1
    split at h1
    · next hi => exact ⟨_, hi, trivial⟩
    · exact h1.elim
  · cases hi

def finX (P : Program) (res : List ResultVar) (rs : List RV) (st : St) : Prop :=
  match resAVs P st res with
  | some αs => ressR st.heap (frOf αs rs) αs rs
  | none => False
def FinX (P : Program) (res : List ResultVar) (rs : List RV) : Exit → St → Prop
  | .ret, st => finX P res rs st
  | .normal, st => finX P res rs st
  | _, _ => False

theorem AFn.of_bodyX {Γ : List (Nat × List D)} {f : FuncId} {fn : Func} {c : Code} {args : List AV} {rs : List RV} (hf : P.funcs[f]? = some fn) (hname : (fn.name == "runtime.NumGoroutine") = false) (hb : fn.body = some c) (hN : args.length ≤ fn.ntmps)
    (h : AXc P ⟨0, fn.ntmps, Γ⟩ c ⟨envOf args 0, []⟩ (FinX P fn.results.toList rs)) : AFn P Γ f args rs := by
  refine ⟨⟨fn, hf, hname, by rw [hb]; rfl⟩, fun V w vals h0 hargs => ?_⟩
  refine calls_of_wp hf hb ?_
  have hl := hargs.length
  let cx : Cx := ⟨⟨0, fn.ntmps, Γ⟩, w, V.I, ⟨V, []⟩⟩
  have sat : Sat cx ⟨V, []⟩ ⟨envOf args 0, []⟩ { tmps := vals.toArray ++ Array.replicate (fn.ntmps - vals.toArray.size) undef, defers := [] } w := by
    refine ⟨⟨rfl, fun i b e hi => by simp at hi, fun i j bi bj ei ej k hi => by simp at hi, h0.view, fun b hb => ⟨h0.imm b hb, .inl hb⟩, .refl _ _, .refl _ _, h0.glob⟩, envOf_ok hargs _, ?_, rfl⟩
    · simp [cx]; omega
  refine wp_mono (h cx ⟨V, []⟩ _ w rfl sat) ?_
  rintro e a' w' ⟨G', st', s', hq⟩
  have key : finX P fn.results.toList rs st' → ∃ vs, (results fn a'.tmps).run P w' = .ok (tupV vs) w' ∧ After V cx.w0 rs (.returned (tupV vs)) w' := by
    intro hfin
    unfold finX at hfin
    split at hfin
    · next αs h1 =>
      obtain ⟨vs, hres, hvs⟩ := run_results s' h1
      exact ⟨vs, hres, exit_afterR s' rfl rfl h0 (frOf_live hfin) hfin hvs⟩
    · exact hfin.elim
  cases e with
  | ret => obtain ⟨vs, h1, h2⟩ := key hq; exact ⟨s'.defers, _, h1, h2⟩
  | normal => obtain ⟨vs, h1, h2⟩ := key hq; exact ⟨s'.defers, _, h1, h2⟩
  | _ => exact hq.elim

/-- FROM THE RECKONED RULE TO THE CONTRACT. -/
theorem AFn.vc {Γ : List (Nat × List D)} {f : FuncId} {fn : Func} {c : Code} {args : List AV} {rs : List RV} {n : Nat} {res : Array ResultVar} (E : List Nat) (hf : P.funcs[f]? = some fn) (hb : fn.body = some c) (hm : P.follows .mixedOrders = true)
    (hok : (!(fn.name == "runtime.NumGoroutine") && codeOk E fn.ntmps c) = true) (hn : fn.ntmps = n) (hr : fn.results = res) (hN : args.length ≤ n)
    (h : ap (Ax.vc P ⟨0, n, Γ⟩ E c ⟨envOf args 0, []⟩) (FinX P res.toList rs) ⟨⟩) : AFn P Γ f args rs := by
  subst hn hr
  simp only [Bool.and_eq_true, Bool.not_eq_true'] at hok
  exact AFn.of_bodyX hf hok.1 hb hN (vc_ok hm c _ _ hok.2 h)

@[push_cast] theorem FinX_r (res : List ResultVar) (rs : List RV) (st : St) : FinX P res rs .ret st = finX P res rs st := (rfl)
@[push_cast] theorem FinX_n (res : List ResultVar) (rs : List RV) (st : St) : FinX P res rs .normal st = finX P res rs st := (rfl)
def finX2 (q : Option (List AV)) (rs : List RV) (h : List LB) : Prop := match q with | some αs => ressR h (frOf αs rs) αs rs | none => False
@[push_cast] theorem finX_2 (res : List ResultVar) (rs : List RV) (st : St) : finX P res rs st = finX2 (resAVs P st res) rs st.heap := (rfl)
@[push_cast] theorem finX2_s (αs : List AV) (rs : List RV) (h : List LB) : finX2 (some αs) rs h = ressR h (frOf αs rs) αs rs := (rfl)
@[push_cast] theorem ressR_n (h : List LB) (fr : Option Nat) : ressR h fr [] [] = True := (rfl)
@[push_cast] theorem ressR_c (h : List LB) (fr : Option Nat) (α : AV) (r : List AV) (x : RV) (xs : List RV) : ressR h fr (α :: r) (x :: xs) = (resR h fr α x ∧ ressR h fr r xs) := (rfl)
@[push_cast] theorem resR_a (h : List LB) (fr : Option Nat) (cs : List C) (ds : List D) : resR h fr (.agg cs) (.agg ds) = celsR h fr cs ds := (rfl)
@[push_cast] theorem celsR_n (h : List LB) (fr : Option Nat) : celsR h fr [] [] = True := (rfl)
@[push_cast] theorem celsR_c (h : List LB) (fr : Option Nat) (c : C) (r : List C) (x : D) (xs : List D) : celsR h fr (c :: r) (x :: xs) = (celR h fr c x ∧ celsR h fr r xs) := (rfl)
@[push_cast] theorem resR_d (h : List LB) (fr : Option Nat) (c : C) (x : D) : resR h fr (.c c) (.d x) = celR h fr c x := (rfl)
@[push_cast] theorem celR_i (h : List LB) (fr : Option Nat) (k : IntKind) (n : Int) (y : D) : celR h fr (.d (.int k n)) y = (D.int k n = y) := by cases y <;> rfl
@[push_cast] theorem celR_b (h : List LB) (fr : Option Nat) (b : Bool) (y : D) : celR h fr (.d (.bool b)) y = (D.bool b = y) := by cases y <;> rfl
@[push_cast] theorem celR_s (h : List LB) (fr : Option Nat) (l : List UInt8) (y : D) : celR h fr (.d (.str l)) y = (D.str l = y) := by cases y <;> rfl
@[push_cast] theorem celR_l (h : List LB) (fr : Option Nat) (sz : Nat) (els : List (List D)) (y : D) : celR h fr (.d (.lst sz els)) y = (D.lst sz els = y) := by cases y <;> rfl
@[push_cast] theorem celR_n (h : List LB) (fr : Option Nat) (sz : Nat) (els : List (List D)) : celR h fr (.d (.raw (.slice none 0 0))) (.lst sz els) = (els = []) := (rfl)
@[push_cast] theorem celR_r (h : List LB) (fr : Option Nat) (v w : Value) : celR h fr (.d (.raw v)) (.raw w) = (D.raw v = D.raw w) := by unfold celR; split <;> simp_all
def celO (b : Option LB) (fr : Option Nat) (i ver sz : Nat) (els : List (List D)) : Prop := match b with | some (.row _ sz' els' v) => (v = ver ∧ fr ≠ some i ∧ sz' = sz) ∧ els' = els | _ => False
@[push_cast] theorem celR_o (h : List LB) (fr : Option Nat) (i ver sz : Nat) (els : List (List D)) : celR h fr (.own i ver) (.lst sz els) = celO h[i]? fr i ver sz els := (rfl)
@[push_cast] theorem celO_s (t : TypeId) (sz' : Nat) (els' : List (List D)) (v : Nat) (fr : Option Nat) (i ver sz : Nat) (els : List (List D)) : celO (some (.row t sz' els' v)) fr i ver sz els = ((v = ver ∧ fr ≠ some i ∧ sz' = sz) ∧ els' = els) := (rfl)
def resO (b : Option LB) (fr : Option Nat) (i ver : Nat) (t : TypeId) (sz : Nat) (els : List (List D)) : Prop := match b with | some (.row t' sz' els' v) => (v = ver ∧ fr = some i ∧ t' = t ∧ sz' = sz) ∧ els' = els | _ => False
@[push_cast] theorem resR_o (h : List LB) (fr : Option Nat) (i ver : Nat) (t : TypeId) (sz : Nat) (els : List (List D)) : resR h fr (.c (.own i ver)) (.fresh t sz els) = resO h[i]? fr i ver t sz els := (rfl)
@[push_cast] theorem resO_s (t t' : TypeId) (sz sz' : Nat) (els els' : List (List D)) (v : Nat) (fr : Option Nat) (i ver : Nat) : resO (some (.row t' sz' els' v)) fr i ver t sz els = ((v = ver ∧ fr = some i ∧ t' = t ∧ sz' = sz) ∧ els' = els) := (rfl)
@[push_cast] theorem resR_n (h : List LB) (fr : Option Nat) (t : TypeId) (sz : Nat) (els : List (List D)) : resR h fr (.c (.d (.raw (.slice none 0 0)))) (.fresh t sz els) = (els = []) := (rfl)
@[push_cast] theorem frOf_o (i ver : Nat) (t : TypeId) (sz : Nat) (els : List (List D)) : frOf [.c (.own i ver)] [.fresh t sz els] = some i := rfl
@[push_cast] theorem frOf_d (αs : List AV) (x : D) (xs : List RV) : frOf αs (.d x :: xs) = none := by unfold frOf; split <;> first | rfl | (next e => cases e)
@[push_cast] theorem frOf_a (αs : List AV) (x : List D) (xs : List RV) : frOf αs (.agg x :: xs) = none := by unfold frOf; split <;> first | rfl | (next e => cases e)
@[push_cast] theorem frOf_n (αs : List AV) : frOf αs [] = none := by unfold frOf; split <;> first | rfl | (next e => cases e)
@[push_cast] theorem frOf_r (v : Value) (rs : List RV) : frOf [.c (.d (.raw v))] rs = none := by unfold frOf; split <;> first | rfl | (next e => cases e)
end Go.Ax

namespace Go.Ax
variable {P : Program} {pm : Pm} {E : List Nat}
/-- A loop over memory that stays as it is. -/
theorem LoopV.of0 {b : Code} {st : St} {Q : Exit → St → Prop} {S : Type} (hm : P.follows .mixedOrders = true) (keep : List Nat) (vars : S → List (Nat × AV)) (I : S → Prop) (μ : S → Nat) (s0 : S) (h0 : I s0)
    (round : ∀ s, I s → ap (Ax.vc P pm E b ⟨frame keep st.env (vars s), st.heap⟩) (EthenT (fun st' => ∃ s', (I s' ∧ μ s' < μ s) ∧ fitsV pm st' ⟨frame keep st.env (vars s'), st.heap⟩) Q ⟨⟩ ⟨⟩) ⟨⟩) (f0 : fitsV pm st ⟨frame keep st.env (vars s0), st.heap⟩ := by push_cast) : LoopV P pm E b st Q ⟨⟩ :=
  LoopV.of hm keep vars (fun _ => st.heap) I μ s0 h0 f0 round
/-- A loop that counts up to n, over memory that stays as it is. -/
theorem LoopV.cnt {b : Code} {st : St} {Q : Exit → St → Prop} (hm : P.follows .mixedOrders = true) (keep : List Nat) (n : Nat) (vars : Nat → List (Nat × AV)) (I : Nat → Prop) (h0 : I 0)
    (round : ∀ k, k ≤ n → I k → ap (Ax.vc P pm E b ⟨frame keep st.env (vars k), st.heap⟩) (EthenT (fun st' => (k < n ∧ I (k + 1)) ∧ fitsV pm st' ⟨frame keep st.env (vars (k + 1)), st.heap⟩) Q ⟨⟩ ⟨⟩) ⟨⟩) (f0 : fitsV pm st ⟨frame keep st.env (vars 0), st.heap⟩ := by push_cast) : LoopV P pm E b st Q ⟨⟩ := by
  intro hok
  refine AXc.loopW (fun k => ⟨frame keep st.env (vars k), st.heap⟩) (fun k => k ≤ n ∧ I k) (fun k => n - k) 0 ⟨Nat.zero_le _, h0⟩ (fitsV_ok f0) fun k hk => (vc_ok hm b _ _ hok (round k hk.1 hk.2)).mono fun e s he => ?_
  cases e with
  | normal => exact ⟨k + 1, ⟨by have := he.1.1; omega, he.1.2⟩, by have := he.1.1; omega, fitsV_ok he.2⟩
  | _ => exact he
/-- The same where rows change with the count. -/
theorem LoopV.cntH {b : Code} {st : St} {Q : Exit → St → Prop} (hm : P.follows .mixedOrders = true) (keep : List Nat) (n : Nat) (vars : Nat → List (Nat × AV)) (heap : Nat → List LB) (I : Nat → Prop) (h0 : I 0)
    (round : ∀ k, k ≤ n → I k → ap (Ax.vc P pm E b ⟨frame keep st.env (vars k), heap k⟩) (EthenT (fun st' => (k < n ∧ I (k + 1)) ∧ fitsV pm st' ⟨frame keep st.env (vars (k + 1)), heap (k + 1)⟩) Q ⟨⟩ ⟨⟩) ⟨⟩) (f0 : fitsV pm st ⟨frame keep st.env (vars 0), heap 0⟩ := by push_cast) : LoopV P pm E b st Q ⟨⟩ := by
  intro hok
  refine AXc.loopW (fun k => ⟨frame keep st.env (vars k), heap k⟩) (fun k => k ≤ n ∧ I k) (fun k => n - k) 0 ⟨Nat.zero_le _, h0⟩ (fitsV_ok f0) fun k hk => (vc_ok hm b _ _ hok (round k hk.1 hk.2)).mono fun e s he => ?_
  cases e with
  | normal => exact ⟨k + 1, ⟨by have := he.1.1; omega, he.1.2⟩, by have := he.1.1; omega, fitsV_ok he.2⟩
  | _ => exact he
end Go.Ax
