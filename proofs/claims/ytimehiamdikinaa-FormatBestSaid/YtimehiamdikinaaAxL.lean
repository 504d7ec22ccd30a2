/-
  Contracts of functions; a function's body proves its contract; a call by its contract, and a call walked in place. No condition.
-/
import Derived.Test.YtimehiamdikinaaAxK
set_option linter.all false
namespace Go.Ax
open Go Go.RowKit

variable {P : Program}

inductive RV where
  | d (x : D)
  | agg (ds : List D)
  | fresh (t : TypeId) (sz : Nat) (els : List (List D))

def Rr (V : Vw) (w : World) (base : Nat) : RV → Value → Prop
  | .d x, v => Dr V x v
  | .agg ds, v => ∃ vs : List Value, v = .agg vs.toArray ∧ All2 (Dr V) ds vs
  | .fresh t sz els, v => ∃ xs, w.ownsRow base t sz v els.length xs ∧ (∀ b, v.ownBlock = some b → V.H b = none) ∧ All2 (Dr V) els.flatten xs ∧ ∀ e ∈ els, e.length = sz

structure ViewOk (Γ : List (Nat × List D)) (V : Vw) (w : World) : Prop where
  view : ∀ b o, V.H b = some o → w.heap[b]? = some o
  imm : ∀ b, V.I b → ∃ o, V.H b = some o
  glob : ∀ p, p ∈ Γ → Cr ⟨V, []⟩ (.ptr p.2) (.pointer (some ⟨p.1, 0, none⟩))

def tupV : List Value → Value
  | [u] => u
  | vs => .tuple vs.toArray

/-- What is known behind a call. -/
def After (V : Vw) (w : World) (rs : List RV) : Ending → World → Prop := fun e w' =>
  ∃ (V' : Vw) (vs : List Value), e = .returned (tupV vs) ∧ V.Le V' ∧ (∀ b o, V'.H b = some o → w'.heap[b]? = some o) ∧
    (∀ b, V'.I b → (∃ o, V'.H b = some o) ∧ (V.I b ∨ w.heap.size ≤ b)) ∧ All2 (Rr V' w' w.heap.size) rs vs ∧ Below w.heap.size w w'

structure CallOk (P : Program) (f : FuncId) : Prop where
  ok : ∃ fn, P.funcs[f]? = some fn ∧ (fn.name == "runtime.NumGoroutine") = false ∧ fn.body.isNone = false

/-- THE CONTRACT: called with arguments that read so, the function returns results that read so, and nothing that was there has changed. -/
structure AFn (P : Program) (Γ : List (Nat × List D)) (f : FuncId) (args : List AV) (rs : List RV) : Prop where
  call : CallOk P f
  run : ∀ (V : Vw) (w : World) (vals : List Value), ViewOk Γ V w → All2 (Ar ⟨V, []⟩) args vals → Calls P f vals.toArray w (After V w rs)

theorem run_callFunc {f : FuncId} (h : CallOk P f) (args : Array Value) (w : World) : (callFunc f args).run P w = .ok (.enter f args) w := by
  obtain ⟨fn, h1, h2, h3⟩ := h.ok
  simp only [callFunc, Sem.run_bind, run_program, Result.andThen_ok, h1, h2, h3, Bool.false_eq_true, if_false, Sem.run_pure]

/-! ### from the body to the contract -/
def envOf : List AV → Nat → Env
  | [], _ => []
  | α :: r, k => pute k α (envOf r (k + 1))

theorem lk_nil (t : Nat) : lk t [] = .any := by unfold lk; cases t / 8 <;> rfl
theorem envOf_lk : ∀ (args : List AV) (k t : Nat), lk t (envOf args k) = .any ∨ (k ≤ t ∧ args[t - k]? = some (lk t (envOf args k)))
  | [], k, t => .inl (lk_nil t)
  | α :: r, k, t => by
    simp only [envOf]
    rw [lk_put]
    by_cases h : k = t
    · subst h
      exact .inr ⟨Nat.le_refl _, by simp⟩
    · rw [if_neg h]
      rcases envOf_lk r (k + 1) t with h1 | ⟨h1, h2⟩
      · exact .inl h1
      · refine .inr ⟨by omega, ?_⟩
        rw [show t - k = (t - (k + 1)) + 1 from by omega]
        simpa using h2
theorem envOf_ok {G : Gh} {args : List AV} {vals : List Value} (h : All2 (Ar G) args vals) (n : Nat) (t : Nat) : Ar G (lk t (envOf args 0)) ((vals.toArray ++ Array.replicate n undef).getD t undef) := by
  rcases envOf_lk args 0 t with h1 | ⟨_, h2⟩
  · rw [h1]; trivial
  · obtain ⟨v, hv, hr⟩ := h.get _ _ h2
    have hlt := getElem?_lt hv
    simp only [Nat.sub_zero] at hv hlt
    have e : vals[t] = v := by rw [List.getElem?_eq_getElem hlt] at hv; exact Option.some.inj hv
    have : (vals.toArray ++ Array.replicate n undef).getD t undef = v := by
      simp [Array.getD_eq_getD_getElem?, Array.getElem?_append, hlt, e]
    rw [this]; exact hr

/-- A cell of a result, rows of the call's own taken as still (all but one, that may be handed over). -/
def cellD (fr : Option Nat) (h : List LB) : C → Option D
  | .d x => some x
  | .own i ver => match h[i]? with
    | some (.row _ sz els v) => if v = ver ∧ fr ≠ some i then some (.lst sz els) else none
    | _ => none
  | _ => none
def cellDs (fr : Option Nat) (h : List LB) : List C → Option (List D)
  | [] => some []
  | c :: r => match cellD fr h c, cellDs fr h r with
    | some x, some l => some (x :: l)
    | _, _ => none
def rvOf (fr : Option Nat) (h : List LB) : AV → Option RV
  | .c c => match cellD fr h c with
    | some x => some (.d x)
    | none => match c with
      | .own i ver => match h[i]? with
        | some (.row t sz els v) => if v = ver ∧ fr = some i then some (.fresh t sz els) else none
        | _ => none
      | _ => none
  | .agg cs => (cellDs fr h cs).map RV.agg
  | _ => none

/-- What a result variable holds at the end. -/
def resAV (P : Program) (st : St) : ResultVar → Option AV
  | .tmp t => match lk t st.env with
    | .any => none
    | α => some α
  | .cell t ty => match lk t st.env with
    | .c (.loc i off) => match st.heap[i]?, ldT P ty with
      | some (.box _ cs), some none => (cs[off]?).map AV.c
      | some (.box _ cs), some (some n) => if off + n ≤ cs.length then some (.agg ((cs.drop off).take n)) else none
      | _, _ => none
    | _ => none

def resRun (tmps : Array Value) : ResultVar → Sem Value
  | .tmp t => pure (tmps.getD t undef)
  | .cell x t => do loadVar t (← asAddr (tmps.getD x undef))

theorem results_eq (fn : Func) (tmps : Array Value) : results fn tmps = (do let vs ← fn.results.mapM (resRun tmps); pure (if h : vs.size = 1 then vs[0] else .tuple vs)) := rfl

theorem loadAt_asAddr {t : TypeId} {q v : Value} {w : World} (h : (Instr.loadAt t q).run P w = .ok v w) : (do loadVar t (← asAddr q) : Sem Value).run P w = .ok v w := by
  cases q with
  | pointer o => cases o with
    | some ad => exact h
    | none => simp [Instr.loadAt, Instr.sureAddr] at h
  | _ => simp [Instr.loadAt, Instr.sureAddr] at h

theorem resAV_ok {cx : Cx} {G : Gh} {st : St} {a : Act} {w : World} (s : Sat cx G st a w) : ∀ (r : ResultVar) (α : AV), resAV P st r = some α →
    ∃ v, (resRun a.tmps r).run P w = .ok v w ∧ Ar G α v := by
  intro r α h
  cases r with
  | tmp t =>
    have hr : Ar G (lk t st.env) (a.tmps.getD t undef) := s.ev (.tmp t)
    refine ⟨a.tmps.getD t undef, rfl, ?_⟩
    simp only [resAV] at h
    generalize lk t st.env = β at h hr
    cases β <;> simp at h <;> subst h <;> exact hr
  | cell t ty =>
    have hr : Ar G (lk t st.env) (a.tmps.getD t undef) := s.ev (.tmp t)
    simp only [resAV] at h
    generalize lk t st.env = β at h hr
    split at h
    · next i off =>
      split at h
      · next tb cs hi hl =>
        obtain ⟨ad, vs, hv, hc, hcell⟩ := (ptAt_of s.h (α := .c (.loc i off)) (cs := cs.drop off) (by simp [cellsAt, hi]) hr).form
        cases hcs : cs[off]? with
        | none => simp [hcs] at h
        | some c =>
          simp [hcs] at h
          subst h
          obtain ⟨u, hu, hcu⟩ := hc.get 0 c (by simp [hcs])
          refine ⟨u, ?_, hcu⟩
          have := run_loadAt1 hl (hcell 0 u hu)
          simp only [add_zero] at this
          refine loadAt_asAddr ?_
          rw [hv]; exact this
      · next tb cs n hi hl =>
        split at h
        · next hle =>
          cases h
          obtain ⟨ad, vs, hv, hc, hcell⟩ := (ptAt_of s.h (α := .c (.loc i off)) (cs := cs.drop off) (by simp [cellsAt, hi]) hr).form
          have hlen := hc.length
          simp at hlen
          refine ⟨.agg (vs.take n).toArray, ?_, vs.take n, rfl, hc.take n⟩
          have := run_loadAtN (vs := vs.take n) hl (by simp; omega) (fun j u hu => hcell j u (by
            rw [List.getElem?_take] at hu
            split at hu
            · exact hu
            · cases hu))
          refine loadAt_asAddr ?_
          rw [hv]; exact this
        · cases h
      · cases h
    · cases h

def resAVs (P : Program) (st : St) : List ResultVar → Option (List AV)
  | [] => some []
  | r :: rs => match resAV P st r, resAVs P st rs with
    | some α, some l => some (α :: l)
    | _, _ => none
def rvsOf (fr : Option Nat) (h : List LB) : List AV → Option (List RV)
  | [] => some []
  | α :: r => match rvOf fr h α, rvsOf fr h r with
    | some x, some l => some (x :: l)
    | _, _ => none

theorem resAVs_ok {cx : Cx} {G : Gh} {st : St} {a : Act} {w : World} (s : Sat cx G st a w) : ∀ (rs : List ResultVar) (αs : List AV), resAVs P st rs = some αs →
    ∃ vs : List Value, (rs.mapM (resRun a.tmps)).run P w = .ok vs w ∧ All2 (Ar G) αs vs
  | [], αs, h => by cases h; exact ⟨[], rfl, .nil⟩
  | r :: rs, αs, h => by
    simp only [resAVs] at h
    split at h
    · next α l h1 h2 =>
      cases h
      obtain ⟨v, hv, hr⟩ := resAV_ok s r α h1
      obtain ⟨vs, hvs, hrs⟩ := resAVs_ok s rs l h2
      refine ⟨v :: vs, ?_, .cons hr hrs⟩
      simp only [List.mapM_cons, Sem.run_bind, hv, Result.andThen_ok, hvs, Sem.run_pure]
    · cases h

theorem run_results {cx : Cx} {G : Gh} {st : St} {a : Act} {w : World} (s : Sat cx G st a w) {fn : Func} {αs : List AV} (h : resAVs P st fn.results.toList = some αs) :
    ∃ vs : List Value, (results fn a.tmps).run P w = .ok (tupV vs) w ∧ All2 (Ar G) αs vs := by
  obtain ⟨vs, hv, hr⟩ := resAVs_ok s _ _ h
  refine ⟨vs, ?_, hr⟩
  rw [results_eq, Array.mapM_eq_mapM_toList]
  simp only [Sem.run_bind, Sem.run_map, hv, Result.andThen_ok, Sem.run_pure]
  congr 1
  match vs with
  | [] => rfl
  | [u] => rfl
  | u :: u' :: r => simp [tupV]

/-- The view behind the call: all that the call made stays, but for one row that is handed over. -/
def exitV (V : Vw) (base : Nat) (fb : Option Nat) (w : World) : Vw :=
  ⟨fun b => if some b = fb then none else if base ≤ b then w.heap[b]? else V.H b, fun b => some b ≠ fb ∧ (V.I b ∨ (base ≤ b ∧ b < w.heap.size))⟩

theorem exit_dr {cx : Cx} {G : Gh} {h : List LB} {w : World} (s : SatH cx G h w) {V : Vw} (hV : cx.G0.V = V) (hS : cx.S = V.I) (h0 : ViewOk cx.pm.Γ V cx.w0) (fb : Option Nat) (hfb : ∀ b, fb = some b → G.V.H b = none) {x : D} {v : Value} (hd : Dr G.V x v) : Dr (exitV V cx.w0.heap.size fb w) x v := by
  refine hd.move (fun b hb => ?_) (fun b o hb ho => ?_)
  · obtain ⟨⟨o, h1⟩, h2⟩ := s.imm b hb
    refine ⟨fun e => ?_, ?_⟩
    · have := hfb b e.symm
      rw [this] at h1; cases h1
    · rcases h2 with h2 | h2
      · rw [hS] at h2; exact .inl h2
      · exact .inr ⟨h2, heap_lt (s.view b o h1)⟩
  · have hne : ¬ (some b = fb) := fun e => by
      have := hfb b e.symm
      rw [this] at ho; cases ho
    simp only [exitV, if_neg hne]
    split
    · exact s.view b o ho
    · next hlt =>
      rcases (s.imm b hb).2 with h2 | h2
      · rw [hS] at h2
        obtain ⟨o', ho'⟩ := h0.imm b h2
        have e1 := h0.view b o' ho'
        have e2 := s.view b o ho
        rw [s.below.block b (by omega), e1] at e2
        rw [ho']; exact e2
      · omega

theorem exit_own {cx : Cx} {G : Gh} {h : List LB} {w : World} (s : SatH cx G h w) {V : Vw} (hV : cx.G0.V = V) (hS : cx.S = V.I) (h0 : ViewOk cx.pm.Γ V cx.w0) (fb : Option Nat) (hfb : ∀ b, fb = some b → G.V.H b = none)
    {i ver : Nat} {t : TypeId} {sz : Nat} {els : List (List D)} (hi : h[i]? = some (.row t sz els ver)) {v : Value} (hv : Cr G (.own i ver) v) (hne : ∀ b, fb = some b → v.ownBlock ≠ some b) : Dr (exitV V cx.w0.heap.size fb w) (.lst sz els) v := by
  obtain ⟨v0, xs, hg, how, _, hd, hl⟩ := row_at s hi
  obtain ⟨_, v0', n', hg', _, hx⟩ := hv
  rw [hg] at hg'
  cases hg'
  have := hx rfl
  subst this
  obtain ⟨A, cap, hvv, hc, hm⟩ := own_form how
  subst hvv
  refine .lst sz els A cap (fun i j => xs.getD (i * sz + j) undef) hc hm hl (fun hn => ?_) (fun i e j c h1 h2 => ?_)
  · have hpos : 0 < els.length := List.length_pos_iff.2 hn
    obtain ⟨g, cap', hv', hb, _, _, hcell⟩ := own_cells how hpos
    injection hv' with hA _ _
    subst hA
    have hnb : ¬ (some g = fb) := fun e => hne g e.symm rfl
    have hcell0 : ∀ (j : Nat) (u : Value), xs[j]? = some u → g < w.heap.size := fun j u hj => by
      have := hcell j u hj
      unfold World.cell? at this
      rcases Nat.lt_or_ge g w.heap.size with h | h
      · exact h
      · rw [Array.getElem?_eq_none h] at this; cases this
    have hglt : g < w.heap.size := by
      obtain ⟨_, ⟨e, _⟩ | ⟨g', cap'', cur, e, _, hh, _⟩⟩ := how
      · cases e
      · cases e; exact heap_lt hh
    refine ⟨⟨g, 0, none⟩, rfl, ⟨hnb, .inr ⟨hb, hglt⟩⟩, fun i e j c h1 h2 => ?_⟩
    obtain ⟨u, hb1, hb2⟩ := hd.get _ _ (flat_get els hl i e j c h1 h2)
    have hq := hcell _ u hb1
    rw [add_plain, Nat.zero_add]
    rw [← cellIn_world] at hq
    have : cellIn (exitV V cx.w0.heap.size fb w).H ⟨g, i * sz + j, none⟩ = cellIn (fun b => w.heap[b]?) ⟨g, i * sz + j, none⟩ := by
      simp only [cellIn, exitV, if_neg hnb, if_pos hb]
    rw [this, hq]
    simp [hb1]
  · obtain ⟨u, hb1, hb2⟩ := hd.get _ _ (flat_get els hl i e j c h1 h2)
    simpa [hb1] using exit_dr s hV hS h0 fb hfb hb2
end Go.Ax
