/- Part of a proof about this program; no condition of its own. -/
import Derived.Test.YtanbfhnmklhjiaaGreatDoorP06
import Derived.Lib.RuneBytes
import Derived.Laws.Runes
set_option linter.all false
/-
  Contracts of functions; a function's body proves its contract; a call by its contract, and a call walked in place. No condition.
-/
namespace Go.Ax
open Go Go.RowKit
variable {P : Program}
inductive RV where
  | d (x : D)
  | agg (ds : List D)
  | fresh (t : TypeId) (sz : Nat) (els : List (List D))
def Rr (V : Vw) (w : World) (base : Nat) : RV → Value → Prop
  | .d x, v => Dr V x v
  | .agg ds, v => ∃ vs : List Value, v = .agg vs.toArray ∧ All2 (Dr V) ds vs
  | .fresh t sz els, v => ∃ xs, w.ownsRow base t sz v els.length xs ∧ (∀ b, v.ownBlock = some b → V.H b = none) ∧ All2 (Dr V) els.flatten xs ∧ ∀ e ∈ els, e.length = sz
structure ViewOk (Γ : List (Nat × List D)) (V : Vw) (w : World) : Prop where
  view : ∀ b o, V.H b = some o → w.heap[b]? = some o
  imm : ∀ b, V.I b → ∃ o, V.H b = some o
  glob : ∀ p, p ∈ Γ → Gp ⟨V, []⟩ p
def tupV : List Value → Value
  | [u] => u
  | vs => .tuple vs.toArray
def After (V : Vw) (w : World) (rs : List RV) : Ending → World → Prop := fun e w' =>
  ∃ (V' : Vw) (vs : List Value), e = .returned (tupV vs) ∧ V.Le V' ∧ (∀ b o, V'.H b = some o → w'.heap[b]? = some o) ∧
    (∀ b, V'.I b → (∃ o, V'.H b = some o) ∧ (V.I b ∨ w.heap.size ≤ b)) ∧ All2 (Rr V' w' w.heap.size) rs vs ∧ Below w.heap.size w w'
structure CallOk (P : Program) (f : FuncId) : Prop where
  ok : ∃ fn, P.funcs[f]? = some fn ∧ (fn.name == "runtime.NumGoroutine") = false ∧ fn.body.isNone = false
structure AFn (P : Program) (Γ : List (Nat × List D)) (f : FuncId) (args : List AV) (rs : List RV) : Prop where
  call : CallOk P f
  run : ∀ (V : Vw) (w : World) (vals : List Value), ViewOk Γ V w → All2 (Ar ⟨V, []⟩) args vals → Calls P f vals.toArray w (After V w rs)
theorem run_callFunc {f : FuncId} (h : CallOk P f) (args : Array Value) (w : World) : (callFunc f args).run P w = .ok (.enter f args) w := by
  obtain ⟨fn, h1, h2, h3⟩ := h.ok
  simp only [callFunc, Sem.run_bind, run_program, Result.andThen_ok, h1, h2, h3, Bool.false_eq_true, if_false, Sem.run_pure]
/-! ### from the body to the contract -/
def envOf : List AV → Nat → Env
  | [], _ => []
  | α :: r, k => pute k α (envOf r (k + 1))
theorem lk_nil (t : Nat) : lk t [] = .any := by unfold lk; cases t / 8 <;> rfl
theorem envOf_lk : ∀ (args : List AV) (k t : Nat), lk t (envOf args k) = .any ∨ (k ≤ t ∧ args[t - k]? = some (lk t (envOf args k)))
  | [], k, t => .inl (lk_nil t)
  | α :: r, k, t => by
    simp only [envOf]
    rw [lk_put]
    by_cases h : k = t
    · subst h
      exact .inr ⟨Nat.le_refl _, by simp⟩
    · rw [if_neg h]
      rcases envOf_lk r (k + 1) t with h1 | ⟨h1, h2⟩
      · exact .inl h1
      · refine .inr ⟨by omega, ?_⟩
        rw [show t - k = (t - (k + 1)) + 1 from by omega]
        simpa using h2
theorem envOf_ok {G : Gh} {args : List AV} {vals : List Value} (h : All2 (Ar G) args vals) (n : Nat) (t : Nat) : Ar G (lk t (envOf args 0)) ((vals.toArray ++ Array.replicate n undef).getD t undef) := by
  rcases envOf_lk args 0 t with h1 | ⟨_, h2⟩
  · rw [h1]; trivial
  · obtain ⟨v, hv, hr⟩ := h.get _ _ h2
    have hlt := getElem?_lt hv
    simp only [Nat.sub_zero] at hv hlt
    have e : vals[t] = v := by rw [List.getElem?_eq_getElem hlt] at hv; exact Option.some.inj hv
    have : (vals.toArray ++ Array.replicate n undef).getD t undef = v := by
      simp [Array.getD_eq_getD_getElem?, Array.getElem?_append, hlt, e]
    rw [this]; exact hr
def cellD (fr : Option Nat) (h : List LB) : C → Option D
  | .d x => some x
  | .own i ver => match h[i]? with
    | some (.row _ sz els v) => if v = ver ∧ fr ≠ some i then some (.lst sz els) else none
    | _ => none
  | _ => none
def cellDs (fr : Option Nat) (h : List LB) : List C → Option (List D)
  | [] => some []
  | c :: r => match cellD fr h c, cellDs fr h r with
    | some x, some l => some (x :: l)
    | _, _ => none
def rvOf (fr : Option Nat) (h : List LB) : AV → Option RV
  | .c c => match cellD fr h c with
    | some x => some (.d x)
    | none => match c with
      | .own i ver => match h[i]? with
        | some (.row t sz els v) => if v = ver ∧ fr = some i then some (.fresh t sz els) else none
        | _ => none
      | _ => none
  | .agg cs => (cellDs fr h cs).map RV.agg
  | _ => none
def resAV (P : Program) (st : St) : ResultVar → Option AV
  | .tmp t => match lk t st.env with
    | .any => none
    | α => some α
  | .cell t ty => match lk t st.env with
    | .c (.loc i off) => match st.heap[i]?, ldT P ty with
      | some (.box _ cs), some none => (cs[off]?).map AV.c
      | some (.box _ cs), some (some n) => if off + n ≤ cs.length then some (.agg ((cs.drop off).take n)) else none
      | _, _ => none
    | _ => none
def resRun (tmps : Array Value) : ResultVar → Sem Value
  | .tmp t => pure (tmps.getD t undef)
  | .cell x t => do loadVar t (← asAddr (tmps.getD x undef))
theorem results_eq (fn : Func) (tmps : Array Value) : results fn tmps = (do let vs ← fn.results.mapM (resRun tmps); pure (if h : vs.size = 1 then vs[0] else .tuple vs)) := rfl
theorem loadAt_asAddr {t : TypeId} {q v : Value} {w : World} (h : (Instr.loadAt t q).run P w = .ok v w) : (do loadVar t (← asAddr q) : Sem Value).run P w = .ok v w := by
  cases q with
  | pointer o => cases o with
    | some ad => exact h
    | none => simp [Instr.loadAt, Instr.sureAddr] at h
  | _ => simp [Instr.loadAt, Instr.sureAddr] at h
theorem resAV_ok {cx : Cx} {G : Gh} {st : St} {a : Act} {w : World} (s : Sat cx G st a w) : ∀ (r : ResultVar) (α : AV), resAV P st r = some α →
    ∃ v, (resRun a.tmps r).run P w = .ok v w ∧ Ar G α v := by
  intro r α h
  cases r with
  | tmp t =>
    have hr : Ar G (lk t st.env) (a.tmps.getD t undef) := s.ev (.tmp t)
    refine ⟨a.tmps.getD t undef, rfl, ?_⟩
    simp only [resAV] at h
    generalize lk t st.env = β at h hr
    cases β <;> simp at h <;> subst h <;> exact hr
  | cell t ty =>
    have hr : Ar G (lk t st.env) (a.tmps.getD t undef) := s.ev (.tmp t)
    simp only [resAV] at h
    generalize lk t st.env = β at h hr
    split at h
    · next i off =>
      split at h
      · next tb cs hi hl =>
        obtain ⟨ad, vs, hv, hc, hcell⟩ := (ptAt_of s.h (α := .c (.loc i off)) (cs := cs.drop off) (by simp [cellsAt, hi]) hr).form
        cases hcs : cs[off]? with
        | none => simp [hcs] at h
        | some c =>
          simp [hcs] at h
          subst h
          obtain ⟨u, hu, hcu⟩ := hc.get 0 c (by simp [hcs])
          refine ⟨u, ?_, hcu⟩
          have := run_loadAt1 hl (hcell 0 u hu)
          simp only [add_zero] at this
          refine loadAt_asAddr ?_
          rw [hv]; exact this
      · next tb cs n hi hl =>
        split at h
        · next hle =>
          cases h
          obtain ⟨ad, vs, hv, hc, hcell⟩ := (ptAt_of s.h (α := .c (.loc i off)) (cs := cs.drop off) (by simp [cellsAt, hi]) hr).form
          have hlen := hc.length
          simp at hlen
          refine ⟨.agg (vs.take n).toArray, ?_, vs.take n, rfl, hc.take n⟩
          have := run_loadAtN (vs := vs.take n) hl (by simp; omega) (fun j u hu => hcell j u (by
            rw [List.getElem?_take] at hu
            split at hu
            · exact hu
            · cases hu))
          refine loadAt_asAddr ?_
          rw [hv]; exact this
        · cases h
      · cases h
    · cases h
def resAVs (P : Program) (st : St) : List ResultVar → Option (List AV)
  | [] => some []
  | r :: rs => match resAV P st r, resAVs P st rs with
    | some α, some l => some (α :: l)
    | _, _ => none
def rvsOf (fr : Option Nat) (h : List LB) : List AV → Option (List RV)
  | [] => some []
  | α :: r => match rvOf fr h α, rvsOf fr h r with
    | some x, some l => some (x :: l)
    | _, _ => none
theorem resAVs_ok {cx : Cx} {G : Gh} {st : St} {a : Act} {w : World} (s : Sat cx G st a w) : ∀ (rs : List ResultVar) (αs : List AV), resAVs P st rs = some αs →
    ∃ vs : List Value, (rs.mapM (resRun a.tmps)).run P w = .ok vs w ∧ All2 (Ar G) αs vs
  | [], αs, h => by cases h; exact ⟨[], rfl, .nil⟩
  | r :: rs, αs, h => by
    simp only [resAVs] at h
    split at h
    · next α l h1 h2 =>
      cases h
      obtain ⟨v, hv, hr⟩ := resAV_ok s r α h1
      obtain ⟨vs, hvs, hrs⟩ := resAVs_ok s rs l h2
      refine ⟨v :: vs, ?_, .cons hr hrs⟩
      simp only [List.mapM_cons, Sem.run_bind, hv, Result.andThen_ok, hvs, Sem.run_pure]
    · cases h
theorem run_results {cx : Cx} {G : Gh} {st : St} {a : Act} {w : World} (s : Sat cx G st a w) {fn : Func} {αs : List AV} (h : resAVs P st fn.results.toList = some αs) :
    ∃ vs : List Value, (results fn a.tmps).run P w = .ok (tupV vs) w ∧ All2 (Ar G) αs vs := by
  obtain ⟨vs, hv, hr⟩ := resAVs_ok s _ _ h
  refine ⟨vs, ?_, hr⟩
  rw [results_eq, Array.mapM_eq_mapM_toList]
  simp only [Sem.run_bind, Sem.run_map, hv, Result.andThen_ok, Sem.run_pure]
  congr 1
  match vs with
  | [] => rfl
  | [u] => rfl
  | u :: u' :: r => simp [tupV]
def exitV (V : Vw) (base : Nat) (fb : Option Nat) (w : World) : Vw :=
  ⟨fun b => if some b = fb then none else if base ≤ b then w.heap[b]? else V.H b, fun b => some b ≠ fb ∧ (V.I b ∨ (base ≤ b ∧ b < w.heap.size))⟩
theorem exit_dr {cx : Cx} {G : Gh} {h : List LB} {w : World} (s : SatH cx G h w) {V : Vw} (hV : cx.G0.V = V) (hS : cx.S = V.I) (h0 : ViewOk cx.pm.Γ V cx.w0) (fb : Option Nat) (hfb : ∀ b, fb = some b → G.V.H b = none) {x : D} {v : Value} (hd : Dr G.V x v) : Dr (exitV V cx.w0.heap.size fb w) x v := by
  refine hd.move (fun b hb => ?_) (fun b o hb ho => ?_)
  · obtain ⟨⟨o, h1⟩, h2⟩ := s.imm b hb
    refine ⟨fun e => ?_, ?_⟩
    · have := hfb b e.symm
      rw [this] at h1; cases h1
    · rcases h2 with h2 | h2
      · rw [hS] at h2; exact .inl h2
      · exact .inr ⟨h2, heap_lt (s.view b o h1)⟩
  · have hne : ¬ (some b = fb) := fun e => by
      have := hfb b e.symm
      rw [this] at ho; cases ho
    simp only [exitV, if_neg hne]
    split
    · exact s.view b o ho
    · next hlt =>
      rcases (s.imm b hb).2 with h2 | h2
      · rw [hS] at h2
        obtain ⟨o', ho'⟩ := h0.imm b h2
        have e1 := h0.view b o' ho'
        have e2 := s.view b o ho
        rw [s.below.block b (by omega), e1] at e2
        rw [ho']; exact e2
      · omega
theorem exit_own {cx : Cx} {G : Gh} {h : List LB} {w : World} (s : SatH cx G h w) {V : Vw} (hV : cx.G0.V = V) (hS : cx.S = V.I) (h0 : ViewOk cx.pm.Γ V cx.w0) (fb : Option Nat) (hfb : ∀ b, fb = some b → G.V.H b = none)
    {i ver : Nat} {t : TypeId} {sz : Nat} {els : List (List D)} (hi : h[i]? = some (.row t sz els ver)) {v : Value} (hv : Cr G (.own i ver) v) (hne : ∀ b, fb = some b → v.ownBlock ≠ some b) : Dr (exitV V cx.w0.heap.size fb w) (.lst sz els) v := by
  obtain ⟨v0, xs, hg, how, _, hd, hl⟩ := row_at s hi
  obtain ⟨_, v0', n', hg', _, hx⟩ := hv
  rw [hg] at hg'
  cases hg'
  have := hx rfl
  subst this
  obtain ⟨A, cap, hvv, hc, hm⟩ := own_form how
  subst hvv
  refine .lst sz els A cap (fun i j => xs.getD (i * sz + j) undef) hc hm hl (fun hn => ?_) (fun i e j c h1 h2 => ?_)
  · have hpos : 0 < els.length := List.length_pos_iff.2 hn
    obtain ⟨g, cap', hv', hb, _, _, hcell⟩ := own_cells how hpos
    injection hv' with hA _ _
    subst hA
    have hnb : ¬ (some g = fb) := fun e => hne g e.symm rfl
    have hcell0 : ∀ (j : Nat) (u : Value), xs[j]? = some u → g < w.heap.size := fun j u hj => by
      have := hcell j u hj
      unfold World.cell? at this
      rcases Nat.lt_or_ge g w.heap.size with h | h
      · exact h
      · rw [Array.getElem?_eq_none h] at this; cases this
    have hglt : g < w.heap.size := by
      obtain ⟨_, ⟨e, _⟩ | ⟨g', cap'', cur, e, _, hh, _⟩⟩ := how
      · cases e
      · cases e; exact heap_lt hh
    refine ⟨⟨g, 0, none⟩, rfl, ⟨hnb, .inr ⟨hb, hglt⟩⟩, fun i e j c h1 h2 => ?_⟩
    obtain ⟨u, hb1, hb2⟩ := hd.get _ _ (flat_get els hl i e j c h1 h2)
    have hq := hcell _ u hb1
    rw [add_plain, Nat.zero_add]
    rw [← cellIn_world] at hq
    have : cellIn (exitV V cx.w0.heap.size fb w).H ⟨g, i * sz + j, none⟩ = cellIn (fun b => w.heap[b]?) ⟨g, i * sz + j, none⟩ := by
      simp only [cellIn, exitV, if_neg hnb, if_pos hb]
    rw [this, hq]
    simp [hb1]
  · obtain ⟨u, hb1, hb2⟩ := hd.get _ _ (flat_get els hl i e j c h1 h2)
    simpa [hb1] using exit_dr s hV hS h0 fb hfb hb2
end Go.Ax

/- A rune as a string. No condition. -/
namespace Go.Ax
open Go Go.Lib
theorem encode_eq (r : Int) : (Utf8.encode r).data.toList = encodeRune r := by
  by_cases hv : (0 ≤ r ∧ r < 55296) ∨ (57344 ≤ r ∧ r ≤ 1114111)
  · have hval : Utf8.valid r = true := by unfold Utf8.valid; simp; omega
    obtain ⟨c, rfl⟩ : ∃ c : Nat, r = c := ⟨r.toNat, by omega⟩
    unfold Utf8.encode
    simp only [hval, if_true, Int.toNat_natCast]
    by_cases h1 : c < 128
    · rw [if_pos h1]
      have e : encodeRuneZ (c : Int) = [(c : Int)] := encodeRuneZ_one (by omega) (by omega)
      simp [encodeRune, e, UInt8.ofNat, Nat.toUInt8]
    · rw [if_neg h1]
      by_cases h2 : c < 2048
      · rw [if_pos h2]
        have e : encodeRuneZ (c : Int) = [192 + (c : Int) / 64, 128 + (c : Int) % 64] := encodeRuneZ_two (by omega) (by omega)
        have a1 : (192 + (c : Int) / 64).toNat = 192 + c / 64 := by omega
        have a2 : (128 + (c : Int) % 64).toNat = 128 + c % 64 := by omega
        simp only [encodeRune, e, List.map_cons, List.map_nil, a1, a2]
      · rw [if_neg h2]
        by_cases h3 : c < 65536
        · rw [if_pos h3]
          have e : encodeRuneZ (c : Int) = [224 + (c : Int) / 4096, 128 + (c : Int) / 64 % 64, 128 + (c : Int) % 64] := encodeRuneZ_three (by omega)
          have a1 : (224 + (c : Int) / 4096).toNat = 224 + c / 4096 := by omega
          have a2 : (128 + (c : Int) / 64 % 64).toNat = 128 + c / 64 % 64 := by omega
          have a3 : (128 + (c : Int) % 64).toNat = 128 + c % 64 := by omega
          simp only [encodeRune, e, List.map_cons, List.map_nil, a1, a2, a3]
        · rw [if_neg h3]
          have e : encodeRuneZ (c : Int) = [240 + (c : Int) / 262144, 128 + (c : Int) / 4096 % 64, 128 + (c : Int) / 64 % 64, 128 + (c : Int) % 64] := encodeRuneZ_four (by omega) (by omega)
          have a1 : (240 + (c : Int) / 262144).toNat = 240 + c / 262144 := by omega
          have a2 : (128 + (c : Int) / 4096 % 64).toNat = 128 + c / 4096 % 64 := by omega
          have a3 : (128 + (c : Int) / 64 % 64).toNat = 128 + c / 64 % 64 := by omega
          have a4 : (128 + (c : Int) % 64).toNat = 128 + c % 64 := by omega
          simp only [encodeRune, e, List.map_cons, List.map_nil, a1, a2, a3, a4]
  · have hval : Utf8.valid r = false := by unfold Utf8.valid; simp; omega
    have e : encodeRuneZ r = [239, 191, 189] := encodeRuneZ_bad (by omega)
    unfold Utf8.encode
    simp only [hval, Bool.false_eq_true, if_false]
    simp only [encodeRune, e]
    decide
theorem encode_str (r : Int) : Utf8.encode r = ⟨(encodeRune r).toArray⟩ := by
  rw [← encode_eq]
end Go.Ax

/-
  A function's body proves its contract; a call by its contract; a call walked in place. No condition.
-/
namespace Go.Ax
open Go Go.RowKit
variable {P : Program} {Γ : List (Nat × List D)}
theorem cellD_ok {cx : Cx} {G : Gh} {h : List LB} {w : World} (s : SatH cx G h w) {V : Vw} (hV : cx.G0.V = V) (hS : cx.S = V.I) (h0 : ViewOk cx.pm.Γ V cx.w0) {fr : Option Nat} {fb : Option Nat} (hfb : ∀ b, fb = some b → G.V.H b = none)
    (hfr : ∀ b, fb = some b → ∃ i lb e, fr = some i ∧ h[i]? = some lb ∧ lb.live ∧ G.g[i]? = some e ∧ blkOf e.1 = some b) {c : C} {x : D} (hc : cellD fr h c = some x) {v : Value} (hv : Cr G c v) : Dr (exitV V cx.w0.heap.size fb w) x v := by
  cases c with
  | d y => cases hc; exact exit_dr s hV hS h0 fb hfb hv
  | own i ver =>
    simp only [cellD] at hc
    split at hc
    · next t sz els v' hi =>
      split at hc
      · next hcond =>
        cases hc
        obtain ⟨rfl, hne⟩ := hcond
        refine exit_own s hV hS h0 fb hfb hi hv fun b hb hob => ?_
        obtain ⟨i', lb, e, q1, q2, q3, q4, q5⟩ := hfr b hb
        obtain ⟨v0, xs, hg, how, _⟩ := row_at s hi
        obtain ⟨_, v0', n', hg', _, hx⟩ := hv
        rw [hg] at hg'
        cases hg'
        have := hx rfl
        subst this
        have := s.sep i i' _ lb _ e b hi q2 trivial q3 hg q4 ((row_form how).2.2.1 b hob) q5
        exact hne (by rw [q1, this])
      · cases hc
    · cases hc
  | _ => cases hc
theorem rvOf_ok {cx : Cx} {G : Gh} {h : List LB} {w : World} (s : SatH cx G h w) {V : Vw} (hV : cx.G0.V = V) (hS : cx.S = V.I) (h0 : ViewOk cx.pm.Γ V cx.w0) {fr : Option Nat} {fb : Option Nat} (hfb : ∀ b, fb = some b → G.V.H b = none)
    (hfr : ∀ b, fb = some b → ∃ i lb e, fr = some i ∧ h[i]? = some lb ∧ lb.live ∧ G.g[i]? = some e ∧ blkOf e.1 = some b) (hfr' : ∀ i e b, fr = some i → G.g[i]? = some e → blkOf e.1 = some b → fb = some b)
    {α : AV} {r : RV} (hc : rvOf fr h α = some r) {v : Value} (hv : Ar G α v) : Rr (exitV V cx.w0.heap.size fb w) w cx.w0.heap.size r v := by
  cases α with
  | any => cases hc
  | tup vs => cases hc
  | c c =>
    simp only [rvOf] at hc
    split at hc
    · next x hx => cases hc; exact cellD_ok s hV hS h0 hfb hfr hx hv
    · split at hc
      · next i ver _ =>
        split at hc
        · next t sz els v' hi =>
          split at hc
          · next hcond =>
            cases hc
            obtain ⟨rfl, hi'⟩ := hcond
            obtain ⟨v0, xs, hg, how, hob, hd, hl⟩ := row_at s hi
            obtain ⟨_, v0', n', hg', _, hx⟩ := (hv : Cr G (.own i v') v)
            rw [hg] at hg'
            cases hg'
            have := hx rfl
            subst this
            refine ⟨xs, how, fun b hb => ?_, hd.imp fun _ _ hdd => exit_dr s hV hS h0 fb hfb hdd, hl⟩
            have := hfr' i _ b hi' hg ((row_form how).2.2.1 b hb)
            simp [exitV, this]
          · cases hc
        · cases hc
      · cases hc
  | agg cs =>
    simp only [rvOf] at hc
    cases e : cellDs fr h cs with
    | none => simp [e] at hc
    | some ds =>
      simp [e] at hc
      subst hc
      obtain ⟨vs, rfl, hcs⟩ := hv
      refine ⟨vs, rfl, ?_⟩
      induction hcs generalizing ds with
      | nil => cases e; exact .nil
      | cons hh ht ih =>
        simp only [cellDs] at e
        split at e
        · next x l h1 h2 => cases e; exact .cons (cellD_ok s hV hS h0 hfb hfr h1 hh) (ih _ h2)
        · cases e
def Fin (P : Program) (res : List ResultVar) (fr : Option Nat) (rs : List RV) : Exit → St → Prop := fun e st =>
  (e = .ret ∨ e = .normal) ∧ ∃ αs, resAVs P st res = some αs ∧ rvsOf fr st.heap αs = some rs
theorem rvsOf_ok {cx : Cx} {G : Gh} {h : List LB} {w : World} (s : SatH cx G h w) {V : Vw} (hV : cx.G0.V = V) (hS : cx.S = V.I) (h0 : ViewOk cx.pm.Γ V cx.w0) {fr : Option Nat} {fb : Option Nat} (hfb : ∀ b, fb = some b → G.V.H b = none)
    (hfr : ∀ b, fb = some b → ∃ i lb e, fr = some i ∧ h[i]? = some lb ∧ lb.live ∧ G.g[i]? = some e ∧ blkOf e.1 = some b) (hfr' : ∀ i e b, fr = some i → G.g[i]? = some e → blkOf e.1 = some b → fb = some b) :
    ∀ (αs : List AV) (rs : List RV) (vs : List Value), rvsOf fr h αs = some rs → All2 (Ar G) αs vs → All2 (Rr (exitV V cx.w0.heap.size fb w) w cx.w0.heap.size) rs vs
  | [], rs, vs, hc, hv => by cases hc; cases hv; exact .nil
  | α :: αs, rs, vs, hc, hv => by
    cases hv with
    | cons h1 h2 =>
      simp only [rvsOf] at hc
      split at hc
      · next x l q1 q2 => cases hc; exact .cons (rvOf_ok s hV hS h0 hfb hfr hfr' q1 h1) (rvsOf_ok s hV hS h0 hfb hfr hfr' αs l _ q2 h2)
      · cases hc
theorem exit_after {cx : Cx} {G : Gh} {st : St} {a : Act} {w : World} (s : Sat cx G st a w) {V : Vw} (hV : cx.G0.V = V) (hS : cx.S = V.I) (h0 : ViewOk cx.pm.Γ V cx.w0) {fr : Option Nat} (hlive : ∀ i, fr = some i → ∃ lb, st.heap[i]? = some lb ∧ lb.live)
    {αs : List AV} {rs : List RV} {vs : List Value} (hr : rvsOf fr st.heap αs = some rs) (hv : All2 (Ar G) αs vs) : After V cx.w0 rs (.returned (tupV vs)) w := by
  obtain ⟨fb, hfb, hfr, hfr'⟩ : ∃ fb : Option Nat, (∀ b, fb = some b → G.V.H b = none) ∧ (∀ b, fb = some b → ∃ i lb e, fr = some i ∧ st.heap[i]? = some lb ∧ lb.live ∧ G.g[i]? = some e ∧ blkOf e.1 = some b) ∧
      (∀ i e b, fr = some i → G.g[i]? = some e → blkOf e.1 = some b → fb = some b) := by
    cases fr with
    | none => exact ⟨none, fun b h => (by cases h), fun b h => (by cases h), fun i e b h => (by cases h)⟩
    | some i =>
      obtain ⟨lb, h1, h2⟩ := hlive i rfl
      obtain ⟨e, h3, h4⟩ := s.h.entry h1
      refine ⟨blkOf e.1, fun b hb => (h4.blk h2 hb).2.2, fun b hb => ⟨i, lb, e, rfl, h1, h2, h3, hb⟩, fun i' e' b q1 q2 q3 => ?_⟩
      cases q1
      rw [h3] at q2
      cases q2
      exact q3
  have hfbb : ∀ b, fb = some b → cx.w0.heap.size ≤ b := fun b hb => by
    obtain ⟨i, lb, e, _, q2, q3, q4, q5⟩ := hfr b hb
    exact ((s.h.ent i lb e q2 q4).blk q3 q5).1
  refine ⟨exitV V cx.w0.heap.size fb w, vs, rfl, ⟨fun b o ho => ?_, fun b hb => ?_⟩, fun b o ho => ?_, fun b hb => ?_, rvsOf_ok s.h hV hS h0 hfb hfr hfr' αs rs vs hr hv, s.h.below⟩
  · have hlt := heap_lt (h0.view b o ho)
    have hne : ¬ (some b = fb) := fun e => by have := hfbb b e.symm; omega
    simp only [exitV, if_neg hne]
    rw [if_neg (by omega)]
    exact ho
  · obtain ⟨o, ho⟩ := h0.imm b hb
    have hlt := heap_lt (h0.view b o ho)
    exact ⟨fun e => by have := hfbb b e.symm; omega, .inl hb⟩
  · simp only [exitV] at ho
    split at ho
    · cases ho
    · split at ho
      · exact ho
      · next hlt =>
        rw [s.h.below.block b (by omega)]
        exact h0.view b o ho
  · obtain ⟨h1, h2⟩ := hb
    refine ⟨?_, h2.imp id fun h => h.1⟩
    simp only [exitV, if_neg h1]
    split
    · next hge =>
      rcases h2 with h2 | h2
      · obtain ⟨o, ho⟩ := h0.imm b h2
        have hlt := heap_lt (h0.view b o ho)
        omega
      · exact ⟨_, Array.getElem?_eq_getElem h2.2⟩
    · next hlt =>
      rcases h2 with h2 | h2
      · exact h0.imm b h2
      · omega
theorem AFn.of_body {f : FuncId} {fn : Func} {c : Code} {args : List AV} {rs : List RV} (hf : P.funcs[f]? = some fn) (hname : (fn.name == "runtime.NumGoroutine") = false) (hb : fn.body = some c) (hN : args.length ≤ fn.ntmps) (fr : Option Nat)
    (hfr : ∀ i (st : St) (αs : List AV), fr = some i → rvsOf fr st.heap αs = some rs → ∃ lb, st.heap[i]? = some lb ∧ lb.live)
    (h : AXc P ⟨0, fn.ntmps, Γ⟩ c ⟨envOf args 0, []⟩ (Fin P fn.results.toList fr rs)) : AFn P Γ f args rs := by
  refine ⟨⟨fn, hf, hname, by rw [hb]; rfl⟩, fun V w vals h0 hargs => ?_⟩
  refine calls_of_wp hf hb ?_
  have hl := hargs.length
  let cx : Cx := ⟨⟨0, fn.ntmps, Γ⟩, w, V.I, ⟨V, []⟩, [], 0⟩
  have sat : Sat cx ⟨V, []⟩ ⟨envOf args 0, []⟩ { tmps := vals.toArray ++ Array.replicate (fn.ntmps - vals.toArray.size) undef, defers := [] } w := by
    refine ⟨⟨rfl, fun i b e hi => by simp at hi, fun i j bi bj ei ej k hi => by simp at hi, h0.view, fun b hb => ⟨h0.imm b hb, .inl hb⟩, .refl _ _, .refl _ _, h0.glob, Nat.zero_le _⟩, envOf_ok hargs _, ?_, rfl⟩
    · simp [cx]; omega
  refine wp_mono (h cx ⟨V, []⟩ _ w rfl sat).1 ?_
  rintro e a' w' ⟨G', st', s', he, αs, h1, h2⟩
  obtain ⟨vs, hres, hvs⟩ := run_results s' h1
  have hafter : After V cx.w0 rs (.returned (tupV vs)) w' := exit_after s' rfl rfl h0 (fun i hi => hfr i st' αs hi h2) h2 hvs
  rcases he with rfl | rfl
  · exact ⟨s'.defers, _, hres, hafter⟩
  · exact ⟨s'.defers, _, hres, hafter⟩
/-! ### calls -/
def ArgOk (pm : Pm) (h : List LB) (α α' : AV) : Prop :=
  ∀ (cx : Cx) (G : Gh) (w : World) (v : Value), cx.pm = pm → SatH cx G h w → Ar G α v → Ar ⟨⟨fun b => w.heap[b]?, G.V.I⟩, []⟩ α' v
theorem SatH.le {cx : Cx} {G : Gh} {h : List LB} {w : World} (s : SatH cx G h w) : G.V.Le ⟨fun b => w.heap[b]?, G.V.I⟩ := ⟨s.view, fun _ h => h⟩
theorem ArgOk.d {pm : Pm} {h : List LB} {x : D} : ArgOk pm h (.c (.d x)) (.c (.d x)) := fun _ _ _ _ _ s hv => Dr.mono s.le hv
theorem ArgOk.agg {pm : Pm} {h : List LB} {cs : List C} {ds : List D} (hc : toDs cs = some ds) : ArgOk pm h (.agg cs) (.agg (ds.map C.d)) := fun _ _ _ _ _ s hv => by
  obtain ⟨vs, rfl, hvs⟩ := hv
  rw [toDs_ok _ _ hc] at hvs
  have h1 := (all2_dr hvs).imp fun _ _ hd => hd.mono s.le
  exact ⟨vs, rfl, All2.map_left (f := C.d) (R := Cr _) h1⟩
theorem ArgOk.bor {pm : Pm} {h : List LB} {α : AV} {sz : Nat} {els : List (List D)} (hα : elsOf h α = some (sz, els)) : ArgOk pm h α (.c (.bor sz els)) := fun _ _ _ _ _ s hv => by
  obtain ⟨A, cap, u, h1, h2, h3, h4, h5, h6⟩ := (slAt_of s hα hv).form
  exact ⟨A, cap, u, h1, h2, h3, h4, fun hn => by obtain ⟨ad, e, hc⟩ := h5 hn; exact ⟨ad, e, hc⟩, fun i e j c a b => (h6 i e j c a b).mono s.le⟩
theorem ArgOk.nil_bor {pm : Pm} {h : List LB} {sz : Nat} : ArgOk pm h (.c (.d (.raw (.slice none 0 0)))) (.c (.bor sz [])) := fun _ _ _ _ _ _ hv => by
  have := ar_raw hv
  subst this
  exact ⟨none, 0, fun _ _ => undef, rfl, by simp, by simp, by simp, by simp, by simp⟩
theorem ArgOk.nil_lst {pm : Pm} {h : List LB} {sz : Nat} : ArgOk pm h (.c (.d (.raw (.slice none 0 0)))) (.c (.d (.lst sz []))) := fun _ _ _ _ _ _ hv => by
  have := ar_raw hv
  subst this
  exact Dr.lst sz [] none 0 (fun _ _ => undef) (by simp) (by simp) (by simp) (by simp) (by simp)
theorem ArgOk.ptr {pm : Pm} {h : List LB} {α : AV} {cs : List C} {ds : List D} (hα : cellsAt h α = some cs) (hc : toDs cs = some ds) : ArgOk pm h α (.c (.ptr ds)) := fun _ _ _ _ _ s hv => by
  obtain ⟨ad, vs, rfl, hvs, hcell⟩ := (ptAt_of s hα hv).form
  rw [toDs_ok _ _ hc] at hvs
  have hd := all2_dr hvs
  refine ⟨ad, fun j => vs.getD j undef, rfl, fun j c hj => ?_⟩
  obtain ⟨u, hu, hdu⟩ := hd.get j c hj
  have := hcell j u hu
  rw [← cellIn_world] at this
  simp only [List.getD, hu, Option.getD_some]
  exact ⟨this, hdu.mono s.le⟩
theorem ArgOk.fn {pm : Pm} {h : List LB} {R : Vw → Value → Prop} : ArgOk pm h (.c (.fn R)) (.c (.fn R)) := fun _ _ _ _ _ s hv => ⟨hv.1, fun V' hV => hv.2 V' (s.le.trans hV)⟩
def FnSpec (P : Program) (Γ : List (Nat × List D)) (F : List AV → List RV → Prop) : Vw → Value → Prop := fun V v =>
  ∃ (f : FuncId) (caps : Array Value), v = .func (.func f) #[] caps ∧ CallOk P f ∧ ∀ args rs, F args rs → ∀ (V2 : Vw) (w : World) (vals : List Value), V.Le V2 → ViewOk Γ V2 w → All2 (Ar ⟨V2, []⟩) args vals → Calls P f (vals.toArray ++ caps) w (After V2 w rs)
theorem ArgOk.clo {pm : Pm} {h : List LB} {f : FuncId} {caps : List Nat} {F : List AV → List RV → Prop} {dss : List (List D)} (hcall : CallOk P f) (hcaps : (caps.map fun i => ((h[i]?).bind fun | .box _ cs => toDs cs | _ => none)) = dss.map some)
    (hF : ∀ args rs, F args rs → AFn P Γ f (args ++ dss.map fun ds => .c (.ptr ds)) rs) : ArgOk pm h (.c (.clo f caps)) (.c (.fn (FnSpec P Γ F))) := by
  intro cx G w v _ s hv
  obtain ⟨bs, rfl, hbs⟩ := hv
  refine ⟨rfl, fun V1 hV1 => ⟨f, _, rfl, hcall, fun args rs hf V2 w2 vals hV2 hview hargs => ?_⟩⟩
  have key : ∀ (caps bs : List Nat) (dss : List (List D)), All2 (fun i b => ∃ n, G.g[i]? = some (.pointer (some ⟨b, 0, none⟩), n)) caps bs → (caps.map fun i => ((h[i]?).bind fun | .box _ cs => toDs cs | _ => none)) = dss.map some →
      All2 (Ar ⟨V2, []⟩) (dss.map fun ds => .c (.ptr ds)) (bs.map fun b => Value.pointer (some ⟨b, 0, none⟩)) := by
    intro caps bs dss hh
    induction hh generalizing dss with
    | nil => intro e; cases dss with
      | nil => exact .nil
      | cons => simp at e
    | @cons i b caps bs h1 h2 ih =>
      intro e
      cases dss with
      | nil => simp at e
      | cons ds dss =>
        simp only [List.map_cons, List.cons.injEq] at e
        refine .cons ?_ (ih dss e.2)
        cases hi : h[i]? with
        | none => simp [hi] at e
        | some lb =>
          cases lb with
          | box t cs =>
            simp [hi] at e
            obtain ⟨b', vs, hg, _, _, hb, hc⟩ := box_at s hi
            obtain ⟨n, hg'⟩ := h1
            rw [hg] at hg'
            have hbb : b' = b := by injection hg' with hg'; injection hg' with hg' _; injection hg' with hg'; injection hg' with hg'; injection hg'
            subst hbb
            rw [toDs_ok _ _ e.1] at hc
            have hd := all2_dr hc
            refine ⟨⟨b', 0, none⟩, fun j => vs.getD j undef, rfl, fun j c hj => ?_⟩
            obtain ⟨u, hu, hdu⟩ := hd.get j c hj
            have hle := hV1.trans hV2
            have hblk := hle.H b' _ hb
            simp only [List.getD, hu, Option.getD_some]
            refine ⟨?_, (hdu.mono s.le).mono hle⟩
            rw [add_plain]
            simp [cellIn, hblk, hu]
          | _ => simp [hi] at e
  have := (hF args rs hf).run V2 w2 (vals ++ bs.map fun b => Value.pointer (some ⟨b, 0, none⟩)) hview (hargs.append (key caps bs dss hbs hcaps))
  simpa using this
end Go.Ax
