/- Part of a proof about this program; no condition of its own. -/
import Derived.Test.YtglonmggpbajgaaDoorGxL
import Derived.RangeFuncFrom
import Derived.RangeFuncLeaves
import Derived.Test.YtglonmggpbajgaaDoorGxD
import Derived.Test.YtglonmggpbajgaaDoorGxB
set_option linter.all false
/- A range over a function, whose rounds are walked in the abstract state; the end of a function that holds one. No condition. -/
namespace Go.Ax
open Go Go.RowKit
variable {P : Program}

/-! ### entries of plain cells -/
def flatC : C → Prop
  | .d x => x.flat = true
  | .own _ _ => True
  | .loc _ _ => True
  | _ => False
def flatH : List LB → Prop
  | [] => True
  | .box _ cs :: r => (∀ c ∈ cs, flatC c) ∧ flatH r
  | .row _ _ els _ :: r => (∀ e ∈ els, ∀ d ∈ e, d.flat = true) ∧ flatH r
  | .dead :: r => flatH r
  | _ => False
def flatB : LB → Prop
  | .box _ cs => ∀ c ∈ cs, flatC c
  | .row _ _ els _ => ∀ e ∈ els, ∀ d ∈ e, d.flat = true
  | .dead => True
  | _ => False
theorem flatH_at : ∀ {h : List LB}, flatH h → ∀ b ∈ h, flatB b
  | [], _, b, hb => by cases hb
  | .box _ _ :: r, hh, b, hb => by
    rcases List.mem_cons.1 hb with rfl | hb
    · exact hh.1
    · exact flatH_at hh.2 b hb
  | .row _ _ _ _ :: r, hh, b, hb => by
    rcases List.mem_cons.1 hb with rfl | hb
    · exact hh.1
    · exact flatH_at hh.2 b hb
  | .dead :: r, hh, b, hb => by
    rcases List.mem_cons.1 hb with rfl | hb
    · exact trivial
    · exact flatH_at (h := r) hh b hb
  | .mp _ _ :: r, hh, b, hb => hh.elim
  | .it _ _ :: r, hh, b, hb => hh.elim
theorem flat_dr {V V' : Vw} {x : D} {v : Value} (hx : x.flat = true) (h : Dr V x v) : Dr V' x v := by
  cases h <;> first | exact .int _ _ | exact .bool _ | exact .str _ | (simp [D.flat] at hx)
theorem flat_cr {V V' : Vw} {g : List (Value × Nat)} {c : C} {v : Value} (hc : flatC c) (h : Cr ⟨V, g⟩ c v) : Cr ⟨V', g⟩ c v := by
  cases c with
  | d x => exact flat_dr hc h
  | own i ver => exact h
  | loc i o => exact h
  | _ => exact hc.elim
def flatA : AV → Prop
  | .any => True
  | .c c => flatC c
  | _ => False
theorem flat_ar {V V' : Vw} {g : List (Value × Nat)} {α : AV} {v : Value} (hc : flatA α) (h : Ar ⟨V, g⟩ α v) : Ar ⟨V', g⟩ α v := by
  cases α with
  | any => trivial
  | c c => exact flat_cr hc h
  | _ => exact hc.elim

/-- An entry of plain cells: its block is cells. -/
theorem flat_cells {G : Gh} {w : World} {base : Nat} {b : LB} {e : Value × Nat} (hf : flatB b) (hl : b.live) (h : Lr G w base b e) {k : Nat} (hk : blkOf e.1 = some k) : ∃ o, w.heap[k]? = some o ∧ o.isCells = true := by
  cases b with
  | dead => exact hl.elim
  | box t cs =>
    obtain ⟨h1, b, vs, h2, h3, h4, h5, h6⟩ := h
    rw [h2] at hk; cases hk
    exact ⟨_, h5, rfl⟩
  | row t sz els ver =>
    obtain ⟨h1, xs, ⟨_, h2⟩, h3, _⟩ := h
    rcases h2 with ⟨e2, _⟩ | ⟨g, cap, cur, e2, hg, hh, _⟩
    · rw [e2] at hk; cases hk
    · rw [e2] at hk; cases hk
      exact ⟨_, hh, rfl⟩
  | mp _ _ => exact hf.elim
  | it _ _ => exact hf.elim

/-- The same under another view that knows nothing of the entries' blocks. -/
theorem flat_lr {V V' : Vw} {g : List (Value × Nat)} {w : World} {base : Nat} {b : LB} {e : Value × Nat} (hf : flatB b) (h : Lr ⟨V, g⟩ w base b e) (hn : b.live → ∀ k, blkOf e.1 = some k → V'.H k = none) : Lr ⟨V', g⟩ w base b e := by
  cases b with
  | dead => trivial
  | box t cs =>
    obtain ⟨h1, b, vs, h2, h3, h4, h5, h6⟩ := h
    exact ⟨h1, b, vs, h2, h3, hn trivial b (by rw [h2]; rfl), h5, h6.imp' fun c v hm hc => flat_cr (hf c hm) hc⟩
  | row t sz els ver =>
    obtain ⟨h1, xs, h2, h3, h4, h5⟩ := h
    refine ⟨h1, xs, h2, fun b hb => hn trivial b ?_, ?_, h5⟩
    · obtain ⟨_, ⟨e2, _⟩ | ⟨g', cap, cur, e2, _⟩⟩ := h2
      · rw [e2] at hb; cases hb
      · rw [e2] at hb ⊢; exact hb
    · refine h4.imp' fun d v hm hd => flat_dr ?_ hd
      obtain ⟨e', he, hd'⟩ := List.mem_flatten.1 hm
      exact hf e' he d hd'
  | mp _ _ => exact hf.elim
  | it _ _ => exact hf.elim

structure ViewIn (cx : Cx) (V : Vw) (w : World) : Prop where
  view : ∀ b o, V.H b = some o → w.heap[b]? = some o
  imm : ∀ b, V.I b → (∃ o, V.H b = some o) ∧ (cx.S b ∨ cx.w0.heap.size ≤ b)
  glob : ∀ p, p ∈ cx.pm.Γ → ∀ g, Gp ⟨V, g⟩ p

/-- Another view, entries of plain cells. -/
theorem SatH.review {cx cx' : Cx} {V V' : Vw} {g : List (Value × Nat)} {h : List LB} {w : World} (s : SatH cx ⟨V, g⟩ h w) (hf : flatH h) (hv : ViewIn cx' V' w) (hw : cx'.w0 = cx.w0) (hext : GLe cx'.pm.n0 cx'.G0 ⟨V', g⟩) (hsz : cx'.s0 ≤ w.heap.size)
    (hn : ∀ (i : Nat) (b : LB) (e : Value × Nat) (k : Nat), h[i]? = some b → g[i]? = some e → b.live → blkOf e.1 = some k → V'.H k = none) : SatH cx' ⟨V', g⟩ h w :=
  ⟨s.len, fun i b e hi he => hw ▸ flat_lr (flatH_at hf b (List.mem_of_getElem? hi)) (s.ent i b e hi he) fun hl k hk => hn i b e k hi he hl hk, s.sep, hv.view, hv.imm, hw ▸ s.below, hext, fun p hp => hv.glob p hp g, hsz⟩

/-- A block that is no cells turns, new blocks come. -/
theorem SatH.turned {cx : Cx} {V : Vw} {g : List (Value × Nat)} {h : List LB} {w w' : World} (s : SatH cx ⟨V, g⟩ h w) (hf : flatH h) {row : Option Nat} (hg : w.grownBy w' row) {B : Nat} (hB : cx.w0.heap.size ≤ B) (hVB : ∀ b o, V.H b = some o → b < B)
    (hr : ∀ r, row = some r → B ≤ r ∧ ∃ o : Obj, w.heap[r]? = some o ∧ o.isCells = false) : SatH cx ⟨V, g⟩ h w' := by
  refine ⟨s.len, fun i b e hi he => (s.ent i b e hi he).world fun hl k hk => ?_, s.sep, fun b o ho => ?_, s.imm, s.below.grown hg s.below.size (fun k e => Nat.le_trans hB (hr k e).1), s.ext, s.glob, Nat.le_trans s.sz hg.size⟩
  · have hb := (s.ent i b e hi he).blk hl hk
    refine hg.block k hb.2.1 fun e' => ?_
    obtain ⟨_, o, ho, hc⟩ := hr k e'.symm
    obtain ⟨o', ho', hc'⟩ := flat_cells (flatH_at hf b (List.mem_of_getElem? hi)) hl (s.ent i b e hi he) hk
    rw [ho] at ho'
    cases ho'
    rw [hc] at hc'; cases hc'
  · have hw := s.view b o ho
    rw [hg.block b (heap_lt hw) fun e' => by have := (hr b e'.symm).1; have := hVB b o ho; omega]
    exact hw

/-! ### the round's view -/
/-- What stays through a round: the view, and whatever is no cells. -/
def roundV (V : Vw) (w : World) : Vw := ⟨fun b => match V.H b with
  | some o => some o
  | none => match w.heap[b]? with
    | some o => if o.isCells then none else some o
    | none => none, V.I⟩
theorem roundV_le (V : Vw) (w : World) : V.Le (roundV V w) := ⟨fun b o h => by simp [roundV, h], fun _ h => h⟩
theorem roundV_view {V : Vw} {w : World} (hv : ∀ b o, V.H b = some o → w.heap[b]? = some o) : ∀ b o, (roundV V w).H b = some o → w.heap[b]? = some o := fun b o h => by
  simp only [roundV] at h
  split at h
  · next o' h' => cases h; exact hv b _ h'
  · split at h
    · next o' h' => split at h <;> cases h; exact h'
    · cases h
theorem roundV_other {V : Vw} {w : World} (hv : ∀ b o, V.H b = some o → w.heap[b]? = some o) {k : Nat} {o : Obj} (h : w.heap[k]? = some o) (hc : o.isCells = false) : (roundV V w).H k = some o := by
  simp only [roundV]
  split
  · next o' h' => rw [hv k o' h'] at h; exact h
  · rw [h]; simp [hc]
theorem roundV_cells {V : Vw} {w : World} {k : Nat} {o : Obj} (hn : V.H k = none) (h : w.heap[k]? = some o) (hc : o.isCells = true) : (roundV V w).H k = none := by
  simp [roundV, hn, h, hc]

def lowK (m : Nat) (e : Env) : Prop := ∀ t, (lk t e).low m
def flatE (e : Env) : Prop := ∀ t, flatA (lk t e)

theorem viewIn_round {cx : Cx} {G : Gh} {h : List LB} {w : World} (s : SatH cx G h w) (cx' : Cx) (hS : cx'.S = cx.S) (hw : cx'.w0 = cx.w0) (hΓ : cx'.pm.Γ = cx.pm.Γ) : ViewIn cx' (roundV G.V w) w :=
  ⟨roundV_view s.view, fun b hb => by
    obtain ⟨⟨o, ho⟩, h2⟩ := s.imm b hb
    exact ⟨⟨o, (roundV_le G.V w).H b o ho⟩, by rw [hS, hw]; exact h2⟩, fun p hp g => by
    have := s.glob p (hΓ ▸ hp)
    obtain ⟨⟨ad, u, e, hc⟩, cc, tt, fr, hh, hz⟩ := this
    exact ⟨⟨ad, u, e, fun j c hj => ⟨cellIn_le (fun o => (roundV_le G.V w).H _ o) (hc j c hj).1, Dr.mono (roundV_le G.V w) (hc j c hj).2⟩⟩, cc, tt, fr, (roundV_le G.V w).H _ _ hh, hz⟩⟩

/-- What a round must leave. -/
def RoundQ (pm : Pm) (st' : St) : Exit → St → Prop := fun e st => e = .normal ∧ Fw pm st st'

theorem round_ok {c : Code} {cx : Cx} {V : Vw} {g : List (Value × Nat)} {envK envB : Env} {h h' : List LB} {a a1 : Act} {w : World} (hn0 : cx.pm.n0 = 0) (s : Sat cx ⟨V, g⟩ ⟨envK, h⟩ a w) (hf : flatH h) (hf' : flatH h') (hK : flatE envK) (hlow : lowK h.length envK) (hlen : h'.length = h.length)
    (hV0 : cx.G0.V.Le V) (henvB : ∀ G', G'.g = g → V.Le G'.V → ∀ t, Ar G' (lk t envB) (a1.tmps.getD t undef)) (hN1 : a1.tmps.size = cx.pm.N) (hd1 : a1.defers = [])
    (hb : AXc P ⟨h.length, cx.pm.N, cx.pm.Γ⟩ c ⟨envB, h⟩ (RoundQ ⟨h.length, cx.pm.N, cx.pm.Γ⟩ ⟨[], h'⟩)) :
    wp2 P c (fun e _ W' => e = .normal ∧ (∃ g', Sat cx ⟨V, g'⟩ ⟨envK, h'⟩ a W') ∧ KeepsOthers w W' ∧ ∀ b o, V.H b = some o → W'.heap[b]? = some o) a1 w := by
  let cx' : Cx := ⟨⟨h.length, cx.pm.N, cx.pm.Γ⟩, cx.w0, cx.S, ⟨roundV V w, g⟩, [], w.heap.size⟩
  have hvi : ViewIn cx' (roundV V w) w := viewIn_round s.h cx' rfl rfl rfl
  have s1 : SatH cx' ⟨roundV V w, g⟩ h w := s.h.review hf hvi rfl (.refl _ _) (Nat.le_refl _) fun i b e k hi he hl hk => by
    obtain ⟨o, ho, hc⟩ := flat_cells (flatH_at hf b (List.mem_of_getElem? hi)) hl (s.h.ent i b e hi he) hk
    exact roundV_cells ((s.h.ent i b e hi he).blk hl hk).2.2 ho hc
  have sat : Sat cx' ⟨roundV V w, g⟩ ⟨envB, h⟩ a1 w := ⟨s1, fun t => henvB _ rfl (roundV_le V w) t, hN1, hd1⟩
  refine wp2_mono (hb cx' _ a1 w rfl sat) ?_
  rintro e a2 W' ⟨G2, st2, s2, rfl, hfw⟩
  obtain ⟨G3, s3⟩ := hfw cx' G2 a2 W' rfl s2
  have hext : GLe h.length ⟨roundV V w, g⟩ G3 := s3.h.ext
  have hviewW : ∀ b o, (roundV V w).H b = some o → W'.heap[b]? = some o := fun b o ho => s3.h.view b o (hext.V.H b o ho)
  have hVW : ∀ b o, V.H b = some o → W'.heap[b]? = some o := fun b o ho => hviewW b o ((roundV_le V w).H b o ho)
  refine ⟨rfl, ⟨G3.g, ?_⟩, ⟨?_, fun k o ho hc => hviewW k o (roundV_other s.h.view ho hc)⟩, hVW⟩
  · have hg : GLe h.length ⟨V, g⟩ ⟨V, G3.g⟩ := ⟨.refl _, hext.g⟩
    have hs : SatH cx ⟨V, G3.g⟩ h' W' := by
      have s3' : SatH cx' ⟨G3.V, G3.g⟩ h' W' := s3.h
      refine s3'.review hf' ⟨hVW, s.h.imm, fun p hp g' => ?_⟩ rfl (by rw [hn0]; exact ⟨hV0, fun i v n hi => by omega⟩) (Nat.le_trans s.h.sz s3.h.sz) fun i b e k hi he hl hk => ?_
      · have := s.h.glob p hp
        exact this
      · have h1 := ((s3.h.ent i b e hi he).blk hl hk).2.2
        cases hv : V.H k with
        | none => rfl
        | some o =>
          have h2 := hext.V.H k o ((roundV_le V w).H k o hv)
          rw [h1] at h2; cases h2
    exact ⟨hs, fun t => (s.env t).mono hg (hlow t), s.N, s.defers⟩
  · exact s3.h.sz

def coll (D : Nat) : Deferred := { target := .collected D, args := #[] }
/-- The view in which the block for the rounds' deferred calls stays. -/
def collV (V : Vw) (D : Nat) : Vw := ⟨fun b => if b = D then some (.deferred (some [])) else V.H b, V.I⟩
theorem collV_le {V : Vw} {D : Nat} (h : V.H D = none) : V.Le (collV V D) := ⟨fun b o ho => by
  have : b ≠ D := fun e => by rw [e, h] at ho; cases ho
  simp [collV, this, ho], fun _ h => h⟩

theorem assign_in {p q : Tmp} {id : Nat} {ty : TypeId} {ps : String} {af : Array Edge} (l n : Nat) {t : Array Value} {v : Value} {W : World} {K : Act → World → Prop} (hp : p < t.size) (hK : K { tmps := (t.setIfInBounds p v).setIfInBounds q v, defers := [] } W) :
    (Code.region id #[⟨some q, .assign (.tmp p), ty, ps, af, none⟩] false).wpIn (FR l) n P (Exit.then K (fun _ _ _ => False)) { tmps := t.setIfInBounds p v, defers := [] } W := by
  have hv : (t.setIfInBounds p v).getD p undef = v := by simp [Array.getD, hp]
  have h : wpList P #[⟨some q, .assign (.tmp p), ty, ps, af, none⟩] (Exit.then K (fun _ _ _ => False)) [⟨some q, .assign (.tmp p), ty, ps, af, none⟩] { tmps := t.setIfInBounds p v, defers := [] } W := by
    refine wpList_plain rfl fun K' hK' => ?_
    unfold Oper.wp
    have : (execOp (Act.eval { tmps := t.setIfInBounds p v, defers := [] }) ⟨some q, .assign (.tmp p), ty, ps, af, none⟩).run P W = .ok (.value v) W := by
      simp only [execOp]
      show Result.ok (Next.value ((t.setIfInBounds p v).getD p undef)) W = _
      rw [hv]
    rw [this]
    exact hK' _ _ hK
  exact (wp2_region_lit (ops := [_]) h).2 rfl (fun ⟨a, w, q⟩ => q) l n

theorem range_ok {α : Type} {cx : Cx} {V : Vw} {g0 : List (Value × Nat)} {envK : Env} {h : List LB} {a : Act} {w : World} {n gf : Nat} {gop : Operand} {lb : Array Value} {p q : Tmp} {id : Nat} {ty : TypeId} {ps : String} {af : Array Edge} {body : Code} {encs : α → Value} {xav : α → AV}
    {Kp : World → World → Prop} {S Sp : List α → Prop} {N : Nat} {Q : Exit → Act → World → Prop} (H : List α → List LB) (h1 : 1 ≤ n) (hn0 : cx.pm.n0 = 0) (hdf : cx.df = []) (s : Sat cx ⟨V, g0⟩ ⟨envK, h⟩ a w) (hH0 : H [] = h) (hHf : ∀ pre, flatH (H pre)) (hHl : ∀ pre, (H pre).length = h.length)
    (hK : flatE envK) (hlow : lowK h.length envK) (hV0 : cx.G0.V.Le V) (hgop : a.eval gop = .func (.func gf) #[] lb) (eg : ∀ args w, (callFunc gf args).run P w = .ok (.enter gf args) w)
    (hseq : SeqStopsK Fence.wide (n - 1) P gf lb (fun x : α => #[encs x]) Kp S Sp N w) (hKt : ∀ {A B C : World}, Kp A B → Kp B C → Kp A C)
    (hKb : ∀ (W : World) (l : Nat) (o o' : Obj), w.heap.size ≤ l → W.heap[l]? = some o → o.isCells = false → o.isWalk = false → Kp W (W.putObj l o'))
    (hKp : ∀ W W', (∀ b o, V.H b = some o → W.heap[b]? = some o) → (∀ b o, V.H b = some o → W'.heap[b]? = some o) → Kp W W')
    (hx : ∀ (x : α) (G' : Gh), V.Le G'.V → Ar G' (xav x) (encs x)) (hp : p < cx.pm.N) (hq : q < cx.pm.N) (hnd : nodC body = true)
    (hbody : ∀ (pre : List α) (x : α), pre.length < N → AXc P ⟨h.length, cx.pm.N, cx.pm.Γ⟩ body ⟨pute q (xav x) (pute p (xav x) envK), H pre⟩ (RoundQ ⟨h.length, cx.pm.N, cx.pm.Γ⟩ ⟨[], H (pre ++ [x])⟩))
    (hdone : ∀ (D : Nat) (xs : List α) (W : World) (g : List (Value × Nat)), w.heap.size ≤ D → S xs → Sat { cx with df := [coll D], G0 := ⟨collV V D, []⟩ } ⟨collV V D, g⟩ ⟨envK, H xs⟩ { a with defers := [coll D] } W → Q .normal { a with defers := [coll D] } W) :
    (Code.rangeFunc gop #[p] (.region id #[⟨some q, .assign (.tmp p), ty, ps, af, none⟩] false) body).wpIn Fence.wide n P Q a w := by
  subst hH0
  have hbase := s.h.below.size
  have hVB : ∀ b o, V.H b = some o → b < w.heap.size := fun b o ho => heap_lt (s.h.view b o ho)
  have hda : a.defers = [] := s.defers.trans hdf
  refine wpIn_rangeFunc_ownF rfl h1 hgop trivial eg hseq hKt hKb (Below.refl _ _) (fun _ => rfl)
    (fun pre W => ∃ g, Sat cx ⟨V, g⟩ ⟨envK, H pre⟩ a W) (fun _ _ _ => False) ?_ (fun _ _ _ _ _ h _ _ => h) ⟨g0, s⟩
    (fun x => { tmps := (a.tmps.setIfInBounds p (encs x)).setIfInBounds q (encs x), defers := [] }) ?_ ?_ ?_ ?_
  · rintro pre W W' row ⟨g, sW⟩ hg hr
    exact ⟨g, sW.h.turned (hHf pre) hg hbase hVB hr, sW.env, sW.N, sW.defers⟩
  · intro l x W K hk
    have he : (Array.foldl (fun t (x : Tmp × Value) => match x with | (p, v) => t.setIfInBounds p v) a.tmps (#[p].zip #[encs x])) = a.tmps.setIfInBounds p (encs x) := by simp
    rw [he]
    exact assign_in l (n - 1 - 1) (by rw [s.N]; exact hp) hk
  · rintro l pre x W ⟨g, sW⟩ hlt
    have hsz : p < a.tmps.size := by rw [s.N]; exact hp
    have hr := round_ok (P := P) (c := body) (envB := pute q (xav x) (pute p (xav x) envK)) (h' := H (pre ++ [x])) (a1 := { tmps := (a.tmps.setIfInBounds p (encs x)).setIfInBounds q (encs x), defers := [] }) hn0 sW (hHf pre) (hHf _) hK (by rw [hHl]; exact hlow) ((hHl _).trans (hHl _).symm) hV0
      (fun G' hg hle t => by
        have hqs : q < (a.tmps.setIfInBounds p (encs x)).size := by simp [s.N]; exact hq
        rw [lk_put]
        by_cases h1 : q = t
        · subst h1
          rw [if_pos rfl]
          have : ((a.tmps.setIfInBounds p (encs x)).setIfInBounds q (encs x)).getD q undef = encs x := by simp only [Array.getD, Array.size_setIfInBounds]; rw [dif_pos (by simpa using hqs)]; simp
          rw [this]; exact hx x G' hle
        · have e1 : ((a.tmps.setIfInBounds p (encs x)).setIfInBounds q (encs x)).getD t undef = (a.tmps.setIfInBounds p (encs x)).getD t undef := by
            simp only [Array.getD_eq_getD_getElem?, Array.getElem?_setIfInBounds]; rw [if_neg (by omega)]
          rw [if_neg h1, e1, lk_put]
          by_cases h2 : p = t
          · subst h2
            rw [if_pos rfl]
            have : (a.tmps.setIfInBounds p (encs x)).getD p undef = encs x := by simp [Array.getD, hsz]
            rw [this]; exact hx x G' hle
          · have e2 : (a.tmps.setIfInBounds p (encs x)).getD t undef = a.tmps.getD t undef := by
              simp only [Array.getD_eq_getD_getElem?, Array.getElem?_setIfInBounds]; rw [if_neg (by omega)]
            rw [if_neg h2, e2]
            have := sW.env t
            have : Ar ⟨G'.V, G'.g⟩ (lk t envK) (a.tmps.getD t undef) := by rw [hg]; exact flat_ar (hK t) this
            exact this) (by simp [s.N]) rfl (by rw [hHl]; exact hbody pre x hlt)
    refine wpIn_mono (hr.2 hnd (fun ⟨a', w', q', _⟩ => by cases q') l (n - 1 - 1)) ?_
    rintro e a' W' ⟨rfl, hs, hko, hv⟩
    exact ⟨hko, hKp W W' sW.h.view hv, hs⟩
  · rintro D xs W hD hS ⟨g, sW⟩ hdef
    rw [hda]
    refine hdone D xs W g hD hS ?_
    have hVD : V.H D = none := by
      cases e : V.H D with
      | none => rfl
      | some o => have := hVB D o e; omega
    have hle := collV_le hVD
    refine ⟨sW.h.review (hHf xs) ⟨fun b o ho => ?_, fun b hb => ?_, fun pp hpp g' => ?_⟩ rfl ?_ sW.h.sz fun i b e k hi he hl hk => ?_, fun t => flat_ar (hK t) (sW.env t), sW.N, rfl⟩
    · simp only [collV] at ho
      split at ho
      · next e => cases ho; subst e; exact hdef
      · exact sW.h.view b o ho
    · obtain ⟨⟨o, ho⟩, h2⟩ := sW.h.imm b hb
      exact ⟨⟨o, hle.H b o ho⟩, h2⟩
    · obtain ⟨⟨ad, u, e, hc⟩, cc, tt, fr, hh, hz⟩ := sW.h.glob pp hpp
      exact ⟨⟨ad, u, e, fun j c hj => ⟨cellIn_le (fun o => hle.H _ o) (hc j c hj).1, Dr.mono hle (hc j c hj).2⟩⟩, cc, tt, fr, hle.H _ _ hh, hz⟩
    · show GLe cx.pm.n0 _ _
      rw [hn0]
      exact ⟨.refl _, fun i v m hi => by omega⟩
    · have h1 := ((sW.h.ent i b e hi he).blk hl hk)
      obtain ⟨o, ho, hc⟩ := flat_cells (flatH_at (hHf xs) b (List.mem_of_getElem? hi)) hl (sW.h.ent i b e hi he) hk
      have hne : k ≠ D := fun e' => by subst e'; rw [hdef] at ho; cases ho; cases hc
      simp only [collV, if_neg hne]
      exact h1.2.2
  · rintro D c pre W _ _ hf
    exact hf.elim

/-- The end of a function that has ranged over a function. -/
theorem leave_range {cx : Cx} {V : Vw} {G : Gh} {h : List LB} {env : Env} {a : Act} {W : World} {D n : Nat} {fn : Func} {rs : List RV} {αs : List AV} (hdf : cx.df = [coll D]) (hV : ∀ b o, V.H b = some o → G.V.H b = some o) (hG : G.V.H D = some (.deferred (some []))) (hn0 : cx.pm.n0 = 0)
    (h0 : ViewOk cx.pm.Γ V cx.w0) (hS : cx.S = V.I) (hD : cx.w0.heap.size ≤ D) (s : Sat cx G ⟨env, h⟩ a W) (hf : flatH h) (hE : flatE env) (h1 : resAVs P ⟨env, h⟩ fn.results.toList = some αs) (h2 : ressR h (frOf αs rs) αs rs) :
    LeavesInM Fence.wide n P fn a.tmps (After V cx.w0 rs) a.defers .returning W := by
  rw [s.defers, hdf]
  have hWD : W.heap[D]? = some (.deferred (some [])) := s.h.view D _ hG
  refine ⟨by simp, .inl ⟨_, _, rfl, run_takeDeferred hWD, ?_⟩⟩
  let cx' : Cx := { cx with df := [], G0 := ⟨V, []⟩, s0 := 0 }
  have s1 : SatH cx' ⟨V, G.g⟩ h W := by
    have s' : SatH cx ⟨G.V, G.g⟩ h W := s.h
    refine s'.review hf ⟨fun b o ho => s.h.view b o (hV b o ho), fun b hb => ⟨h0.imm b hb, .inl (by show cx.S b; rw [hS]; exact hb)⟩, fun p hp g => ?_⟩ rfl ?_ (Nat.zero_le _) fun i b e k hi he hl hk => ?_
    · have := h0.glob p hp
      exact this
    · show GLe cx.pm.n0 _ _
      rw [hn0]
      exact ⟨.refl _, fun i v m hi => by omega⟩
    · have h3 := ((s.h.ent i b e hi he).blk hl hk).2.2
      cases e' : V.H k with
      | none => rfl
      | some o => rw [hV k o e'] at h3; cases h3
  have s2 : SatH cx' ⟨V, G.g⟩ h (W.putObj D (.deferred none)) := s1.turned hf (grownBy_putObj' W D _) (B := cx.w0.heap.size) (Nat.le_refl _) (fun b o ho => heap_lt (h0.view b o ho)) fun r e => by cases e; exact ⟨hD, _, hWD, rfl⟩
  have s3 : Sat cx' ⟨V, G.g⟩ ⟨env, h⟩ { a with defers := [] } (W.putObj D (.deferred none)) := ⟨s2, fun t => flat_ar (hE t) (s.env t), s.N, rfl⟩
  obtain ⟨vs, hres, hvs⟩ := run_results s3 h1
  exact ⟨_, hres, exit_afterR s3 rfl hS h0 (frOf_live h2) h2 hvs⟩
end Go.Ax

/- A nil slice in a box of the call's own, ahead of a loop. -/
namespace Go.Ax
open Go
variable {P : Program} {pm : Pm} {E : List Nat}
theorem LoopV.nilbox {b : Code} {st : St} {Q : Exit → St → Prop} {t : Tok Q} (i j : Nat) (te : TypeId) (sz : Nat) (tb : TypeId) (cs : List C) (h : LoopV P pm E b ⟨st.env, (st.heap ++ [LB.row te sz [] 0]).set i (LB.box tb (cs.set j (C.own st.heap.length 0)))⟩ Q ⟨⟩)
    (hi : st.heap[i]? = some (.box tb cs) := by rfl) (hj : cs[j]? = some (.d (.raw (.slice none 0 0))) := by rfl) : LoopV P pm E b st Q t :=
  fun hok => AXc.nilbox i j te sz hi hj (h hok)
end Go.Ax

/- A box of one datum, frozen; code ahead of a range, by steps. -/
namespace Go.Ax
open Go Go.RowKit
theorem SatH.freezeBox1 {cx : Cx} {G : Gh} {h : List LB} {w : World} (s : SatH cx G h w) {i : Nat} {t : TypeId} {x : D} (hi : h[i]? = some (.box t [.d x])) :
    ∃ V' b v, GLe G.g.length G ⟨V', G.g⟩ ∧ SatH cx ⟨V', G.g⟩ (h.set i .dead) w ∧ (∃ n, G.g[i]? = some (.pointer (some ⟨b, 0, none⟩), n)) ∧ V'.H b = some (.cells #[v] t (0, 0)) ∧ Dr G.V x v ∧ b < w.heap.size := by
  obtain ⟨e0, hg, hL0⟩ := s.entry hi
  obtain ⟨_, b0, vs, he, hbase, hH, hheap, hall⟩ := hL0
  cases hall with
  | cons hx hn =>
  cases hn
  rename_i v
  let V' : Vw := ⟨fun b => if b0 = b then w.heap[b]? else G.V.H b, G.V.I⟩
  have hle : G.V.Le V' := ⟨fun b o ho => by
    have hne : ¬ (b0 = b) := fun e => by subst e; rw [hH] at ho; cases ho
    simp only [V', if_neg hne]; exact ho, fun b hb => hb⟩
  have hG : GLe G.g.length G ⟨V', G.g⟩ := ⟨hle, fun j v n _ e => ⟨v, n, e, Nat.le_refl _, fun _ => rfl, fun _ => ⟨rfl, rfl⟩⟩⟩
  have hg' : G.g[i]? = some (.pointer (some ⟨b0, 0, none⟩), e0.2) := by rw [hg, ← he]
  refine ⟨V', b0, v, hG, ⟨by rw [List.length_set]; exact s.len, fun j b e hb he => ?_, fun j k bj bk ej ek q h1 h2 l1 l2 g1 g2 => ?_, fun b o ho => ?_, fun b hb => ?_, s.below, s.ext.trans (hG.all _), fun q hq => (s.glob q hq).grow hG, s.sz⟩, ⟨_, hg'⟩, by simp only [V', if_true]; exact hheap, hx, heap_lt hheap⟩
  · rw [List.getElem?_set] at hb
    by_cases e1 : i = j
    · subst e1
      rw [if_pos rfl, if_pos (getElem?_lt hi)] at hb
      cases hb
      trivial
    · rw [if_neg e1] at hb
      have hL := s.ent j b e hb he
      refine Lr.mono' hG (fun k hlive hk => ?_) hL
      have hne : ¬ (b0 = k) := fun e2 => e1 (s.sep i j _ b _ e k hi hb trivial hlive hg' he (by rw [← e2]; rfl) hk)
      simp only [V', if_neg hne]
      exact (hL.blk hlive hk).2.2
  · have back : ∀ (j : Nat) (b : LB), (h.set i .dead)[j]? = some b → b.live → h[j]? = some b := fun j b hb hlive => by
      rw [List.getElem?_set] at hb
      by_cases e1 : i = j
      · subst e1
        rw [if_pos rfl, if_pos (getElem?_lt hi)] at hb
        cases hb
        exact hlive.elim
      · rwa [if_neg e1] at hb
    exact s.sep j k bj bk ej ek q (back j bj h1 l1) (back k bk h2 l2) l1 l2 g1 g2
  · simp only [V'] at ho
    split at ho
    · exact ho
    · exact s.view b o ho
  · obtain ⟨⟨o, ho⟩, h2⟩ := s.imm b hb
    exact ⟨⟨o, hle.H b o ho⟩, h2⟩
/-- Code ahead of the rest: the state that it leaves. -/
theorem stepK {P : Program} {cx : Cx} {G : Gh} {st : St} {a : Act} {w : World} {X Y : Code} {Q : Exit → Act → World → Prop} (s : Sat cx G st a w) (st1 : St) (h : AXc P cx.pm X st (Ethen (fun st' => st' = st1) (fun _ _ => False)))
    (hn : ∀ G' a' w', Sat cx G' st1 a' w' → Y.wp P Q a' w') : (Code.seq X Y).wp P Q a w := by
  refine wp_seq (wp_mono (h cx G a w rfl s).1 ?_)
  rintro e a' w' ⟨G', st', s', q⟩
  cases e with
  | normal => cases q; exact hn G' a' w' s'
  | _ => exact q.elim
end Go.Ax

/- A row of the call's own, changed in its place; the call may make new objects. -/
namespace Go.Ax
open Go
theorem SatH.inplace {cx : Cx} {G : Gh} {h : List LB} {w w' : World} (s : SatH cx G h w) {i : Nat} {lb lb' : LB} {e : Value × Nat} (hi : h[i]? = some lb) (hlv : lb.live) (he : G.g[i]? = some e)
    (hg : w.grownBy w' (blkOf e.1)) (hl : Lr G w' cx.w0.heap.size lb' e) : SatH cx G (h.set i lb') w' := by
  have hbb : ∀ k, blkOf e.1 = some k → cx.w0.heap.size ≤ k ∧ k < w.heap.size ∧ G.V.H k = none := fun k hb => (s.ent i _ _ hi he).blk hlv hb
  refine ⟨by simp [s.len], fun j b' e' hj he' => ?_, ?_, fun k o ho => ?_, s.imm, s.below.grown hg s.below.size (fun k hk => (hbb k hk).1), s.ext, s.glob, Nat.le_trans s.sz hg.size⟩
  · rcases getElem?_set' hj with ⟨rfl, rfl⟩ | ⟨hne, hj⟩
    · rw [he] at he'; cases he'; exact hl
    · exact (s.ent j _ _ hj he').world fun hlj k hk => hg.block k ((s.ent j _ _ hj he').blk hlj hk).2.1 fun e => hne (s.sep j i b' lb e' _ k hj hi hlj hlv he' he hk e.symm)
  · intro j k bj bk ej ek x h1 h2 h3 h4 h5 h6 h7 h8
    rcases getElem?_set' h1 with ⟨rfl, rfl⟩ | ⟨hne, q1⟩ <;> rcases getElem?_set' h2 with ⟨rfl, rfl⟩ | ⟨hne', q2⟩
    · rfl
    · exact s.sep _ _ lb bk ej ek x hi q2 hlv h4 h5 h6 h7 h8
    · exact s.sep _ _ bj lb ej ek x q1 hi h3 hlv h5 h6 h7 h8
    · exact s.sep _ _ bj bk ej ek x q1 q2 h3 h4 h5 h6 h7 h8
  · have h1 := s.view k o ho
    rw [hg.block k (heap_lt h1) (fun e => by rw [(hbb k e.symm).2.2] at ho; cases ho)]
    exact h1
/-- What a call does to a row of its caller's: in its place, or handed over. -/
def RowOp (P : Program) (f : FuncId) (te : TypeId) (sz : Nat) (els els' : List (List D)) (moved : Bool) : Prop :=
  ∀ (V : Vw) (base : Nat) (v : Value) (xs : List Value) (w : World), w.ownsRow base te sz v els.length xs → All2 (Dr V) els.flatten xs →
    Calls P f #[v] w fun e w' => ∃ v' xs', e = .returned (if moved then v' else .tuple #[]) ∧ (moved = false → v' = v) ∧ w'.ownsRow base te sz v' els'.length xs' ∧ All2 (Dr V) els'.flatten xs' ∧ w.grownBy w' v.ownBlock ∧ v'.ownBlock = v.ownBlock
variable {P : Program} {pm : Pm} {st : St} {o : Oper} {aas : List AV}
theorem CallL.row {k : St → Prop} {t : Tok k} {f : FuncId} {x a1 : Operand} {ts : Array TypeId} {i ver : Nat} {te : TypeId} {sz : Nat} {els els' : List (List D)}
    (hc : RowOp P f te sz els els' true) (hsz : ∀ e ∈ els', e.length = sz) (hi : st.heap[i]? = some (.row te sz els ver))
    (hcall : CallOk P f)
    (hk : k (St.put ⟨st.env, st.heap.set i (.row te sz els' (ver + 1))⟩ o.dst (.c (.own i (ver + 1)))))
    (hop : o.op = .call { callee := .value x, args := #[a1], argTypes := ts } := by rfl) (hx : ev pm.Γ st.env x = .c (.clo f []) := by rfl) (h1 : ev pm.Γ st.env a1 = .c (.own i ver) := by rfl) (hd : dstOk pm.N o.dst := by first | trivial | (show (_ : Nat) < _; exact Nat.le_of_ble_eq_true rfl)) :
    CallL P pm o st (.c (.clo f [])) aas k t := by
  refine .inr (.inr fun ops rest K hK => ?_)
  obtain ⟨dst, op, ty, pos, af, gd⟩ := o
  simp only at hop hd
  subst hop
  intro cx G a w Q hpm s hQ
  refine wpList_plain rfl fun K' hK' => ?_
  subst hpm
  obtain ⟨v, xs, hg, how, hob, hdr, hl⟩ := row_at s.h hi
  obtain ⟨_, v0, n', hg', _, hxx⟩ := (h1 ▸ s.ev a1 : Ar G (.c (.own i ver)) (a.eval a1))
  rw [hg] at hg'
  cases hg'
  have e1 := hxx rfl
  have hxv : Ar G (.c (.clo f [])) (a.eval x) := hx ▸ s.ev x
  obtain ⟨bs, hxe, hbs⟩ := hxv
  cases hbs
  have hr : (execOp a.eval ⟨dst, .call { callee := .value x, args := #[a1], argTypes := ts }, ty, pos, af, none⟩).run P w = .ok (.enter f #[v]) w := by
    simp [execOp, resolve, Deferred.ofValue, hxe, invoke, run_callFunc hcall, e1]
  unfold Oper.wp
  rw [hr]
  refine (hc G.V cx.w0.heap.size v xs w how hdr).mono fun e w' hafter => ?_
  obtain ⟨v', xs', rfl, _, how', hdr', hgr, hat⟩ := hafter
  have f1 := row_form how
  have f2 := row_form how'
  have hL : ∀ G' : Gh, G'.V = G.V → Lr G' w' cx.w0.heap.size (.row te sz els' (ver + 1)) (v', ver + 1) := fun G' hV =>
    ⟨rfl, xs', how', fun b hb => by rw [hV]; exact hob b (by rw [← hat]; exact hb), by rw [hV]; exact hdr', hsz⟩
  obtain ⟨hG, s'⟩ := s.h.move (w' := w') (v' := v') (n' := ver + 1) (lb' := .row te sz els' (ver + 1)) hi trivial hg (by omega) f1.1 f1.2.1 f2.2.1 hgr (.inl hat) f1.2.2.1 hL
  exact hK' _ _ (hK _ hk cx _ _ w' Q rfl ((s.step hG s').put (α := .c (.own i (ver + 1))) ⟨f2.2.2.2, v', ver + 1, by simp [getElem?_lt hg], Nat.le_refl _, fun _ => rfl⟩ hd) hQ)
theorem CallL.rowIn {k : St → Prop} {t : Tok k} {f : FuncId} {x a1 : Operand} {ts : Array TypeId} {i ver : Nat} {te : TypeId} {sz : Nat} {els els' : List (List D)}
    (hc : RowOp P f te sz els els' false) (hsz : ∀ e ∈ els', e.length = sz) (hi : st.heap[i]? = some (.row te sz els ver))
    (hcall : CallOk P f)
    (hk : k (St.put ⟨st.env, st.heap.set i (.row te sz els' ver)⟩ o.dst (rsAV [])))
    (hop : o.op = .call { callee := .value x, args := #[a1], argTypes := ts } := by rfl) (hx : ev pm.Γ st.env x = .c (.clo f []) := by rfl) (h1 : ev pm.Γ st.env a1 = .c (.own i ver) := by rfl) (hd : dstOk pm.N o.dst := by first | trivial | (show (_ : Nat) < _; exact Nat.le_of_ble_eq_true rfl)) :
    CallL P pm o st (.c (.clo f [])) aas k t := by
  refine .inr (.inr fun ops rest K hK => ?_)
  obtain ⟨dst, op, ty, pos, af, gd⟩ := o
  simp only at hop hd
  subst hop
  intro cx G a w Q hpm s hQ
  refine wpList_plain rfl fun K' hK' => ?_
  subst hpm
  obtain ⟨v, xs, hg, how, hob, hdr, hl⟩ := row_at s.h hi
  obtain ⟨_, v0, n', hg', _, hxx⟩ := (h1 ▸ s.ev a1 : Ar G (.c (.own i ver)) (a.eval a1))
  rw [hg] at hg'
  cases hg'
  have e1 := hxx rfl
  have hxv : Ar G (.c (.clo f [])) (a.eval x) := hx ▸ s.ev x
  obtain ⟨bs, hxe, hbs⟩ := hxv
  cases hbs
  have hr : (execOp a.eval ⟨dst, .call { callee := .value x, args := #[a1], argTypes := ts }, ty, pos, af, none⟩).run P w = .ok (.enter f #[v]) w := by
    simp [execOp, resolve, Deferred.ofValue, hxe, invoke, run_callFunc hcall, e1]
  unfold Oper.wp
  rw [hr]
  refine (hc G.V cx.w0.heap.size v xs w how hdr).mono fun e w' hafter => ?_
  obtain ⟨v', xs', rfl, hvv, how', hdr', hgr, hat⟩ := hafter
  have := hvv rfl
  subst this
  have f1 := row_form how
  have hL : Lr G w' cx.w0.heap.size (.row te sz els' ver) (v', ver) := ⟨rfl, xs', how', hob, hdr', hsz⟩
  have hbk : blkOf v' = v'.ownBlock := by
    cases hb : v'.ownBlock with
    | none =>
      cases hb' : blkOf v' with
      | none => rfl
      | some k => have := f1.2.1 k hb'; rw [hb] at this; cases this
    | some k => exact f1.2.2.1 k hb
  have s' := s.h.inplace (w' := w') (lb' := .row te sz els' ver) hi trivial hg (hbk ▸ hgr) hL
  exact hK' _ _ (hK _ hk cx _ _ w' Q rfl ((s.step (.refl _ _) s').put (α := rsAV []) (rsAV_ok .nil) hd) hQ)
end Go.Ax

/- Quotient and rest of whatever integer, by a positive one. -/
namespace Go.Ax
open Go
variable {P : Program} {h : List LB} {ρ : Operand → AV} {dst : Option Tmp} {ty : TypeId} {p : String} {af : Array Edge} {gd : Option (Nat × Bool)}
theorem s_quoT (t t' : TypeId) (x y : Operand) {m n : Int} (hx : ρ x = .c (.d (.int .i64 m))) (hy : ρ y = .c (.d (.int .i64 n))) (h2 : 0 < n) (hw : IntKind.i64.wrap (m.tdiv n) = m.tdiv n) :
    Still P h ⟨dst, .binOp .quo t x y t', ty, p, af, gd⟩ ρ (.c (.d (.int .i64 (m.tdiv n)))) := by
  intro cx G w a s ho
  have e1 := ar_int (hx ▸ ho x (by simp [Op.operands]))
  have e2 := ar_int (hy ▸ ho y (by simp [Op.operands]))
  refine ⟨.int .i64 (m.tdiv n), ?_, Dr.int _ _⟩
  have hn : n ≠ 0 := by omega
  simp [execOp, e1, e2, eqGuard, binOp, Op.intDiv, hn, hw]
theorem s_remT (t t' : TypeId) (x y : Operand) {k : IntKind} {m n : Int} (hx : ρ x = .c (.d (.int k m))) (hy : ρ y = .c (.d (.int k n))) (h2 : 0 < n) :
    Still P h ⟨dst, .binOp .rem t x y t', ty, p, af, gd⟩ ρ (.c (.d (.int k (m.tmod n)))) := by
  intro cx G w a s ho
  have e1 := ar_int (hx ▸ ho x (by simp [Op.operands]))
  have e2 := ar_int (hy ▸ ho y (by simp [Op.operands]))
  refine ⟨.int k (m.tmod n), ?_, Dr.int _ _⟩
  have hn : n ≠ 0 := by omega
  simp [execOp, e1, e2, eqGuard, binOp, Op.intDiv, hn]
end Go.Ax

/- A call ahead of which the state is read through (rows left behind as data). No condition. -/
namespace Go.Ax
open Go
variable {P : Program} {pm : Pm} {st st' : St} {o : Oper}
theorem CallL.fw {k : St → Prop} {t : Tok k} {x : Operand} {as : Array Operand} {ts : Array TypeId} {α : AV} {aas : List AV} (st' : St) (hfw : fitsV pm st st')
    (h : CallL P pm o st' (ev pm.Γ st'.env x) (as.toList.map (ev pm.Γ st'.env)) k ⟨⟩)
    (hop : o.op = .call { callee := .value x, args := as, argTypes := ts } := by rfl) (hd : dstOk pm.N o.dst := by first | trivial | (show (_ : Nat) < _; exact Nat.le_of_ble_eq_true rfl)) :
    CallL P pm o st α aas k t := by
  refine .inr (.inr fun ops rest K hK => ?_)
  obtain ⟨dst, op, ty, pos, af, gd⟩ := o
  simp only at hop hd
  subst hop
  have hl : Lf P pm ⟨dst, .call { callee := .value x, args := as, argTypes := ts }, ty, pos, af, gd⟩ st' k := by
    have := CallL_ok (P := P) (pm := pm) (ty := ty) (p := pos) (af := af) (gd := gd) (x := x) (as := as.toList) (ts := ts) (st := st') (k := k) hd (by simpa using h)
    simpa using this
  intro cx G a w Q hp s hQ
  obtain ⟨G', s'⟩ := fitsV_ok hfw cx G a w hp s
  exact hl ops rest K hK cx G' a w Q hp s' hQ
theorem CallL.frm {k : St → Prop} {t : Tok k} {x : Operand} {as : Array Operand} {ts : Array TypeId} {α : AV} {aas : List AV} (keep : List Nat) (vars : List (Nat × AV)) (heap : List LB) (hfw : fitsV pm st ⟨frame keep st.env vars, heap⟩)
    (h : CallL P pm o ⟨frame keep st.env vars, heap⟩ (ev pm.Γ (frame keep st.env vars) x) (as.toList.map (ev pm.Γ (frame keep st.env vars))) k ⟨⟩)
    (hop : o.op = .call { callee := .value x, args := as, argTypes := ts } := by rfl) (hd : dstOk pm.N o.dst := by first | trivial | (show (_ : Nat) < _; exact Nat.le_of_ble_eq_true rfl)) :
    CallL P pm o st α aas k t := CallL.fw _ hfw h hop hd
end Go.Ax
