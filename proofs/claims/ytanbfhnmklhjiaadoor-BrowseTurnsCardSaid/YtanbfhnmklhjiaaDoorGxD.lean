/- Part of a proof about this program; no condition of its own. -/
import Derived.Test.YtanbfhnmklhjiaaDoorAxVd
import Derived.Test.YtanbfhnmklhjiaaDoorGxB
import Derived.Laws.BytesArg
set_option linter.all false
/- The reader's rules at calls. No condition. -/
namespace Go.Ax
open Go Go.RowKit
section
/-- A cell that reads so here reads so for a callee. -/
def CArg (pm : Pm) (h : List LB) (c c' : C) : Prop :=
  ∀ (cx : Cx) (G : Gh) (w : World) (v : Value), cx.pm = pm → SatH cx G h w → Cr G c v → Cr ⟨⟨fun b => w.heap[b]?, G.V.I⟩, []⟩ c' v
theorem CArg.d {pm : Pm} {h : List LB} {x : D} : CArg pm h (.d x) (.d x) := fun _ _ _ _ _ s hv => Dr.mono s.le hv
theorem CArg.bor {pm : Pm} {h : List LB} {c : C} {sz : Nat} {els : List (List D)} (hα : elsOf h (.c c) = some (sz, els)) : CArg pm h c (.bor sz els) := fun cx G w v hp s hv => ArgOk.bor (pm := pm) hα cx G w v hp s hv
theorem ArgOk.own {pm : Pm} {h : List LB} {te : TypeId} {sz i ver : Nat} {els : List (List D)} (hi : h[i]? = some (.row te sz els ver)) : ArgOk pm h (.c (.own i ver)) (.c (.bor sz els)) := ArgOk.bor (by simp [elsOf, hi])
theorem CArg.own {pm : Pm} {h : List LB} {te : TypeId} {sz i ver : Nat} {els : List (List D)} (hi : h[i]? = some (.row te sz els ver)) : CArg pm h (.own i ver) (.bor sz els) := CArg.bor (by simp [elsOf, hi])
theorem CArg.nb {pm : Pm} {h : List LB} {sz : Nat} : CArg pm h (.d (.raw (.slice none 0 0))) (.bor sz []) := fun cx G w v hp s hv => ArgOk.nil_bor (pm := pm) (h := h) cx G w v hp s hv
theorem CArg.nl {pm : Pm} {h : List LB} {sz : Nat} : CArg pm h (.d (.raw (.slice none 0 0))) (.d (.lst sz [])) := fun cx G w v hp s hv => ArgOk.nil_lst (pm := pm) (h := h) cx G w v hp s hv
theorem ArgOk.aggc {pm : Pm} {h : List LB} {cs cs' : List C} (hc : All2 (CArg pm h) cs cs') : ArgOk pm h (.agg cs) (.agg cs') := fun cx G w v hp s hv => by
  obtain ⟨vs, rfl, hvs⟩ := hv
  refine ⟨vs, rfl, ?_⟩
  induction hc generalizing vs with
  | nil => cases hvs; exact .nil
  | cons h1 _ ih => cases hvs with | cons h2 h3 => exact .cons (h1 cx G w _ hp s h2) (ih _ h3)
end
section
variable {P : Program} {pm : Pm} {st : St} {o : Oper} {as args' : List AV} {rs : List RV} {f : FuncId} {α : AV}
theorem CallL.q {k : St → Prop} {t : Tok k} (hc : AFn P pm.Γ f args' rs) (hk : k (st.put o.dst (rsAV rs)))
    (ha : All2 (ArgOk pm st.heap) as args' := by repeat (first | exact All2.nil | refine All2.cons (by first | exact ArgOk.d | exact ArgOk.bor rfl | exact ArgOk.own rfl | exact ArgOk.agg rfl | exact ArgOk.agg (toDs_map _) | exact ArgOk.nil_bor | exact ArgOk.nil_lst | exact ArgOk.fn | exact ArgOk.ptr rfl rfl | exact ArgOk.aggn rfl (by repeat first | exact .nil | refine .cons (.refl _) ?_ | refine .cons (.nil _) ?_) | exact ArgOk.aggc (by repeat (first | exact All2.nil | refine All2.cons (by first | exact CArg.d | exact CArg.bor rfl | exact CArg.own rfl | exact CArg.nb | exact CArg.nl) ?_))) ?_)) :
    CallL P pm o st (.c (.clo f [])) as k t := .inl (.inl ⟨args', rs, hc, ha, hk⟩)
theorem CallL.own {k : St → Prop} {t : Tok k} {te : TypeId} {sz : Nat} {els : List (List D)} (hc : AFn P pm.Γ f args' [.fresh te sz els]) (hk : k (pushR st o.dst te sz els))
    (ha : All2 (ArgOk pm st.heap) as args' := by repeat (first | exact All2.nil | refine All2.cons (by first | exact ArgOk.d | exact ArgOk.bor rfl | exact ArgOk.own rfl | exact ArgOk.agg rfl | exact ArgOk.agg (toDs_map _) | exact ArgOk.nil_bor | exact ArgOk.nil_lst | exact ArgOk.fn | exact ArgOk.ptr rfl rfl | exact ArgOk.aggn rfl (by repeat first | exact .nil | refine .cons (.refl _) ?_ | refine .cons (.nil _) ?_) | exact ArgOk.aggc (by repeat (first | exact All2.nil | refine All2.cons (by first | exact CArg.d | exact CArg.bor rfl | exact CArg.own rfl | exact CArg.nb | exact CArg.nl) ?_))) ?_)) :
    CallL P pm o st (.c (.clo f [])) as k t := .inr (.inl ⟨args', te, sz, els, hc, ha, hk⟩)
theorem CallL.fn {k : St → Prop} {t : Tok k} {F : List AV → List RV → Prop} (args' : List AV) (rs : List RV) (hF : F args' rs) (hk : k (st.put o.dst (rsAV rs)))
    (ha : All2 (ArgOk pm st.heap) as args' := by repeat (first | exact All2.nil | refine All2.cons (by first | exact ArgOk.d | exact ArgOk.bor rfl | exact ArgOk.own rfl | exact ArgOk.agg rfl | exact ArgOk.agg (toDs_map _) | exact ArgOk.nil_bor | exact ArgOk.nil_lst | exact ArgOk.fn | exact ArgOk.ptr rfl rfl | exact ArgOk.aggn rfl (by repeat first | exact .nil | refine .cons (.refl _) ?_ | refine .cons (.nil _) ?_) | exact ArgOk.aggc (by repeat (first | exact All2.nil | refine All2.cons (by first | exact CArg.d | exact CArg.bor rfl | exact CArg.own rfl | exact CArg.nb | exact CArg.nl) ?_))) ?_)) :
    CallL P pm o st (.c (.fn (FnSpec P pm.Γ F))) as k t := .inl (.inl ⟨F, args', rs, rfl, hF, ha, hk⟩)
theorem CallL.e {k : St → Prop} {t : Tok k} {r : AV} (hq : Qt P pm st.heap o (ev pm.Γ st.env) r) (hk : k (st.put o.dst r)) : CallL P pm o st α as k t := .inl (.inr ⟨r, hq, hk⟩)
theorem CallX.q {h : List LB} {ρ : Operand → AV} {k : AV → Prop} {t : Tok k} (hc : AFn P pm.Γ f args' rs) (hk : k (rsAV rs))
    (ha : All2 (ArgOk pm h) as args' := by repeat (first | exact All2.nil | refine All2.cons (by first | exact ArgOk.d | exact ArgOk.bor rfl | exact ArgOk.own rfl | exact ArgOk.agg rfl | exact ArgOk.agg (toDs_map _) | exact ArgOk.nil_bor | exact ArgOk.nil_lst | exact ArgOk.fn | exact ArgOk.ptr rfl rfl | exact ArgOk.aggn rfl (by repeat first | exact .nil | refine .cons (.refl _) ?_ | refine .cons (.nil _) ?_) | exact ArgOk.aggc (by repeat (first | exact All2.nil | refine All2.cons (by first | exact CArg.d | exact CArg.bor rfl | exact CArg.own rfl | exact CArg.nb | exact CArg.nl) ?_))) ?_)) :
    CallX P pm h o ρ (.c (.clo f [])) as k t := .inl ⟨args', rs, hc, ha, hk⟩
theorem CallX.fn {h : List LB} {ρ : Operand → AV} {k : AV → Prop} {t : Tok k} {F : List AV → List RV → Prop} (args' : List AV) (rs : List RV) (hF : F args' rs) (hk : k (rsAV rs))
    (ha : All2 (ArgOk pm h) as args' := by repeat (first | exact All2.nil | refine All2.cons (by first | exact ArgOk.d | exact ArgOk.bor rfl | exact ArgOk.own rfl | exact ArgOk.agg rfl | exact ArgOk.agg (toDs_map _) | exact ArgOk.nil_bor | exact ArgOk.nil_lst | exact ArgOk.fn | exact ArgOk.ptr rfl rfl | exact ArgOk.aggn rfl (by repeat first | exact .nil | refine .cons (.refl _) ?_ | refine .cons (.nil _) ?_) | exact ArgOk.aggc (by repeat (first | exact All2.nil | refine All2.cons (by first | exact CArg.d | exact CArg.bor rfl | exact CArg.own rfl | exact CArg.nb | exact CArg.nl) ?_))) ?_)) :
    CallX P pm h o ρ (.c (.fn (FnSpec P pm.Γ F))) as k t := .inl ⟨F, args', rs, rfl, hF, ha, hk⟩
theorem CallX.e {h : List LB} {ρ : Operand → AV} {k : AV → Prop} {t : Tok k} {r : AV} (hq : Qt P pm h o ρ r) (hk : k r) : CallX P pm h o ρ α as k t := .inr ⟨r, hq, hk⟩
end
end Go.Ax

/- Ends of functions, nil slices among them; a slice held against nil; a part of a row, indexed. No condition. -/
namespace Go.Ax
open Go Go.RowKit

/-! ### results -/
def celR (h : List LB) (fr : Option Nat) : C → D → Prop
  | .own i ver, .lst sz els => match h[i]? with
    | some (.row _ sz' els' v) => (v = ver ∧ fr ≠ some i ∧ sz' = sz) ∧ els' = els
    | _ => False
  | .sub i ver sz0 lo n, .lst sz els => match h[i]? with
    | some (.row _ sz' els' v) => (v = ver ∧ fr ≠ some i ∧ sz' = sz ∧ sz0 = sz ∧ lo + n ≤ els'.length) ∧ (els'.drop lo).take n = els
    | _ => False
  | .own i ver, .mp sh m => match h[i]? with
    | some (.mp sh' m') => (ver = 0 ∧ fr ≠ some i ∧ sh' = sh) ∧ m' = m
    | _ => False
  | .d (.raw (.slice none 0 0)), .lst _ els => els = []
  | .d (.raw (.map none)), .mp _ m => m = []
  | .d x, y => x = y
  | _, _ => False
def celsR (h : List LB) (fr : Option Nat) : List C → List D → Prop
  | [], [] => True
  | c :: r, x :: xs => celR h fr c x ∧ celsR h fr r xs
  | _, _ => False
def resR (h : List LB) (fr : Option Nat) : AV → RV → Prop
  | .c c, .d x => celR h fr c x
  | .agg cs, .agg ds => celsR h fr cs ds
  | .c (.own i ver), .fresh t sz els => match h[i]? with
    | some (.row t' sz' els' v) => (v = ver ∧ fr = some i ∧ t' = t ∧ sz' = sz) ∧ els' = els
    | _ => False
  | .c (.d (.raw (.slice none 0 0))), .fresh _ _ els => els = []
  | _, _ => False
def ressR (h : List LB) (fr : Option Nat) : List AV → List RV → Prop
  | [], [] => True
  | α :: r, x :: xs => resR h fr α x ∧ ressR h fr r xs
  | _, _ => False
/-- Which row is handed over. -/
def frOf : List AV → List RV → Option Nat
  | [.c (.own i _)], [.fresh _ _ _] => some i
  | _, _ => none

variable {P : Program}
theorem exit_ne {cx : Cx} {G : Gh} {h : List LB} {w : World} (s : SatH cx G h w) {fr : Option Nat} {fb : Option Nat} (hfr : ∀ b, fb = some b → ∃ i lb e, fr = some i ∧ h[i]? = some lb ∧ lb.live ∧ G.g[i]? = some e ∧ blkOf e.1 = some b)
    {i : Nat} {lb : LB} {e : Value × Nat} (hi : h[i]? = some lb) (hl : lb.live) (hg : G.g[i]? = some e) (hne : fr ≠ some i) : ∀ b, fb = some b → blkOf e.1 ≠ some b := fun b hb hk => by
  obtain ⟨i', lb', e', q1, q2, q3, q4, q5⟩ := hfr b hb
  have := s.sep i i' _ _ _ _ b hi q2 hl q3 hg q4 hk q5
  exact hne (by rw [q1, this])
theorem exit_map {cx : Cx} {G : Gh} {h : List LB} {w : World} (s : SatH cx G h w) {V : Vw} (fb : Option Nat) {i : Nat} {sh : List Kc} {m : Mp} (hi : h[i]? = some (.mp sh m)) {v : Value} (hv : Cr G (.own i 0) v)
    (hne : ∀ e, G.g[i]? = some e → ∀ b, fb = some b → blkOf e.1 ≠ some b) : Dr (exitV V cx.w0.heap.size fb w) (.mp sh m) v := by
  obtain ⟨b, es, clock, rfl, hg, h1, _, hb, hr⟩ := own_map s hi hv
  have hnb : ¬ (some b = fb) := fun e => hne _ hg b e.symm rfl
  exact .mp sh m b es clock ⟨hnb, .inr ⟨h1, heap_lt hb⟩⟩ (by simp only [exitV, if_neg hnb]; rw [if_pos h1]; exact hb) hr
theorem exit_sub {cx : Cx} {G : Gh} {h : List LB} {w : World} (s : SatH cx G h w) {V : Vw} (hV : cx.G0.V = V) (hS : cx.S = V.I) (h0 : ViewOk cx.pm.Γ V cx.w0) (fb : Option Nat) (hfb : ∀ b, fb = some b → G.V.H b = none)
    {i ver lo n : Nat} {t : TypeId} {sz : Nat} {els : List (List D)} (hi : h[i]? = some (.row t sz els ver)) {v : Value} (hv : Cr G (.sub i ver sz lo n) v) (hle : lo + n ≤ els.length) (hne : ∀ e, G.g[i]? = some e → ∀ b, fb = some b → blkOf e.1 ≠ some b) :
    Dr (exitV V cx.w0.heap.size fb w) (.lst sz ((els.drop lo).take n)) v := by
  obtain ⟨v0, xs, hg, how, hob, hd, hl⟩ := row_at s hi
  obtain ⟨_, v0', n', hg', _, hx⟩ := hv
  rw [hg] at hg'
  cases hg'
  obtain ⟨A, cap, rfl, hc, hm, hA⟩ := hx rfl
  have rf := row_form how
  have hd0 := exit_own s hV hS h0 fb hfb hi (v := v0) ⟨rf.2.2.2, v0, ver, hg, Nat.le_refl _, fun _ => rfl⟩ fun b hb hob => hne _ hg b hb (rf.2.2.1 b hob)
  obtain ⟨A0, cap0, u, e0, hc0, hm0, hl0, ha0, hu0⟩ := dr_lst hd0
  have hlen : ((els.drop lo).take n).length = n := by rw [List.length_take, List.length_drop]; omega
  have hget : ∀ (a : Nat) (e : List D), ((els.drop lo).take n)[a]? = some e → els[lo + a]? = some e := fun a e he => by
    rw [List.getElem?_take] at he
    split at he
    · rwa [List.getElem?_drop] at he
    · cases he
  have key : Dr (exitV V cx.w0.heap.size fb w) (.lst sz ((els.drop lo).take n)) (.slice A ((els.drop lo).take n).length cap) := by
    refine .lst sz _ A cap (fun a j => u (lo + a) j) (by rw [hlen]; exact hc) hm (fun e he => hl0 e (List.mem_of_mem_drop (List.mem_of_mem_take he))) (fun hn => ?_) (fun a e j c h1 h2 => hu0 _ e j c (hget a e h1) h2)
    have hpos : 0 < n := by have := List.length_pos_iff.2 hn; omega
    obtain ⟨b, len0, cap1, rfl, rfl⟩ := hA hpos
    obtain ⟨ad, q1, q2, q3⟩ := ha0 (by intro e; rw [e] at hle; simp at hle; omega)
    rw [q1] at e0
    injection e0 with e1 _ _
    injection e1 with e1
    subst e1
    refine ⟨_, rfl, q2, fun a e j c h1 h2 => ?_⟩
    have := q3 _ e j c (hget a e h1) h2
    rw [add_plain] at this ⊢
    rw [show lo * sz + (a * sz + j) = 0 + ((lo + a) * sz + j) from by rw [Nat.add_mul]; omega]
    exact this
  rwa [hlen] at key
theorem celR_ok {cx : Cx} {G : Gh} {h : List LB} {w : World} (s : SatH cx G h w) {V : Vw} (hV : cx.G0.V = V) (hS : cx.S = V.I) (h0 : ViewOk cx.pm.Γ V cx.w0) {fr : Option Nat} {fb : Option Nat} (hfb : ∀ b, fb = some b → G.V.H b = none)
    (hfr : ∀ b, fb = some b → ∃ i lb e, fr = some i ∧ h[i]? = some lb ∧ lb.live ∧ G.g[i]? = some e ∧ blkOf e.1 = some b) {c : C} {x : D} (hc : celR h fr c x) {v : Value} (hv : Cr G c v) : Dr (exitV V cx.w0.heap.size fb w) x v := by
  unfold celR at hc
  split at hc
  · next i ver sz els =>
    split at hc
    · next t sz' els' v' hi =>
      obtain ⟨⟨rfl, hne, rfl⟩, rfl⟩ := hc
      exact cellD_ok s hV hS h0 hfb hfr (c := .own i v') (by simp [cellD, hi, hne]) hv
    · exact hc.elim
  · next i ver sz0 lo n sz els =>
    split at hc
    · next t sz' els' v' hi =>
      obtain ⟨⟨rfl, hne, rfl, rfl, hle⟩, rfl⟩ := hc
      exact exit_sub s hV hS h0 fb hfb hi hv hle fun e he => exit_ne s hfr hi trivial he hne
    · exact hc.elim
  · next i ver sh m =>
    split at hc
    · next sh' m' hi =>
      obtain ⟨⟨rfl, hne, rfl⟩, rfl⟩ := hc
      exact exit_map s fb hi hv fun e he => exit_ne s hfr hi trivial he hne
    · exact hc.elim
  · next sz els =>
    subst hc
    have := ar_raw hv
    subst this
    exact Dr.lst sz [] none 0 (fun _ _ => undef) (by simp) (by simp) (by simp) (by simp) (by simp)
  · next sh m =>
    subst hc
    have := ar_raw hv
    subst this
    exact Dr.mpn sh
  · subst hc
    exact exit_dr s hV hS h0 fb hfb hv
  · exact hc.elim
theorem celsR_ok {cx : Cx} {G : Gh} {h : List LB} {w : World} (s : SatH cx G h w) {V : Vw} (hV : cx.G0.V = V) (hS : cx.S = V.I) (h0 : ViewOk cx.pm.Γ V cx.w0) {fr : Option Nat} {fb : Option Nat} (hfb : ∀ b, fb = some b → G.V.H b = none)
    (hfr : ∀ b, fb = some b → ∃ i lb e, fr = some i ∧ h[i]? = some lb ∧ lb.live ∧ G.g[i]? = some e ∧ blkOf e.1 = some b) : ∀ (cs : List C) (ds : List D) (vs : List Value), celsR h fr cs ds → All2 (Cr G) cs vs → All2 (Dr (exitV V cx.w0.heap.size fb w)) ds vs
  | [], [], vs, _, hv => by cases hv; exact .nil
  | c :: r, x :: xs, vs, hc, hv => by
    cases hv with
    | cons h1 h2 => exact .cons (celR_ok s hV hS h0 hfb hfr hc.1 h1) (celsR_ok s hV hS h0 hfb hfr r xs _ hc.2 h2)
  | [], _ :: _, _, hc, _ => hc.elim
  | _ :: _, [], _, hc, _ => hc.elim
theorem resR_ok {cx : Cx} {G : Gh} {h : List LB} {w : World} (s : SatH cx G h w) {V : Vw} (hV : cx.G0.V = V) (hS : cx.S = V.I) (h0 : ViewOk cx.pm.Γ V cx.w0) {fr : Option Nat} {fb : Option Nat} (hfb : ∀ b, fb = some b → G.V.H b = none)
    (hfr : ∀ b, fb = some b → ∃ i lb e, fr = some i ∧ h[i]? = some lb ∧ lb.live ∧ G.g[i]? = some e ∧ blkOf e.1 = some b) (hfr' : ∀ i e b, fr = some i → G.g[i]? = some e → blkOf e.1 = some b → fb = some b)
    {α : AV} {r : RV} (hc : resR h fr α r) {v : Value} (hv : Ar G α v) : Rr (exitV V cx.w0.heap.size fb w) w cx.w0.heap.size r v := by
  unfold resR at hc
  split at hc
  · exact celR_ok s hV hS h0 hfb hfr hc hv
  · next cs ds =>
    obtain ⟨vs, rfl, hcs⟩ := hv
    exact ⟨vs, rfl, celsR_ok s hV hS h0 hfb hfr cs ds vs hc hcs⟩
  · next i ver t sz els =>
    split at hc
    · next t' sz' els' v' hi =>
      obtain ⟨⟨rfl, hfi, rfl, rfl⟩, rfl⟩ := hc
      exact rvOf_ok s hV hS h0 hfb hfr hfr' (α := .c (.own i v')) (by simp [rvOf, cellD, hi, hfi]) hv
    · exact hc.elim
  · next t sz els =>
    subst hc
    have := ar_raw hv
    subst this
    exact ⟨[], World.ownsRow_nil w _ t sz, fun b hb => (by cases hb), .nil, by simp⟩
  · exact hc.elim
theorem ressR_ok {cx : Cx} {G : Gh} {h : List LB} {w : World} (s : SatH cx G h w) {V : Vw} (hV : cx.G0.V = V) (hS : cx.S = V.I) (h0 : ViewOk cx.pm.Γ V cx.w0) {fr : Option Nat} {fb : Option Nat} (hfb : ∀ b, fb = some b → G.V.H b = none)
    (hfr : ∀ b, fb = some b → ∃ i lb e, fr = some i ∧ h[i]? = some lb ∧ lb.live ∧ G.g[i]? = some e ∧ blkOf e.1 = some b) (hfr' : ∀ i e b, fr = some i → G.g[i]? = some e → blkOf e.1 = some b → fb = some b) :
    ∀ (αs : List AV) (rs : List RV) (vs : List Value), ressR h fr αs rs → All2 (Ar G) αs vs → All2 (Rr (exitV V cx.w0.heap.size fb w) w cx.w0.heap.size) rs vs
  | [], [], vs, _, hv => by cases hv; exact .nil
  | c :: r, x :: xs, vs, hc, hv => by
    cases hv with
    | cons h1 h2 => exact .cons (resR_ok s hV hS h0 hfb hfr hfr' hc.1 h1) (ressR_ok s hV hS h0 hfb hfr hfr' r xs _ hc.2 h2)
  | [], _ :: _, _, hc, _ => hc.elim
  | _ :: _, [], _, hc, _ => hc.elim

theorem exit_afterR {cx : Cx} {G : Gh} {st : St} {a : Act} {w : World} (s : Sat cx G st a w) {V : Vw} (hV : cx.G0.V = V) (hS : cx.S = V.I) (h0 : ViewOk cx.pm.Γ V cx.w0) {fr : Option Nat} (hlive : ∀ i, fr = some i → ∃ lb, st.heap[i]? = some lb ∧ lb.live)
    {αs : List AV} {rs : List RV} {vs : List Value} (hr : ressR st.heap fr αs rs) (hv : All2 (Ar G) αs vs) : After V cx.w0 rs (.returned (tupV vs)) w := by
  obtain ⟨fb, hfb, hfr, hfr'⟩ : ∃ fb : Option Nat, (∀ b, fb = some b → G.V.H b = none) ∧ (∀ b, fb = some b → ∃ i lb e, fr = some i ∧ st.heap[i]? = some lb ∧ lb.live ∧ G.g[i]? = some e ∧ blkOf e.1 = some b) ∧
      (∀ i e b, fr = some i → G.g[i]? = some e → blkOf e.1 = some b → fb = some b) := by
    cases fr with
    | none => exact ⟨none, fun b h => (by cases h), fun b h => (by cases h), fun i e b h => (by cases h)⟩
    | some i =>
      obtain ⟨lb, h1, h2⟩ := hlive i rfl
      obtain ⟨e, h3, h4⟩ := s.h.entry h1
      refine ⟨blkOf e.1, fun b hb => (h4.blk h2 hb).2.2, fun b hb => ⟨i, lb, e, rfl, h1, h2, h3, hb⟩, fun i' e' b q1 q2 q3 => ?_⟩
      cases q1
      rw [h3] at q2
      cases q2
      exact q3
  have hfbb : ∀ b, fb = some b → cx.w0.heap.size ≤ b := fun b hb => by
    obtain ⟨i, lb, e, _, q2, q3, q4, q5⟩ := hfr b hb
    exact ((s.h.ent i lb e q2 q4).blk q3 q5).1
  refine ⟨exitV V cx.w0.heap.size fb w, vs, rfl, ⟨fun b o ho => ?_, fun b hb => ?_⟩, fun b o ho => ?_, fun b hb => ?_, ressR_ok s.h hV hS h0 hfb hfr hfr' αs rs vs hr hv, s.h.below⟩
  · have hlt := heap_lt (h0.view b o ho)
    have hne : ¬ (some b = fb) := fun e => by have := hfbb b e.symm; omega
    simp only [exitV, if_neg hne]
    rw [if_neg (by omega)]
    exact ho
  · obtain ⟨o, ho⟩ := h0.imm b hb
    have hlt := heap_lt (h0.view b o ho)
    exact ⟨fun e => by have := hfbb b e.symm; omega, .inl hb⟩
  · simp only [exitV] at ho
    split at ho
    · cases ho
    · split at ho
      · exact ho
      · next hlt =>
        rw [s.h.below.block b (by omega)]
        exact h0.view b o ho
  · obtain ⟨h1, h2⟩ := hb
    refine ⟨?_, h2.imp id fun h => h.1⟩
    simp only [exitV, if_neg h1]
    split
    · next hge =>
      rcases h2 with h2 | h2
      · obtain ⟨o, ho⟩ := h0.imm b h2
        have hlt := heap_lt (h0.view b o ho)
        omega
      · exact ⟨_, Array.getElem?_eq_getElem h2.2⟩
    · next hlt =>
      rcases h2 with h2 | h2
      · exact h0.imm b h2
      · omega

theorem frOf_live {h : List LB} {αs : List AV} {rs : List RV} (hr : ressR h (frOf αs rs) αs rs) : ∀ i, frOf αs rs = some i → ∃ lb, h[i]? = some lb ∧ lb.live := by
  intro i hi
  unfold frOf at hi
  split at hi
  · cases hi
    obtain ⟨h1, _⟩ := hr
    simp only [resR] at h1
    split at h1
    · next hi => exact ⟨_, hi, trivial⟩
    · exact h1.elim
  · cases hi

def finX (P : Program) (res : List ResultVar) (rs : List RV) (st : St) : Prop :=
  match resAVs P st res with
  | some αs => ressR st.heap (frOf αs rs) αs rs
  | none => False
def FinX (P : Program) (res : List ResultVar) (rs : List RV) : Exit → St → Prop
  | .ret, st => finX P res rs st
  | .normal, st => finX P res rs st
  | _, _ => False

theorem AFn.of_bodyX {Γ : List (Nat × List D)} {f : FuncId} {fn : Func} {c : Code} {args : List AV} {rs : List RV} (hf : P.funcs[f]? = some fn) (hname : (fn.name == "runtime.NumGoroutine") = false) (hb : fn.body = some c) (hN : args.length ≤ fn.ntmps)
    (h : AXc P ⟨0, fn.ntmps, Γ⟩ c ⟨envOf args 0, []⟩ (FinX P fn.results.toList rs)) : AFn P Γ f args rs := by
  refine ⟨⟨fn, hf, hname, by rw [hb]; rfl⟩, fun V w vals h0 hargs => ?_⟩
  refine calls_of_wp hf hb ?_
  have hl := hargs.length
  let cx : Cx := ⟨⟨0, fn.ntmps, Γ⟩, w, V.I, ⟨V, []⟩, [], 0⟩
  have sat : Sat cx ⟨V, []⟩ ⟨envOf args 0, []⟩ { tmps := vals.toArray ++ Array.replicate (fn.ntmps - vals.toArray.size) undef, defers := [] } w := by
    refine ⟨⟨rfl, fun i b e hi => by simp at hi, fun i j bi bj ei ej k hi => by simp at hi, h0.view, fun b hb => ⟨h0.imm b hb, .inl hb⟩, .refl _ _, .refl _ _, h0.glob, Nat.zero_le _⟩, envOf_ok hargs _, ?_, rfl⟩
    · simp [cx]; omega
  refine wp_mono (h cx ⟨V, []⟩ _ w rfl sat).1 ?_
  rintro e a' w' ⟨G', st', s', hq⟩
  have key : finX P fn.results.toList rs st' → ∃ vs, (results fn a'.tmps).run P w' = .ok (tupV vs) w' ∧ After V cx.w0 rs (.returned (tupV vs)) w' := by
    intro hfin
    unfold finX at hfin
    split at hfin
    · next αs h1 =>
      obtain ⟨vs, hres, hvs⟩ := run_results s' h1
      exact ⟨vs, hres, exit_afterR s' rfl rfl h0 (frOf_live hfin) hfin hvs⟩
    · exact hfin.elim
  cases e with
  | ret => obtain ⟨vs, h1, h2⟩ := key hq; exact ⟨s'.defers, _, h1, h2⟩
  | normal => obtain ⟨vs, h1, h2⟩ := key hq; exact ⟨s'.defers, _, h1, h2⟩
  | _ => exact hq.elim

/-- FROM THE RECKONED RULE TO THE CONTRACT. -/
theorem AFn.vc {Γ : List (Nat × List D)} {f : FuncId} {fn : Func} {c : Code} {args : List AV} {rs : List RV} {n : Nat} {res : Array ResultVar} (E : List Nat) (hf : P.funcs[f]? = some fn) (hb : fn.body = some c) (hm : P.follows .mixedOrders = true)
    (hok : (!(fn.name == "runtime.NumGoroutine") && codeOk E fn.ntmps c) = true) (hn : fn.ntmps = n) (hr : fn.results = res) (hN : args.length ≤ n)
    (h : ap (Ax.vc P ⟨0, n, Γ⟩ E c ⟨envOf args 0, []⟩) (FinX P res.toList rs) ⟨⟩) : AFn P Γ f args rs := by
  subst hn hr
  simp only [Bool.and_eq_true, Bool.not_eq_true'] at hok
  exact AFn.of_bodyX hf hok.1 hb hN (vc_ok hm c _ _ hok.2 h)

@[push_cast] theorem FinX_r (res : List ResultVar) (rs : List RV) (st : St) : FinX P res rs .ret st = finX P res rs st := (rfl)
@[push_cast] theorem FinX_n (res : List ResultVar) (rs : List RV) (st : St) : FinX P res rs .normal st = finX P res rs st := (rfl)
def finX2 (q : Option (List AV)) (rs : List RV) (h : List LB) : Prop := match q with | some αs => ressR h (frOf αs rs) αs rs | none => False
@[push_cast] theorem finX_2 (res : List ResultVar) (rs : List RV) (st : St) : finX P res rs st = finX2 (resAVs P st res) rs st.heap := (rfl)
@[push_cast] theorem finX2_s (αs : List AV) (rs : List RV) (h : List LB) : finX2 (some αs) rs h = ressR h (frOf αs rs) αs rs := (rfl)
@[push_cast] theorem ressR_n (h : List LB) (fr : Option Nat) : ressR h fr [] [] = True := (rfl)
@[push_cast] theorem ressR_c (h : List LB) (fr : Option Nat) (α : AV) (r : List AV) (x : RV) (xs : List RV) : ressR h fr (α :: r) (x :: xs) = (resR h fr α x ∧ ressR h fr r xs) := (rfl)
@[push_cast] theorem resR_a (h : List LB) (fr : Option Nat) (cs : List C) (ds : List D) : resR h fr (.agg cs) (.agg ds) = celsR h fr cs ds := (rfl)
@[push_cast] theorem celsR_n (h : List LB) (fr : Option Nat) : celsR h fr [] [] = True := (rfl)
@[push_cast] theorem celsR_c (h : List LB) (fr : Option Nat) (c : C) (r : List C) (x : D) (xs : List D) : celsR h fr (c :: r) (x :: xs) = (celR h fr c x ∧ celsR h fr r xs) := (rfl)
@[push_cast] theorem resR_d (h : List LB) (fr : Option Nat) (c : C) (x : D) : resR h fr (.c c) (.d x) = celR h fr c x := (rfl)
@[push_cast] theorem celR_i (h : List LB) (fr : Option Nat) (k : IntKind) (n : Int) (y : D) : celR h fr (.d (.int k n)) y = (D.int k n = y) := by cases y <;> rfl
@[push_cast] theorem celR_b (h : List LB) (fr : Option Nat) (b : Bool) (y : D) : celR h fr (.d (.bool b)) y = (D.bool b = y) := by cases y <;> rfl
@[push_cast] theorem celR_s (h : List LB) (fr : Option Nat) (l : List UInt8) (y : D) : celR h fr (.d (.str l)) y = (D.str l = y) := by cases y <;> rfl
@[push_cast] theorem celR_l (h : List LB) (fr : Option Nat) (sz : Nat) (els : List (List D)) (y : D) : celR h fr (.d (.lst sz els)) y = (D.lst sz els = y) := by cases y <;> rfl
@[push_cast] theorem celR_n (h : List LB) (fr : Option Nat) (sz : Nat) (els : List (List D)) : celR h fr (.d (.raw (.slice none 0 0))) (.lst sz els) = (els = []) := (rfl)
@[push_cast] theorem celR_r (h : List LB) (fr : Option Nat) (v w : Value) : celR h fr (.d (.raw v)) (.raw w) = (D.raw v = D.raw w) := by unfold celR; split <;> simp_all
@[push_cast] theorem celR_m (h : List LB) (fr : Option Nat) (sh : List Kc) (m : Mp) (y : D) : celR h fr (.d (.mp sh m)) y = (D.mp sh m = y) := by cases y <;> rfl
@[push_cast] theorem celR_mn (h : List LB) (fr : Option Nat) (sh : List Kc) (m : Mp) : celR h fr (.d (.raw (.map none))) (.mp sh m) = (m = []) := (rfl)
def celM (b : Option LB) (fr : Option Nat) (i ver : Nat) (sh : List Kc) (m : Mp) : Prop := match b with | some (.mp sh' m') => (ver = 0 ∧ fr ≠ some i ∧ sh' = sh) ∧ m' = m | _ => False
@[push_cast] theorem celR_om (h : List LB) (fr : Option Nat) (i ver : Nat) (sh : List Kc) (m : Mp) : celR h fr (.own i ver) (.mp sh m) = celM h[i]? fr i ver sh m := (rfl)
@[push_cast] theorem celM_s (sh' : List Kc) (m' : Mp) (fr : Option Nat) (i ver : Nat) (sh : List Kc) (m : Mp) : celM (some (.mp sh' m')) fr i ver sh m = ((ver = 0 ∧ fr ≠ some i ∧ sh' = sh) ∧ m' = m) := (rfl)
def celS (b : Option LB) (fr : Option Nat) (i ver sz0 lo n sz : Nat) (els : List (List D)) : Prop := match b with | some (.row _ sz' els' v) => (v = ver ∧ fr ≠ some i ∧ sz' = sz ∧ sz0 = sz ∧ lo + n ≤ els'.length) ∧ (els'.drop lo).take n = els | _ => False
@[push_cast] theorem celR_u (h : List LB) (fr : Option Nat) (i ver sz0 lo n sz : Nat) (els : List (List D)) : celR h fr (.sub i ver sz0 lo n) (.lst sz els) = celS h[i]? fr i ver sz0 lo n sz els := (rfl)
@[push_cast] theorem celS_s (t : TypeId) (sz' : Nat) (els' : List (List D)) (v : Nat) (fr : Option Nat) (i ver sz0 lo n sz : Nat) (els : List (List D)) : celS (some (.row t sz' els' v)) fr i ver sz0 lo n sz els = ((v = ver ∧ fr ≠ some i ∧ sz' = sz ∧ sz0 = sz ∧ lo + n ≤ els'.length) ∧ (els'.drop lo).take n = els) := (rfl)
def celO (b : Option LB) (fr : Option Nat) (i ver sz : Nat) (els : List (List D)) : Prop := match b with | some (.row _ sz' els' v) => (v = ver ∧ fr ≠ some i ∧ sz' = sz) ∧ els' = els | _ => False
@[push_cast] theorem celR_o (h : List LB) (fr : Option Nat) (i ver sz : Nat) (els : List (List D)) : celR h fr (.own i ver) (.lst sz els) = celO h[i]? fr i ver sz els := (rfl)
@[push_cast] theorem celO_s (t : TypeId) (sz' : Nat) (els' : List (List D)) (v : Nat) (fr : Option Nat) (i ver sz : Nat) (els : List (List D)) : celO (some (.row t sz' els' v)) fr i ver sz els = ((v = ver ∧ fr ≠ some i ∧ sz' = sz) ∧ els' = els) := (rfl)
def resO (b : Option LB) (fr : Option Nat) (i ver : Nat) (t : TypeId) (sz : Nat) (els : List (List D)) : Prop := match b with | some (.row t' sz' els' v) => (v = ver ∧ fr = some i ∧ t' = t ∧ sz' = sz) ∧ els' = els | _ => False
@[push_cast] theorem resR_o (h : List LB) (fr : Option Nat) (i ver : Nat) (t : TypeId) (sz : Nat) (els : List (List D)) : resR h fr (.c (.own i ver)) (.fresh t sz els) = resO h[i]? fr i ver t sz els := (rfl)
@[push_cast] theorem resO_s (t t' : TypeId) (sz sz' : Nat) (els els' : List (List D)) (v : Nat) (fr : Option Nat) (i ver : Nat) : resO (some (.row t' sz' els' v)) fr i ver t sz els = ((v = ver ∧ fr = some i ∧ t' = t ∧ sz' = sz) ∧ els' = els) := (rfl)
@[push_cast] theorem resR_n (h : List LB) (fr : Option Nat) (t : TypeId) (sz : Nat) (els : List (List D)) : resR h fr (.c (.d (.raw (.slice none 0 0)))) (.fresh t sz els) = (els = []) := (rfl)
@[push_cast] theorem frOf_o (i ver : Nat) (t : TypeId) (sz : Nat) (els : List (List D)) : frOf [.c (.own i ver)] [.fresh t sz els] = some i := rfl
@[push_cast] theorem frOf_d (αs : List AV) (x : D) (xs : List RV) : frOf αs (.d x :: xs) = none := by unfold frOf; split <;> first | rfl | (next e => cases e)
@[push_cast] theorem frOf_a (αs : List AV) (x : List D) (xs : List RV) : frOf αs (.agg x :: xs) = none := by unfold frOf; split <;> first | rfl | (next e => cases e)
@[push_cast] theorem frOf_n (αs : List AV) : frOf αs [] = none := by unfold frOf; split <;> first | rfl | (next e => cases e)
@[push_cast] theorem frOf_r (v : Value) (rs : List RV) : frOf [.c (.d (.raw v))] rs = none := by unfold frOf; split <;> first | rfl | (next e => cases e)
end Go.Ax

namespace Go.Ax
variable {P : Program} {pm : Pm} {E : List Nat}
/-- A loop over memory that stays as it is. -/
theorem LoopV.of0 {b : Code} {st : St} {Q : Exit → St → Prop} {S : Type} (hm : P.follows .mixedOrders = true) (keep : List Nat) (vars : S → List (Nat × AV)) (I : S → Prop) (μ : S → Nat) (s0 : S) (h0 : I s0)
    (round : ∀ s, I s → ap (Ax.vc P pm E b ⟨frame keep st.env (vars s), st.heap⟩) (EthenT (fun st' => ∃ s', (I s' ∧ μ s' < μ s) ∧ fitsV pm st' ⟨frame keep st.env (vars s'), st.heap⟩) Q ⟨⟩ ⟨⟩) ⟨⟩) (f0 : fitsV pm st ⟨frame keep st.env (vars s0), st.heap⟩ := by push_cast) : LoopV P pm E b st Q ⟨⟩ :=
  LoopV.of hm keep vars (fun _ => st.heap) I μ s0 h0 f0 round
/-- A loop that counts up to n, over memory that stays as it is. -/
theorem LoopV.cnt {b : Code} {st : St} {Q : Exit → St → Prop} (hm : P.follows .mixedOrders = true) (keep : List Nat) (n : Nat) (vars : Nat → List (Nat × AV)) (I : Nat → Prop) (h0 : I 0)
    (round : ∀ k, k ≤ n → I k → ap (Ax.vc P pm E b ⟨frame keep st.env (vars k), st.heap⟩) (EthenT (fun st' => (k < n ∧ I (k + 1)) ∧ fitsV pm st' ⟨frame keep st.env (vars (k + 1)), st.heap⟩) Q ⟨⟩ ⟨⟩) ⟨⟩) (f0 : fitsV pm st ⟨frame keep st.env (vars 0), st.heap⟩ := by push_cast) : LoopV P pm E b st Q ⟨⟩ := by
  intro hok
  refine AXc.loopW (fun k => ⟨frame keep st.env (vars k), st.heap⟩) (fun k => k ≤ n ∧ I k) (fun k => n - k) 0 ⟨Nat.zero_le _, h0⟩ (fitsV_ok f0) fun k hk => (vc_ok hm b _ _ hok (round k hk.1 hk.2)).mono fun e s he => ?_
  cases e with
  | normal => exact ⟨k + 1, ⟨by have := he.1.1; omega, he.1.2⟩, by have := he.1.1; omega, fitsV_ok he.2⟩
  | _ => exact he
/-- The same where rows change with the count. -/
theorem LoopV.cntH {b : Code} {st : St} {Q : Exit → St → Prop} (hm : P.follows .mixedOrders = true) (keep : List Nat) (n : Nat) (vars : Nat → List (Nat × AV)) (heap : Nat → List LB) (I : Nat → Prop) (h0 : I 0)
    (round : ∀ k, k ≤ n → I k → ap (Ax.vc P pm E b ⟨frame keep st.env (vars k), heap k⟩) (EthenT (fun st' => (k < n ∧ I (k + 1)) ∧ fitsV pm st' ⟨frame keep st.env (vars (k + 1)), heap (k + 1)⟩) Q ⟨⟩ ⟨⟩) ⟨⟩) (f0 : fitsV pm st ⟨frame keep st.env (vars 0), heap 0⟩ := by push_cast) : LoopV P pm E b st Q ⟨⟩ := by
  intro hok
  refine AXc.loopW (fun k => ⟨frame keep st.env (vars k), heap k⟩) (fun k => k ≤ n ∧ I k) (fun k => n - k) 0 ⟨Nat.zero_le _, h0⟩ (fitsV_ok f0) fun k hk => (vc_ok hm b _ _ hok (round k hk.1 hk.2)).mono fun e s he => ?_
  cases e with
  | normal => exact ⟨k + 1, ⟨by have := he.1.1; omega, he.1.2⟩, by have := he.1.1; omega, fitsV_ok he.2⟩
  | _ => exact he
end Go.Ax

/-
  Regions of which several operations with effects may come up in either order: every order is walked.
-/
namespace Go.Ax
open Go Go.RowKit
/-- All orders, as a tree: 'cons i t r': the operation i comes up, then t; or one of those in r. -/
inductive Tr where
  | leaf
  | nil
  | cons (i : Nat) (t r : Tr)
def Tr.kids : Tr → List Nat
  | .cons i _ r => i :: r.kids
  | _ => []
def Tr.chk (l : List Oper) : Tr → Nat → Array Bool → Bool → Bool
  | .leaf, _, L, top => top && Region.ready .any l.toArray L == []
  | .nil, _, _, top => !top
  | .cons i t r, n, L, top => (!top || Region.ready .any l.toArray L == i :: r.kids) && (match n with
    | 0 => false
    | n + 1 => t.chk l n (L.setIfInBounds i true) true && r.chk l (n + 1) L false)
section
variable {P : Program} {pm : Pm} {E : List Nat}
def vca (P : Program) (pm : Pm) (E : List Nat) (l : List Oper) : Tr → St → (St → Prop) → Prop
  | .leaf, st, K => K st
  | .nil, _, _ => True
  | .cons i t r, st, K => (match l[i]? with
    | some o => vgd l o.guard st (fun st => vrun P pm E o st fun st' => vca P pm E l t st' K) (fun st => vca P pm E l t (st.put o.dst U) K)
    | none => False) ∧ vca P pm E l r st K
def vcaO (P : Program) (pm : Pm) (E : List Nat) (l : List Oper) (t : Tr) (st : St) (oo : Option Oper) (K : St → Prop) : Prop := match oo with
    | some o => vgd l o.guard st (fun st => vrun P pm E o st fun st' => vca P pm E l t st' K) (fun st => vca P pm E l t (st.put o.dst U) K)
    | none => False
@[push_cast] theorem vca_leaf (l : List Oper) (st : St) (K : St → Prop) : ap (vca P pm E l .leaf st) K ⟨⟩ = K st := (rfl)
@[push_cast] theorem vca_nil (l : List Oper) (st : St) (K : St → Prop) : ap (vca P pm E l .nil st) K ⟨⟩ = True := (rfl)
@[push_cast] theorem vca_cons (l : List Oper) (i : Nat) (t r : Tr) (st : St) (K : St → Prop) : ap (vca P pm E l (.cons i t r) st) K ⟨⟩ = (ap (vcaO P pm E l t st l[i]?) K ⟨⟩ ∧ ap (vca P pm E l r st) K ⟨⟩) := (rfl)
@[push_cast] theorem vcaO_some (l : List Oper) (o : Oper) (t : Tr) (st : St) (K : St → Prop) : ap (vcaO P pm E l t st (some o)) K ⟨⟩ = ap2 (vgd l o.guard st) (fun st => ap (vrun P pm E o st) (fun st' => ap (vca P pm E l t st') K ⟨⟩) ⟨⟩) (fun st => ap (vca P pm E l t (st.put o.dst U)) K ⟨⟩) ⟨⟩ ⟨⟩ := (rfl)
def Qm (K : Act → World → Prop) (Q : Exit → Act → World → Prop) : Exit → Act → World → Prop
  | .normal => K
  | e => Q e
theorem wp_qm {o : Oper} {a : Act} {w : World} {K : Act → World → Prop} {Q : Exit → Act → World → Prop} (h : o.wp P a w K (Qm K Q)) : o.wp P a w K Q := by
  unfold Oper.wp at *
  generalize (execOp a.eval o).run P w = r at *
  cases r with
  | ok n w' => cases n <;> first | exact h | exact Calls.mono h (fun e w'' he => by cases e <;> exact he)
  | halt x w' => cases x <;> exact h
theorem wpOp_of_list {l : List Oper} {i : Nat} {o : Oper} {a : Act} {w : World} {K : Act → World → Prop} {Q : Exit → Act → World → Prop} (ho : l[i]? = some o) (h : wpList P l.toArray (Qm K Q) [o] a w) : wpOp P l.toArray Q i K a w := by
  have h1 : l.toArray[i]? = some o := by simpa using ho
  unfold wpOp
  simp only [h1]
  simp only [wpList] at h
  split
  · next hw =>
    rw [if_pos hw] at h
    rcases h with h | ⟨h, h2⟩
    · exact .inl (wp_qm h)
    · exact .inr ⟨h, h2⟩
  · next hw => rw [if_neg hw] at h; exact h
theorem vca_ok {l : List Oper} (hok : opsOk l pm.N = true) {cx : Cx} (hp : cx.pm = pm) {Q : Exit → Act → World → Prop} {K : St → Prop} (hQ : ∀ G st a w, Sat cx G st a w → K st → Q .normal a w) : ∀ (t : Tr) (n : Nat) (L : Array Bool) (st : St), vca P pm E l t st K →
    (t.chk l n L true = true → ∀ G a w, Sat cx G st a w → wpAny P .any l.toArray Q n L a w) ∧
    (t.chk l n L false = true → ∀ i ∈ t.kids, ∃ m, n = m + 1 ∧ ∀ G a w, Sat cx G st a w → wpOp P l.toArray Q i (wpAny P .any l.toArray Q m (L.setIfInBounds i true)) a w)
  | .leaf, n, L, st, h => by
    refine ⟨fun hc G a w s => ?_, fun hc => by simp [Tr.chk] at hc⟩
    simp only [Tr.chk, Bool.true_and, beq_iff_eq] at hc
    have hq := hQ G st a w s h
    cases n with
    | zero => exact ⟨hc, hq⟩
    | succ n => exact ⟨fun _ => hq, fun i hi => by rw [hc] at hi; cases hi⟩
  | .nil, n, L, st, _ => ⟨fun hc => by simp [Tr.chk] at hc, fun _ i hi => by cases hi⟩
  | .cons i t r, n, L, st, h => by
    obtain ⟨h1, h2⟩ := h
    have sib : (Tr.cons i t r).chk l n L false = true → ∀ j ∈ (Tr.cons i t r).kids, ∃ m, n = m + 1 ∧ ∀ G a w, Sat cx G st a w → wpOp P l.toArray Q j (wpAny P .any l.toArray Q m (L.setIfInBounds j true)) a w := by
      intro hc j hj
      cases n with
      | zero => simp [Tr.chk] at hc
      | succ n =>
        simp only [Tr.chk, Bool.not_false, Bool.true_or, Bool.true_and, Bool.and_eq_true] at hc
        obtain ⟨hc1, hc2⟩ := hc
        rcases List.mem_cons.1 hj with rfl | hj
        · refine ⟨n, rfl, fun G a w s => ?_⟩
          cases ho : l[j]? with
          | none => rw [ho] at h1; exact h1.elim
          | some o =>
            rw [ho] at h1
            simp only at h1
            refine wpOp_of_list ho ?_
            obtain ⟨g1, g2⟩ := opsOk_at hok (List.mem_of_getElem? ho)
            have key : AXl P pm l.toArray [o] st (fun st' => vca P pm E l t st' K) := vgd_ok g2 g1 (fun st hst => by
              intro ops rest' K' hK'
              exact vrun_ok g2 hst ops rest' K' fun st' hst' => hK' st' (AXl.nil hst')) (fun st hst => AXl.nil hst) h1
            exact key cx G a w _ hp s fun G' st' a' w' s' hk => ((vca_ok hok hp hQ t n _ st' hk).1 hc1) G' a' w' s'
        · obtain ⟨m, hm, hh⟩ := (vca_ok hok hp hQ r (n + 1) L st h2).2 hc2 j hj
          exact ⟨m, hm, hh⟩
    refine ⟨fun hc => ?_, sib⟩
    cases n with
    | zero => simp [Tr.chk] at hc
    | succ n =>
      intro G a w s
      have hc' : (Tr.cons i t r).chk l (n + 1) L false = true := by
        simp only [Tr.chk, Bool.not_true, Bool.false_or, Bool.not_false, Bool.true_or, Bool.true_and, Bool.and_eq_true] at hc ⊢
        exact hc.2
      have hr : Region.ready .any l.toArray L = i :: r.kids := by
        simp only [Tr.chk, Bool.not_true, Bool.false_or, Bool.and_eq_true, beq_iff_eq] at hc
        exact hc.1
      refine ⟨fun he => (by rw [hr] at he; cases he), fun j hj => ?_⟩
      rw [hr] at hj
      obtain ⟨m, hm, hh⟩ := sib hc' j hj
      have : n = m := by omega
      subst this
      exact hh G a w s
theorem RegV.any {id : Nat} {l : List Oper} {st : St} {Q : Exit → St → Prop} {tk : Tok Q} (hm : P.follows .mixedOrders = true) (t : Tr) (hc : t.chk l l.length (Array.replicate l.length false) true = true) (K : St → Prop) (h : ap (vca P pm E l t st) K ⟨⟩) (hK : ∀ st', K st' → Q .normal st') : RegV P pm id l st Q tk := by
  intro hok cx G a w hp s
  refine wp2_region_any hm ?_
  have s' : Sat cx G st a { w with drawn := w.drawn + 1 } := ⟨s.h.later ((Below.refl _ w).drew), fun t => s.ev (.tmp t), s.N, s.defers⟩
  have := (vca_ok (P := P) (E := E) (Q := Post cx Q) (K := K) hok hp (fun G st a w s k => ⟨G, st, s, hK st k⟩) t l.length (Array.replicate l.length false) st h).1 hc G a _ s'
  simpa using this
end
end Go.Ax

/- Small facts on lists: a list changed up to a place; sums of bounds. No condition. -/
namespace Go.Ax
section
variable {α β : Type}
def upto (f : α → α) (k : Nat) (l : List α) : List α := (l.take k).map f ++ l.drop k
theorem upto_zero (f : α → α) (l : List α) : upto f 0 l = l := by simp [upto]
theorem upto_end (f : α → α) {k : Nat} {l : List α} (h : l.length ≤ k) : upto f k l = l.map f := by simp [upto, List.take_of_length_le h, List.drop_eq_nil_of_le h]
theorem upto_len (f : α → α) (k : Nat) (l : List α) : (upto f k l).length = l.length := by simp [upto]; omega
theorem upto_get (f : α → α) {k : Nat} {l : List α} (h : k < l.length) (h' : k < (upto f k l).length) : (upto f k l)[k] = l[k] := by
  simp only [upto]
  rw [List.getElem_append_right (by simp; omega)]
  have e : k + (k - min k l.length) = k := by omega
  simp [e]
theorem upto_succ (f : α → α) {k : Nat} {l : List α} (h : k < l.length) : upto f (k + 1) l = (l.take k).map f ++ f l[k] :: l.drop (k + 1) := by
  simp only [upto, take_next h, List.map_append, List.map_cons, List.map_nil, List.append_assoc, List.cons_append, List.nil_append]
theorem upto_set (f : α → α) {k : Nat} {l : List α} (h : k < l.length) : (upto f k l).set k (f l[k]) = upto f (k + 1) l := by
  rw [upto_succ f h]
  simp only [upto]
  rw [List.set_append_right _ _ (by simp; omega)]
  have e : k - ((l.take k).map f).length = 0 := by simp; omega
  rw [e]
  conv => lhs; rw [drop_cons h]
  rfl
theorem upto_same (f : α → α) {k : Nat} {l : List α} (h : k < l.length) (e : f l[k] = l[k]) : upto f (k + 1) l = upto f k l := by
  rw [upto_succ f h, e]
  simp only [upto]
  rw [drop_cons h]
theorem map_set' (g : α → β) (l : List α) (k : Nat) (x : α) : (l.map g).set k (g x) = (l.set k x).map g := by rw [List.map_set]
theorem all_drop (p : α → Bool) {k : Nat} {l : List α} (h : k < l.length) : (l.drop k).all p = (p l[k] && (l.drop (k + 1)).all p) := by rw [drop_cons h]; rfl
theorem any_drop (p : α → Bool) {k : Nat} {l : List α} (h : k < l.length) : (l.drop k).any p = (p l[k] || (l.drop (k + 1)).any p) := by rw [drop_cons h]; rfl
theorem map_take_next (f : α → β) {k : Nat} {l : List α} (h : k < l.length) : (l.take (k + 1)).map f = (l.take k).map f ++ [f l[k]] := by rw [take_next h, List.map_append]; rfl
theorem countP_take (p : α → Bool) {k : Nat} {l : List α} (h : k < l.length) : (l.take (k + 1)).countP p = (l.take k).countP p + if p l[k] = true then 1 else 0 := by rw [take_next h, List.countP_append, List.countP_singleton]
theorem beq_drop [BEq α] {a b : List α} (h : a.length = b.length) {k : Nat} (hk : k < a.length) : (a.drop k == b.drop k) = ((a[k] == b[k]) && (a.drop (k + 1) == b.drop (k + 1))) := by
  rw [drop_cons hk, drop_cons (show k < b.length by omega)]; rfl
theorem foldl_take (f : β → α → β) (b : β) {k : Nat} {l : List α} (h : k < l.length) : (l.take (k + 1)).foldl f b = f ((l.take k).foldl f b) l[k] := by rw [take_next h, List.foldl_append]; rfl
theorem take_all {k : Nat} {l : List α} (h : l.length ≤ k) : l.take k = l := List.take_of_length_le h
end
end Go.Ax

/- Nil slices within closed data, read as empty lists. No condition. -/
namespace Go.Ax
open Go Go.RowKit
inductive Nl : D → D → Prop where
  | refl (x : D) : Nl x x
  | nil (sz : Nat) : Nl (.raw (.slice none 0 0)) (.lst sz [])
  | lst (sz : Nat) (els els' : List (List D)) (hl : els'.length = els.length) (hr : ∀ (i : Nat) (e e' : List D), els[i]? = some e → els'[i]? = some e' → e'.length = e.length)
      (h : ∀ (i j : Nat) (e e' : List D) (c c' : D), els[i]? = some e → els'[i]? = some e' → e[j]? = some c → e'[j]? = some c' → Nl c c') : Nl (.lst sz els) (.lst sz els')
theorem Nl.dr {V : Vw} {x y : D} (h : Nl x y) : ∀ {v : Value}, Dr V x v → Dr V y v := by
  induction h with
  | refl x => intro v hd; exact hd
  | nil sz => intro v hd; exact (NilTo.nil sz).dr hd
  | lst sz els els' hl hr _ ih =>
    intro v hd
    cases hd with
    | lst _ _ A cap u hc hm he ha hu =>
      rw [← hl]
      have lk : ∀ (i j : Nat) (e' : List D) (c' : D), els'[i]? = some e' → e'[j]? = some c' → ∃ e c, els[i]? = some e ∧ e[j]? = some c := fun i j e' c' h1 h2 => by
        have hi := getElem?_lt h1
        have hi' : i < els.length := by omega
        have hj := getElem?_lt h2
        have hlen := hr i _ _ (List.getElem?_eq_getElem hi') h1
        exact ⟨_, _, List.getElem?_eq_getElem hi', List.getElem?_eq_getElem (show j < els[i].length by omega)⟩
      refine .lst sz els' A cap u (by omega) hm (fun e' he' => ?_) (fun hn => ?_) (fun i e' j c' h1 h2 => ?_)
      · obtain ⟨i, hi, rfl⟩ := List.getElem_of_mem he'
        have hi' : i < els.length := by omega
        rw [hr i _ _ (List.getElem?_eq_getElem hi') (List.getElem?_eq_getElem hi)]
        exact he _ (List.getElem_mem _)
      · obtain ⟨ad, h1, h2, h3⟩ := ha fun e => hn (by rw [e] at hl; exact List.length_eq_zero_iff.1 hl)
        refine ⟨ad, h1, h2, fun i e' j c' q1 q2 => ?_⟩
        obtain ⟨e, c, q3, q4⟩ := lk i j e' c' q1 q2
        exact h3 i e j c q3 q4
      · obtain ⟨e, c, q3, q4⟩ := lk i j e' c' h1 h2
        exact ih i j e e' c c' q3 h1 q4 h2 (hu i e j c q3 q4)
theorem Nl.rows {sz : Nat} {els els' : List (List D)} (h : All2 (All2 Nl) els els') : Nl (.lst sz els) (.lst sz els') := by
  refine .lst sz els els' h.length.symm (fun i e e' h1 h2 => ?_) (fun i j e e' c c' h1 h2 h3 h4 => ?_)
  · obtain ⟨b, q1, q2⟩ := h.get _ _ h1
    rw [h2] at q1; cases q1; exact q2.length.symm
  · obtain ⟨b, q1, q2⟩ := h.get _ _ h1
    rw [h2] at q1; cases q1
    obtain ⟨b, q3, q4⟩ := q2.get _ _ h3
    rw [h4] at q3; cases q3; exact q4
theorem AFn.nl {P : Program} {Γ : List (Nat × List D)} {f : FuncId} {args : List AV} {x y : D} (h : AFn P Γ f args [.d x]) (hn : Nl x y) : AFn P Γ f args [.d y] :=
  ⟨h.call, fun V w vals hv ha => (h.run V w vals hv ha).mono fun e w' ⟨V', vs, h1, h2, h3, h4, h5, h6⟩ => ⟨V', vs, h1, h2, h3, h4, by
    cases h5 with
    | cons q1 q2 => exact .cons (hn.dr q1) q2, h6⟩⟩
end Go.Ax

/- A call walked in place, reckoned; and what stands behind it. No condition. -/
namespace Go.Ax
open Go Go.RowKit
def inl2 (st : St) (dst : Option Nat) (k : St → Prop) (_ : Tok k) (h : List LB) : Option (List AV) → Prop
  | some [] => k (St.put ⟨st.env, h⟩ dst (.tup []))
  | some [α] => k (St.put ⟨st.env, h⟩ dst α)
  | some (α :: β :: r) => (α :: β :: r).all AV.flat = true ∧ k (St.put ⟨st.env, h⟩ dst (.tup (α :: β :: r)))
  | none => False
def inlF (P : Program) (res : List ResultVar) (st : St) (dst : Option Nat) (k : St → Prop) (t : Tok k) (st' : St) : Prop := inl2 st dst k t st'.heap (resAVs P st' res)
def InlQ (P : Program) (res : List ResultVar) (st : St) (dst : Option Nat) (k : St → Prop) (t : Tok k) : Exit → St → Prop
  | .ret, st' => inlF P res st dst k t st'
  | .normal, st' => inlF P res st dst k t st'
  | _, _ => False
theorem inl_in {P : Program} {res : List ResultVar} {st st' : St} {dst : Option Nat} {k : St → Prop} {t : Tok k} (h : inlF P res st dst k t st') : ∃ α, inRes P st' res = some α ∧ k (St.put ⟨st.env, st'.heap⟩ dst α) := by
  unfold inlF at h
  match res with
  | [] => exact ⟨.tup [], by simp [inRes, resAVs], by simpa [resAVs, inl2] using h⟩
  | [r] =>
    simp only [resAVs] at h
    split at h
    · next α l h1 h2 => cases h2; exact ⟨α, h1, h⟩
    · exact h.elim
  | r1 :: r2 :: rs =>
    cases hr : resAVs P st' (r1 :: r2 :: rs) with
    | none => rw [hr] at h; exact h.elim
    | some αs =>
      rw [hr] at h
      match αs, h, hr with
      | [], h, hr => simp only [resAVs] at hr; split at hr <;> cases hr
      | [α], h, hr =>
        simp only [resAVs] at hr
        split at hr
        · next h1 h2 =>
          cases hr
          split at h2 <;> cases h2
        · cases hr
      | α :: β :: r, h, hr =>
        refine ⟨.tup (α :: β :: r), ?_, h.2⟩
        show (match resAVs P st' _ with | some αs => if αs.all AV.flat = true ∧ αs.length ≠ 1 then some (AV.tup αs) else none | none => none) = _
        rw [hr]
        exact if_pos ⟨h.1, by simp⟩
section
variable {P : Program} {pm : Pm} {st : St} {o : Oper} {as : List AV} {f : FuncId}
/-- A CALL, WALKED IN PLACE. -/
theorem CallL.inl {k : St → Prop} {t : Tok k} {fn : Func} {c : Code} {n : Nat} {res : Array ResultVar} {x : Operand} {xs : List Operand} {ts : Array TypeId} (E : List Nat) (hf : P.funcs[f]? = some fn) (hb : fn.body = some c) (hm : P.follows .mixedOrders = true)
    (hok : (!(fn.name == "runtime.NumGoroutine") && codeOk E fn.ntmps c) = true) (hn : fn.ntmps = n) (hr : fn.results = res)
    (h : ap (Ax.vc P ⟨st.heap.length, n, pm.Γ⟩ E c ⟨envOf as 0, st.heap⟩) (InlQ P res.toList st o.dst k ⟨⟩) ⟨⟩)
    (hop : o.op = .call { callee := .value x, args := xs.toArray, argTypes := ts } := by rfl) (hx : ev pm.Γ st.env x = .c (.clo f []) := by rfl) (has : xs.map (ev pm.Γ st.env) = as := by rfl) (hN : xs.length ≤ n := by decide) (hd : dstOk pm.N o.dst := by first | decide | trivial) :
    CallL P pm o st (.c (.clo f [])) as k t := by
  subst hn hr has
  simp only [Bool.and_eq_true, Bool.not_eq_true'] at hok
  refine .inr (.inr fun ops rest K hK => ?_)
  obtain ⟨dst, op, ty, p, af, gd⟩ := o
  simp only at hop hd
  subst hop
  refine AXl.inline hf hok.1 hb hx (by simpa using hN) hd ?_
  simp only [List.map_nil, List.append_nil]
  refine (vc_ok (pm := ⟨st.heap.length, fn.ntmps, pm.Γ⟩) hm c _ _ hok.2 h).mono fun e s hs => ?_
  cases e with
  | ret => obtain ⟨α, h1, h2⟩ := inl_in hs; exact ⟨.inl rfl, α, h1, hK _ h2⟩
  | normal => obtain ⟨α, h1, h2⟩ := inl_in hs; exact ⟨.inr rfl, α, h1, hK _ h2⟩
  | _ => exact hs.elim
@[push_cast] theorem InlQ_r (res : List ResultVar) (st : St) (dst : Option Nat) (k : St → Prop) (t : Tok k) (st' : St) : InlQ P res st dst k t .ret st' = inlF P res st dst k t st' := (rfl)
@[push_cast] theorem InlQ_n (res : List ResultVar) (st : St) (dst : Option Nat) (k : St → Prop) (t : Tok k) (st' : St) : InlQ P res st dst k t .normal st' = inlF P res st dst k t st' := (rfl)
@[push_cast] theorem inlF_2 (res : List ResultVar) (st : St) (dst : Option Nat) (k : St → Prop) (t : Tok k) (st' : St) : inlF P res st dst k t st' = inl2 st dst k t st'.heap (resAVs P st' res) := (rfl)
@[push_cast] theorem inl2_0 (st : St) (dst : Option Nat) (k : St → Prop) (t : Tok k) (h : List LB) : inl2 st dst k t h (some []) = k (St.put ⟨st.env, h⟩ dst (.tup [])) := (rfl)
@[push_cast] theorem inl2_1 (st : St) (dst : Option Nat) (k : St → Prop) (t : Tok k) (h : List LB) (α : AV) : inl2 st dst k t h (some [α]) = k (St.put ⟨st.env, h⟩ dst α) := (rfl)
@[push_cast] theorem inl2_2 (st : St) (dst : Option Nat) (k : St → Prop) (t : Tok k) (h : List LB) (α β : AV) (r : List AV) : inl2 st dst k t h (some (α :: β :: r)) = ((α :: β :: r).all AV.flat = true ∧ k (St.put ⟨st.env, h⟩ dst (.tup (α :: β :: r)))) := (rfl)
end
section
variable {P : Program} {pm : Pm} {E : List Nat} {h : List LB} {ρ : Operand → AV} {k : AV → Prop} {ks : St → Prop} {dst : Option Tmp} {ty : TypeId} {p : String} {af : Array Edge} {gd : Option (Nat × Bool)}
@[push_cast] theorem pureO_field (t : TypeId) (x : Operand) (i : Nat) : pureO E ⟨dst, .field t x i, ty, p, af, gd⟩ = true := (rfl)
@[push_cast] theorem vq_field (t : TypeId) (x : Operand) (i : Nat) : ap (vq P h pm ⟨dst, .field t x i, ty, p, af, gd⟩ ρ) (k) ⟨⟩ = ap (vfv2 (flT P t i) (ρ x)) (k) ⟨⟩ := (rfl)
@[push_cast] theorem vrun_field (t : TypeId) (x : Operand) (i : Nat) (st : St) : ap (vrun P pm E ⟨dst, .field t x i, ty, p, af, gd⟩ st) (ks) ⟨⟩ = ap (vfv2 (flT P t i) (ev pm.Γ st.env x)) (fun r => ks (st.put dst r)) ⟨⟩ := (rfl)
@[push_cast] theorem vfv2_s (o : Nat) (cs : List C) : ap (vfv2 (some o) (.agg cs)) (k) ⟨⟩ = ap (vat cs o) (k) ⟨⟩ := (rfl)
end
end Go.Ax

/- A region whose operations may come up in any order, by the sets of those that have come up. No condition. -/
namespace Go.Ax
open Go Go.RowKit
theorem countFalse_set : ∀ (L : List Bool) (i : Nat), L[i]? = some false → (L.set i true).count false + 1 = L.count false
  | [], i, h => by simp at h
  | b :: r, 0, h => by simp at h; subst h; simp
  | b :: r, i + 1, h => by
    have := countFalse_set r i (by simpa using h)
    simp only [List.set_cons_succ, List.count_cons]
    omega
theorem none_ready (l : List Oper) (L : List Bool) (hl : L.length = l.length) (hc : L.count false = 0) : Region.ready .any l.toArray L.toArray = [] := by
  unfold Region.ready
  rw [List.filter_eq_nil_iff]
  intro i hi
  have hi : i < L.length := by rw [hl]; simpa using hi
  have hm : false ∉ L := List.count_eq_zero.1 hc
  have : L[i] = true := by
    cases e : L[i] with
    | true => rfl
    | false => exact absurd (e ▸ List.getElem_mem hi) hm
  simp [hi, this]
theorem ready_at {l : List Oper} {L : List Bool} (hl : L.length = l.length) {i : Nat} (h : i ∈ Region.ready .any l.toArray L.toArray) : L[i]? = some false := by
  unfold Region.ready at h
  rw [List.mem_filter] at h
  obtain ⟨h1, h2⟩ := h
  have hi : i < L.length := by rw [hl]; simpa using h1
  simp only [Bool.and_eq_true, Bool.not_eq_true'] at h2
  have h3 := h2.1
  simp [hi] at h3
  rw [List.getElem?_eq_getElem hi, h3]
section
variable {P : Program} {pm : Pm} {E : List Nat}
theorem set_ok {l : List Oper} (hok : opsOk l pm.N = true) {cx : Cx} (hp : cx.pm = pm) {Q : Exit → Act → World → Prop} {J : List Bool → St → Prop} (hlen : ∀ L st, J L st → L.length = l.length)
    (hstep : ∀ L st, J L st → ∀ i, i ∈ Region.ready .any l.toArray L.toArray → ∃ o, l[i]? = some o ∧ ap2 (vgd l o.guard st) (fun st => ap (vrun P pm E o st) (fun st' => J (L.set i true) st') ⟨⟩) (fun st => J (L.set i true) (st.put o.dst U)) ⟨⟩ ⟨⟩)
    (hQ : ∀ L st, J L st → Region.ready .any l.toArray L.toArray = [] → ∀ G a w, Sat cx G st a w → Q .normal a w) : ∀ (n : Nat) (L : List Bool) (st : St), J L st → L.count false = n → ∀ G a w, Sat cx G st a w → wpAny P .any l.toArray Q n L.toArray a w
  | 0, L, st, hj, hc, G, a, w, s => by
    have hr := none_ready l L (hlen L st hj) hc
    exact ⟨hr, hQ L st hj hr G a w s⟩
  | n + 1, L, st, hj, hc, G, a, w, s => by
    refine ⟨fun hr => hQ L st hj hr G a w s, fun i hi => ?_⟩
    obtain ⟨o, ho, h1⟩ := hstep L st hj i hi
    have hf := ready_at (hlen L st hj) hi
    have hcs := countFalse_set L i hf
    refine wpOp_of_list ho ?_
    obtain ⟨g1, g2⟩ := opsOk_at hok (List.mem_of_getElem? ho)
    have key : AXl P pm l.toArray [o] st (fun st' => J (L.set i true) st') := vgd_ok g2 g1 (fun st hst => by
      intro ops rest' K' hK'
      exact vrun_ok g2 hst ops rest' K' fun st' hst' => hK' st' (AXl.nil hst')) (fun st hst => AXl.nil hst) h1
    refine key cx G a w _ hp s fun G' st' a' w' s' hk => ?_
    have e : (L.toArray.setIfInBounds i true) = (L.set i true).toArray := by simp
    rw [e]
    exact set_ok hok hp hlen hstep hQ n (L.set i true) st' hk (by omega) G' a' w' s'
theorem RegV.set {id : Nat} {l : List Oper} {st : St} {Q : Exit → St → Prop} {tk : Tok Q} (hm : P.follows .mixedOrders = true) (J : List Bool → St → Prop) (h0 : J (List.replicate l.length false) st) (hlen : ∀ L st, J L st → L.length = l.length)
    (hstep : ∀ L st, J L st → ∀ i, i ∈ Region.ready .any l.toArray L.toArray → ∃ o, l[i]? = some o ∧ ap2 (vgd l o.guard st) (fun st => ap (vrun P pm E o st) (fun st' => J (L.set i true) st') ⟨⟩) (fun st => J (L.set i true) (st.put o.dst U)) ⟨⟩ ⟨⟩)
    (hK : ∀ L st', J L st' → Region.ready .any l.toArray L.toArray = [] → Q .normal st') : RegV P pm id l st Q tk := by
  intro hok cx G a w hp s
  refine wp2_region_any hm ?_
  have s' : Sat cx G st a { w with drawn := w.drawn + 1 } := ⟨s.h.later ((Below.refl _ w).drew), fun t => s.ev (.tmp t), s.N, s.defers⟩
  have := set_ok (P := P) (E := E) (Q := Post cx Q) hok hp hlen hstep (fun L st hj hr G a w s => ⟨G, st, s, hK L st hj hr⟩) (List.replicate l.length false).length.succ.pred (List.replicate l.length false) st h0 (by simp) G a _ s'
  simpa using this
end
/-! ### by a table of the sets -/
def fenv : Env → List (Option (Nat × AV)) → List Bool → Env
  | e, some (d, v) :: r, true :: L => fenv (pute d v e) r L
  | e, some _ :: r, false :: L => fenv e r L
  | e, none :: r, _ :: L => fenv e r L
  | e, _, _ => e
def hfold : List LB → List (Option (List LB)) → List Bool → List LB
  | _, some h :: r, true :: L => hfold h r L
  | h, some _ :: r, false :: L => hfold h r L
  | h, none :: r, _ :: L => hfold h r L
  | h, _, _ => h
@[push_cast] theorem fenv_t (e : Env) (d : Nat) (v : AV) (r : List (Option (Nat × AV))) (L : List Bool) : fenv e (some (d, v) :: r) (true :: L) = fenv (pute d v e) r L := (rfl)
@[push_cast] theorem fenv_f (e : Env) (x : Nat × AV) (r : List (Option (Nat × AV))) (L : List Bool) : fenv e (some x :: r) (false :: L) = fenv e r L := (rfl)
@[push_cast] theorem fenv_n (e : Env) (b : Bool) (r : List (Option (Nat × AV))) (L : List Bool) : fenv e (none :: r) (b :: L) = fenv e r L := (rfl)
@[push_cast] theorem fenv_z (e : Env) (L : List Bool) : fenv e [] L = e := (rfl)
@[push_cast] theorem hfold_t (h0 h : List LB) (r : List (Option (List LB))) (L : List Bool) : hfold h0 (some h :: r) (true :: L) = hfold h r L := (rfl)
@[push_cast] theorem hfold_f (h0 h : List LB) (r : List (Option (List LB))) (L : List Bool) : hfold h0 (some h :: r) (false :: L) = hfold h0 r L := (rfl)
@[push_cast] theorem hfold_n (h0 : List LB) (b : Bool) (r : List (Option (List LB))) (L : List Bool) : hfold h0 (none :: r) (b :: L) = hfold h0 r L := (rfl)
@[push_cast] theorem hfold_z (h0 : List LB) (L : List Bool) : hfold h0 [] L = h0 := (rfl)
section
variable (P : Program) (pm : Pm) (E : List Nat) (l : List Oper) (e0 : Env) (h0 : List LB) (vals : List (Option (Nat × AV))) (heaps : List (Option (List LB)))
def tst (L : List Bool) : St := ⟨fenv e0 vals L, hfold h0 heaps L⟩
def EqSt (a b : St) : Prop := a = b
def oblI (L : List Bool) (i : Nat) : Option Oper → Prop
  | some o => ap2 (vgd l o.guard (tst e0 h0 vals heaps L)) (fun st => ap (vrun P pm E o st) (fun st' => EqSt st' (tst e0 h0 vals heaps (L.set i true))) ⟨⟩) (fun st => EqSt (st.put o.dst U) (tst e0 h0 vals heaps (L.set i true))) ⟨⟩ ⟨⟩
  | none => False
def oblL (L : List Bool) : List Nat → Prop
  | [] => True
  | i :: r => oblI P pm E l e0 h0 vals heaps L i l[i]? ∧ oblL L r
def oblT : List (List Bool × List Nat) → Prop
  | [] => True
  | x :: r => oblL P pm E l e0 h0 vals heaps x.1 x.2 ∧ oblT r
end
def tabOk (l : List Oper) (tab : List (List Bool × List Nat)) : Bool :=
  tab.all fun x => decide (x.1.length = l.length) && (Region.ready .any l.toArray x.1.toArray == x.2) && x.2.all (fun i => tab.any fun y => y.1 == x.1.set i true) && (x.2 != [] || x.1.all id)
section
variable {P : Program} {pm : Pm} {E : List Nat} {l : List Oper} {e0 : Env} {h0 : List LB} {vals : List (Option (Nat × AV))} {heaps : List (Option (List LB))}
theorem oblT_at : ∀ (tab : List (List Bool × List Nat)), oblT P pm E l e0 h0 vals heaps tab → ∀ x ∈ tab, oblL P pm E l e0 h0 vals heaps x.1 x.2
  | [], _, x, hx => by cases hx
  | y :: r, h, x, hx => by
    rcases List.mem_cons.1 hx with rfl | hx
    · exact h.1
    · exact oblT_at r h.2 x hx
theorem oblL_at (L : List Bool) : ∀ (is : List Nat), oblL P pm E l e0 h0 vals heaps L is → ∀ i ∈ is, oblI P pm E l e0 h0 vals heaps L i l[i]?
  | [], _, i, hi => by cases hi
  | y :: r, h, i, hi => by
    rcases List.mem_cons.1 hi with rfl | hi
    · exact h.1
    · exact oblL_at L r h.2 i hi
/-- A region in whatever order, by a table: the sets of operations that have come up, with those that may come up next. -/
theorem RegV.tab {id : Nat} {Q : Exit → St → Prop} {tk : Tok Q} (hm : P.follows .mixedOrders = true) (tab : List (List Bool × List Nat)) (vals : List (Option (Nat × AV))) (heaps : List (Option (List LB))) (hc : tabOk l tab = true) (hz : tab.any (fun x => x.1 == List.replicate l.length false) = true)
    (hs : tst e0 h0 vals heaps (List.replicate l.length false) = ⟨e0, h0⟩) (ho : oblT P pm E l e0 h0 vals heaps tab) (hK : Q .normal (tst e0 h0 vals heaps (List.replicate l.length true))) : RegV P pm id l ⟨e0, h0⟩ Q tk := by
  have hc' := List.all_eq_true.1 hc
  refine RegV.set (E := E) hm (fun L st => (∃ is, (L, is) ∈ tab) ∧ st = tst e0 h0 vals heaps L) ⟨?_, hs.symm⟩ (fun L st hj => ?_) (fun L st hj i hi => ?_) (fun L st hj hr => ?_)
  · obtain ⟨x, hx, he⟩ := List.any_eq_true.1 hz
    have : x.1 = List.replicate l.length false := by simpa using he
    exact ⟨x.2, by rw [← this]; exact hx⟩
  · obtain ⟨⟨is, hx⟩, _⟩ := hj
    have := hc' _ hx
    simp only [Bool.and_eq_true, decide_eq_true_eq] at this
    exact this.1.1.1
  · obtain ⟨⟨is, hx⟩, rfl⟩ := hj
    have := hc' _ hx
    simp only [Bool.and_eq_true, decide_eq_true_eq, beq_iff_eq] at this
    obtain ⟨⟨⟨q1, q2⟩, q3⟩, _⟩ := this
    rw [q2] at hi
    have hob := oblL_at L is (oblT_at tab ho _ hx) i hi
    obtain ⟨y, hy, he⟩ := List.any_eq_true.1 (List.all_eq_true.1 q3 i hi)
    have hy2 : y.1 = L.set i true := by simpa using he
    have hmem : ∃ is', (L.set i true, is') ∈ tab := ⟨y.2, by rw [← hy2]; exact hy⟩
    cases hl : l[i]? with
    | none => rw [hl] at hob; exact hob.elim
    | some o =>
      rw [hl] at hob
      refine ⟨o, rfl, ?_⟩
      have e1 : (fun st' : St => (∃ is', (L.set i true, is') ∈ tab) ∧ st' = tst e0 h0 vals heaps (L.set i true)) = fun st' => EqSt st' (tst e0 h0 vals heaps (L.set i true)) := by
        funext st'
        exact propext ⟨fun h => h.2, fun h => ⟨hmem, h⟩⟩
      show ap2 (vgd l o.guard (tst e0 h0 vals heaps L)) (fun st => vrun P pm E o st fun st' => (∃ is', (L.set i true, is') ∈ tab) ∧ st' = tst e0 h0 vals heaps (L.set i true)) (fun st => (∃ is', (L.set i true, is') ∈ tab) ∧ st.put o.dst U = tst e0 h0 vals heaps (L.set i true)) ⟨⟩ ⟨⟩
      have e2 : (fun st : St => (∃ is', (L.set i true, is') ∈ tab) ∧ st.put o.dst U = tst e0 h0 vals heaps (L.set i true)) = fun st => EqSt (st.put o.dst U) (tst e0 h0 vals heaps (L.set i true)) := by
        funext st
        exact propext ⟨fun h => h.2, fun h => ⟨hmem, h⟩⟩
      rw [e1, e2]
      exact hob
  · obtain ⟨⟨is, hx⟩, rfl⟩ := hj
    have := hc' _ hx
    simp only [Bool.and_eq_true, decide_eq_true_eq, beq_iff_eq, Bool.or_eq_true, bne_iff_ne] at this
    obtain ⟨⟨⟨q1, q2⟩, _⟩, q4⟩ := this
    have hall : L = List.replicate l.length true := by
      rcases q4 with q4 | q4
      · exact absurd (q2.symm.trans hr) q4
      · rw [← q1]
        refine List.eq_replicate_iff.2 ⟨rfl, fun b hb => ?_⟩
        exact (List.all_eq_true.1 q4 b hb)
    rw [← hall] at hK
    exact hK
@[push_cast] theorem oblT_n : oblT P pm E l e0 h0 vals heaps [] = True := (rfl)
@[push_cast] theorem oblT_c (L : List Bool) (is : List Nat) (r : List (List Bool × List Nat)) : oblT P pm E l e0 h0 vals heaps ((L, is) :: r) = (oblL P pm E l e0 h0 vals heaps L is ∧ oblT P pm E l e0 h0 vals heaps r) := (rfl)
@[push_cast] theorem oblL_n (L : List Bool) : oblL P pm E l e0 h0 vals heaps L [] = True := (rfl)
@[push_cast] theorem oblL_c (L : List Bool) (i : Nat) (r : List Nat) : oblL P pm E l e0 h0 vals heaps L (i :: r) = (oblI P pm E l e0 h0 vals heaps L i l[i]? ∧ oblL P pm E l e0 h0 vals heaps L r) := (rfl)
@[push_cast] theorem oblI_s (L : List Bool) (i : Nat) (o : Oper) : oblI P pm E l e0 h0 vals heaps L i (some o) = ap2 (vgd l o.guard (tst e0 h0 vals heaps L)) (fun st => ap (vrun P pm E o st) (fun st' => EqSt st' (tst e0 h0 vals heaps (L.set i true))) ⟨⟩) (fun st => EqSt (st.put o.dst U) (tst e0 h0 vals heaps (L.set i true))) ⟨⟩ ⟨⟩ := (rfl)
@[push_cast] theorem tst_eq (L : List Bool) : tst e0 h0 vals heaps L = ⟨fenv e0 vals L, hfold h0 heaps L⟩ := (rfl)
end
end Go.Ax

/- A call walked in place, whose own memory is forgotten behind it. No condition. -/
namespace Go.Ax
open Go Go.RowKit
section
variable {P : Program} {pm : Pm}
theorem AXl.forget {ops : Array Oper} {rest : List Oper} {st : St} {K : St → Prop} (st' : St) (f : Fits pm st st') (h : AXl P pm ops rest st' K) : AXl P pm ops rest st K :=
  fun cx G a w Q hp s hQ => h cx _ a w Q hp (s.fits (hp ▸ f)) hQ
theorem lowHs_take {n : Nat} : ∀ (h : List LB), lowHs n h → ∀ b ∈ h, b.low n
  | [], _, b, hb => by cases hb
  | .box _ cs :: r, hh, b, hb => by
    rcases List.mem_cons.1 hb with rfl | hb
    · exact lowCs_ok cs hh.1
    · exact lowHs_take r hh.2 b hb
  | .row _ _ _ _ :: r, hh, b, hb => by
    rcases List.mem_cons.1 hb with rfl | hb
    · trivial
    · exact lowHs_take r hh b hb
  | .dead :: r, hh, b, hb => by
    rcases List.mem_cons.1 hb with rfl | hb
    · trivial
    · exact lowHs_take r hh b hb
  | .mp _ _ :: r, hh, b, hb => by
    rcases List.mem_cons.1 hb with rfl | hb
    · trivial
    · exact lowHs_take r hh b hb
  | .it _ _ :: r, hh, b, hb => by
    rcases List.mem_cons.1 hb with rfl | hb
    · trivial
    · exact lowHs_take r hh b hb
  | .sit _ _ :: r, hh, b, hb => by
    rcases List.mem_cons.1 hb with rfl | hb
    · trivial
    · exact lowHs_take r hh b hb
def fgt (pm : Pm) (st : St) (dst : Option Nat) (k : St → Prop) (_ : Tok k) (h : List LB) : Prop := st.heap.length ≤ h.length ∧ lowHs st.heap.length (h.take st.heap.length) ∧ k (St.put ⟨st.env, h.take st.heap.length⟩ dst (.tup []))
def Inl0Q (pm : Pm) (st : St) (dst : Option Nat) (k : St → Prop) (t : Tok k) : Exit → St → Prop
  | .ret, st' => fgt pm st dst k t st'.heap
  | .normal, st' => fgt pm st dst k t st'.heap
  | _, _ => False
variable {st : St} {o : Oper} {as : List AV} {f : FuncId}
/-- A CALL WITHOUT RESULTS, WALKED IN PLACE; what it allocated is forgotten. -/
theorem CallL.inl0 {k : St → Prop} {t : Tok k} {fn : Func} {c : Code} {n : Nat} {x : Operand} {xs : List Operand} {ts : Array TypeId} (E : List Nat) (hf : P.funcs[f]? = some fn) (hb : fn.body = some c) (hm : P.follows .mixedOrders = true)
    (hok : (!(fn.name == "runtime.NumGoroutine") && codeOk E fn.ntmps c) = true) (hn : fn.ntmps = n) (hr : fn.results = #[])
    (h : ap (Ax.vc P ⟨st.heap.length, n, pm.Γ⟩ E c ⟨envOf as 0, st.heap⟩) (Inl0Q pm st o.dst k t) ⟨⟩)
    (hop : o.op = .call { callee := .value x, args := xs.toArray, argTypes := ts } := by rfl) (hx : ev pm.Γ st.env x = .c (.clo f []) := by rfl) (has : xs.map (ev pm.Γ st.env) = as := by rfl) (hN : xs.length ≤ n := by decide) (hd : dstOk pm.N o.dst := by first | trivial | (show (_ : Nat) < _; exact Nat.le_of_ble_eq_true rfl)) (h0 : pm.n0 ≤ st.heap.length := by exact Nat.le_of_ble_eq_true rfl) :
    CallL P pm o st (.c (.clo f [])) as k t := by
  subst hn has
  simp only [Bool.and_eq_true, Bool.not_eq_true'] at hok
  refine .inr (.inr fun ops rest K hK => ?_)
  obtain ⟨dst, op, ty, p, af, gd⟩ := o
  simp only at hop hd
  subst hop
  intro cx G a w Q hp s hQ
  have hlow : ∀ t, (lk t st.env).low st.heap.length := fun t => by
    have := (s.env t).low
    rwa [s.h.len] at this
  have key : AXl P pm ops (⟨dst, .call { callee := .value x, args := xs.toArray, argTypes := ts }, ty, p, af, none⟩ :: rest) st K := by
    refine AXl.inline hf hok.1 hb hx (by simpa using hN) hd ?_
    simp only [List.map_nil, List.append_nil]
    refine (vc_ok (pm := ⟨st.heap.length, fn.ntmps, pm.Γ⟩) hm c _ _ hok.2 h).mono fun e s hs => ?_
    have hin : ∀ s : St, inRes P s fn.results.toList = some (.tup []) := fun s => by rw [hr]; simp [inRes, resAVs]
    have hgo : ∀ h' : List LB, fgt pm st dst k t h' → AXl P pm ops rest (St.put ⟨st.env, h'⟩ dst (.tup [])) K := fun h' ⟨g1, g2, g3⟩ => by
      have hl : (h'.take st.heap.length).length = st.heap.length := by rw [List.length_take]; omega
      have hh2 : ∀ (dst : Option Nat), (St.put ⟨st.env, h'.take st.heap.length⟩ dst (.tup [])).heap = h'.take st.heap.length := fun dst => by cases dst <;> rfl
      have hh1 : ∀ (dst : Option Nat), (St.put ⟨st.env, h'⟩ dst (.tup [])).heap = h' := fun dst => by cases dst <;> rfl
      refine AXl.forget _ ⟨fun t => .inr ?_, ?_, ?_, ?_, fun t => ?_, fun b hb => ?_⟩ (hK _ g3)
      · cases dst <;> rfl
      · rw [hh2, hh1]; omega
      · rw [hh2, hh1, hl]
      · rw [hh2, hl]; exact h0
      · rw [hh2, hl]
        cases dst with
        | none => exact hlow t
        | some d =>
          show (lk t (pute d (.tup []) st.env)).low _
          rw [lk_put]
          split
          · intro v hv; cases hv
          · exact hlow t
      · rw [hh2] at hb ⊢
        rw [hl]
        exact lowHs_take _ g2 b hb
    cases e with
    | ret => exact ⟨.inl rfl, _, hin s, hgo _ hs⟩
    | normal => exact ⟨.inr rfl, _, hin s, hgo _ hs⟩
    | _ => exact hs.elim
  exact key cx G a w Q hp s hQ
@[push_cast] theorem Inl0Q_r (k : St → Prop) (t : Tok k) (dst : Option Nat) (st' : St) : Inl0Q pm st dst k t .ret st' = fgt pm st dst k t st'.heap := (rfl)
@[push_cast] theorem Inl0Q_n (k : St → Prop) (t : Tok k) (dst : Option Nat) (st' : St) : Inl0Q pm st dst k t .normal st' = fgt pm st dst k t st'.heap := (rfl)
@[push_cast] theorem fgt_e (k : St → Prop) (t : Tok k) (dst : Option Nat) (h : List LB) : fgt pm st dst k t h = (st.heap.length ≤ h.length ∧ lowHs st.heap.length (h.take st.heap.length) ∧ k (St.put ⟨st.env, h.take st.heap.length⟩ dst (.tup []))) := (rfl)
end
end Go.Ax

/- A listed variable whose cells hold slices, read as closed data. No condition. -/
namespace Go.Ax
open Go Go.RowKit
def dFs {H : Type} (P : Program) (r : TypeId → DataW H → List D) : List Field → List (DataW H) → List D
  | f :: fs, x :: xs => r f.type x ++ dFs P r fs xs
  | _, _ => []
def dT {H : Type} (P : Program) : Nat → TypeId → DataW H → List D
  | 0, _, _ => []
  | n + 1, t, x => match P.underlying t, x with
    | some .bool, .lit (.bool b) => [.bool b]
    | some (.int k), .lit (.int _ m) => [.int k m]
    | some .string, .lit (.string l) => [.str l]
    | some (.slice e), .nil => [.lst (P.cellsOf e) []]
    | some (.slice e), .slice xs _ => [.lst (P.cellsOf e) (xs.map (dT P n e))]
    | some (.struct fs), .agg xs => dFs P (dT P n) fs.toList xs
    | some (.array _ e), .agg xs => xs.flatMap (dT P n e)
    | _, _ => []
def okFs (P : Program) (r : TypeId → Bool) : List Field → Nat → Option Nat
  | [], off => some off
  | f :: fs, off => if f.offset = off ∧ r f.type = true then okFs P r fs (off + P.cellsOf f.type) else none
def okT (P : Program) : Nat → TypeId → Bool
  | 0, _ => false
  | n + 1, t => match P.underlying t with
    | some .bool => P.cellsOf t == 1
    | some (.int _) => P.cellsOf t == 1
    | some .string => P.cellsOf t == 1
    | some (.slice e) => okT P n e && decide (0 < P.cellsOf e) && (P.cellsOf t == 1)
    | some (.struct fs) => okFs P (okT P n) fs.toList 0 == some (P.cellsOf t)
    | some (.array m e) => okT P n e && (m * P.cellsOf e == P.cellsOf t)
    | _ => false
section
variable {H : Type} {enc : TypeId × Value → H} {P : Program} {w : World} {base : Nat} {spare : Nat → Bool} {held : Bool}
structure RdT (P : Program) (w : World) (t : TypeId) (cs : List Value) (ds : List D) : Prop where
  dr : All2 (Dr (wV w)) ds cs
  len : cs.length = P.cellsOf t
theorem dT_fields {r : TypeId → Bool} {q : TypeId → DataW H → List D} {g : TypeId → List Value → Option (DataW H × List MemPlace)} {cs : List Value} (hr : ∀ t cs x, r t = true → g t cs = some x → RdT P w t cs (q t x.1)) :
    ∀ (fs : List Field) (off : Nat) (e : Nat) (xs : List (DataW H × List MemPlace)), okFs P r fs off = some e → xs.length = fs.length → (∀ (i : Nat) (f : Field), fs[i]? = some f → g f.type ((cs.drop f.offset).take (P.cellsOf f.type)) = xs[i]?) →
      off ≤ e ∧ All2 (Dr (wV w)) (dFs P q fs (xs.map (·.1))) ((cs.drop off).take (e - off))
  | [], off, e, xs, h, hl, _ => by
    cases h
    match xs, hl with
    | [], _ => simp [dFs]; exact .nil
  | f :: fs, off, e, xs, h, hl, hx => by
    unfold okFs at h
    split at h
    · next hc =>
      match xs, hl with
      | x :: xs, hl =>
        have h1 := hx 0 f rfl
        simp only [List.getElem?_cons_zero] at h1
        have h2 := hr _ _ _ hc.2 h1
        obtain ⟨h3, h4⟩ := dT_fields hr fs _ e xs h (by simpa using hl) fun i f' hf' => by simpa using hx (i + 1) f' (by simpa using hf')
        refine ⟨by omega, ?_⟩
        rw [show e - off = P.cellsOf f.type + (e - (off + P.cellsOf f.type)) by omega, List.take_add, List.drop_drop, List.map_cons]
        have := h2.dr
        rw [hc.1] at this
        exact this.append h4
    · cases h

theorem dT_ok : ∀ (n : Nat) (t : TypeId), okT P n t = true → ∀ (fuel : Nat) (cs : List Value) (x : DataW H × List MemPlace), DataW.trod enc P w base spare held fuel t cs = some x → RdT P w t cs (dT P n t x.1)
  | 0, _, h, _, _, _, _ => by cases h
  | n + 1, t, h, fuel, cs, x, hx => by
    unfold okT at h
    split at h
    · next hu =>
      obtain ⟨b, rfl, rfl⟩ := DataW.trod_bool hu hx
      simp only [dT, hu]
      exact ⟨.cons (.bool b) .nil, (beq_iff_eq.1 h).symm⟩
    · next k hu =>
      obtain ⟨m, rfl, rfl, hw⟩ := DataW.trod_int hu hx
      simp only [dT, hu]
      exact ⟨.cons (.int k m) .nil, (beq_iff_eq.1 h).symm⟩
    · next hu =>
      obtain ⟨s, rfl, rfl, hs⟩ := DataW.trod_string hu hx
      simp only [dT, hu]
      refine ⟨.cons ?_ .nil, (beq_iff_eq.1 h).symm⟩
      have := Dr.str (V := wV w) s.data.toList
      rwa [byteArray_eta] at this
    · next e hu =>
      simp only [Bool.and_eq_true, decide_eq_true_eq, beq_iff_eq] at h
      obtain ⟨⟨he, hpos⟩, h1⟩ := h
      rcases DataW.trod_slice hu hx with ⟨rfl, hx1⟩ | ⟨a, len, cap, elems, rest, m, _, rfl, hx1, hb, hlc, hcm, hlen, hat, _⟩
      · rw [hx1]
        simp only [dT, hu]
        exact ⟨.cons ((NilTo.nil _).dr (Dr.raw _ rfl)) .nil, h1.symm⟩
      · rw [hx1]
        simp only [dT, hu]
        refine ⟨.cons ?_ .nil, h1.symm⟩
        have key : ∀ i (hi : i < elems.length), ∃ cs', w.cells? base (a.add (i * P.cellsOf e)) (P.cellsOf e) = some cs' ∧ RdT P w e cs' (dT P n e elems[i].1) := fun i hi => by
          have h2 := hat i (by omega)
          rw [List.getElem?_eq_getElem hi] at h2
          obtain ⟨cs', h3, h4⟩ := Option.bind_eq_some_iff.1 h2
          exact ⟨cs', h3, dT_ok n e he _ _ _ h4⟩
        have hall : ∀ (i : Nat) (x : List D), ((elems.map (·.1)).map (dT P n e))[i]? = some x → x.length = P.cellsOf e ∧ ∀ (j : Nat) (c : D), x[j]? = some c → ∃ v, w.cell? (a.add (i * P.cellsOf e + j)) = some v ∧ Dr (wV w) c v := fun i x hix => by
          have hi := getElem?_lt hix
          simp only [List.length_map] at hi
          simp only [List.map_map, List.getElem?_map, List.getElem?_eq_getElem hi, Option.map_some, Function.comp, Option.some.injEq] at hix
          subst hix
          obtain ⟨cs', h3, h4⟩ := key i hi
          obtain ⟨h5, h6⟩ := cells_get h3
          have hl := h4.dr.length
          refine ⟨by omega, fun j c hj => ?_⟩
          obtain ⟨v, hv, hd⟩ := h4.dr.get j c hj
          have := h6 j v hv
          rw [add_add] at this
          exact ⟨v, this, hd⟩
        have hL : ((elems.map (·.1)).map (dT P n e)).length = len := by simp [hlen]
        have := Dr.lst (V := wV w) (P.cellsOf e) ((elems.map (·.1)).map (dT P n e)) (some a) cap (fun i j => (w.cell? (a.add (i * P.cellsOf e + j))).getD undef) (by rw [hL]; exact hlc) hcm (fun x hx => by
          obtain ⟨i, hi, rfl⟩ := List.getElem_of_mem hx
          exact (hall i _ (List.getElem?_eq_getElem hi)).1) (fun hn => by
          have hpl : 0 < ((elems.map (·.1)).map (dT P n e)).length := List.length_pos_iff.2 hn
          refine ⟨a, rfl, ?_, fun i x j c h1 h2 => ?_⟩
          · obtain ⟨h3, h4⟩ := hall 0 _ (List.getElem?_eq_getElem hpl)
            obtain ⟨v, hv, _⟩ := h4 0 _ (List.getElem?_eq_getElem (by omega))
            have := heap_of_cell hv
            rwa [add_block] at this
          · obtain ⟨v, hv, _⟩ := (hall i x h1).2 j c h2
            rw [cellIn_world, hv]; rfl) (fun i x j c h1 h2 => by
          obtain ⟨v, hv, hd⟩ := (hall i x h1).2 j c h2
          rw [hv]; exact hd)
        rwa [hL] at this
    · next fs hu =>
      obtain ⟨xs, m, _, hx1, hlen, hxl, hat⟩ := DataW.trod_struct hu hx
      have h' : okFs P (okT P n) fs.toList 0 = some (P.cellsOf t) := by simpa using h
      obtain ⟨_, h2⟩ := dT_fields (P := P) (w := w) (q := dT P n) (g := DataW.trod enc P w base spare held m) (cs := cs) (fun t cs x h1 h2 => dT_ok n t h1 m cs x h2) fs.toList 0 _ xs h' (by simpa using hxl) fun i f hf => hat i f (by simpa using hf)
      rw [List.drop_zero, Nat.sub_zero, List.take_of_length_le (by omega)] at h2
      rw [hx1]
      simp only [dT, hu]
      exact ⟨h2, hlen⟩
    · next m e hu =>
      obtain ⟨xs, q, _, hx1, hlen, hxl, hat⟩ := DataW.trod_array hu hx
      simp only [Bool.and_eq_true, beq_iff_eq] at h
      have key : ∀ (k : Nat), k ≤ m → All2 (Dr (wV w)) ((xs.take k).flatMap fun x => dT P n e x.1) (cs.take (k * P.cellsOf e)) := by
        intro k
        induction k with
        | zero => intro _; simp; exact .nil
        | succ k ih =>
          intro hk
          have hkx : k < xs.length := by omega
          have h1 := hat k (by omega)
          rw [List.getElem?_eq_getElem hkx] at h1
          have h2 := dT_ok n e h.1 q _ _ h1
          rw [take_next hkx, List.flatMap_append, Nat.succ_mul, List.take_add]
          simp only [List.flatMap_cons, List.flatMap_nil, List.append_nil]
          exact (ih (by omega)).append h2.dr
      have := key m (Nat.le_refl _)
      rw [List.take_of_length_le (by omega), List.take_of_length_le (by rw [hlen, h.2]; exact Nat.le_refl _)] at this
      rw [hx1]
      simp only [dT, hu]
      refine ⟨?_, hlen⟩
      rw [List.flatMap_map]; exact this
    · cases h
end
/-- A listed variable: its cells stand in its block, slices and all. -/
theorem glob_data {P : Program} {W : World} {name : String} {dat : DataW Unit} {g : Nat} {t : TypeId} {ds : List D} (n : Nat) (hg : P.globalNamed name = some g) (ht : (P.globals[g]?).map (·.type) = some t) (hfl : okT P n t = true)
    (hds : dT P n t dat = ds) (h : ∃ ps q, DataW.LaidVars P W ((name, dat) :: q) ps) : Gp ⟨wV W, []⟩ (g, ds) := by
  obtain ⟨ps, ls, g', t', cs, fuel, p, q, h1, h2, h3, h4, _⟩ := h
  rw [hg] at h1; cases h1
  rw [ht] at h2; cases h2
  have e := (dT_ok n t hfl fuel _ _ h4).dr
  simp only [hds] at e
  unfold World.var? at h3
  rw [hg] at h3
  simp only [Option.bind_some] at h3
  split at h3
  · next c tt fr hh =>
    cases h3
    refine ⟨⟨⟨g, 0, none⟩, fun j => (cs.toList.getD j undef), rfl, fun j c hj => ?_⟩, cs, tt, fr, hh, by simpa using e.length.symm⟩
    obtain ⟨v, hv, hd⟩ := e.get j c hj
    have hget : cs.toList.getD j undef = v := by rw [List.getD_eq_getElem?_getD, hv]; rfl
    refine ⟨?_, ?_⟩
    · rw [add_plain]
      simp only [cellIn, wV, hh, Nat.zero_add]
      have : cs[j]? = some v := by simpa using hv
      rw [hget]; simpa using this
    · show Dr (wV W) c (cs.toList.getD j undef)
      rw [hget]; exact hd
  · cases h3
end Go.Ax

/- A row that a call hands over, read as closed data. No condition. -/
namespace Go.Ax
open Go Go.RowKit
theorem AFn.frz {P : Program} {Γ : List (Nat × List D)} {f : FuncId} {args : List AV} {t : TypeId} {sz : Nat} {els : List (List D)} (h : AFn P Γ f args [.fresh t sz els]) : AFn P Γ f args [.d (.lst sz els)] :=
  ⟨h.call, fun V w vals hv ha => (h.run V w vals hv ha).mono fun e w' ⟨V', vs, h1, h2, h3, h4, h5, h6⟩ => by
    cases h5 with | @cons _ v _ vs q1 q2 =>
    cases q2
    obtain ⟨xs, how, hob, hd, hl⟩ := q1
    by_cases hne : els = []
    · subst hne
      obtain ⟨A, cap, rfl, hc, hm⟩ := own_form how
      refine ⟨V', [_], h1, h2, h3, h4, .cons ?_ .nil, h6⟩
      exact Dr.lst sz [] A cap (fun _ _ => undef) hc hm (by simp) (by simp) (by simp)
    · obtain ⟨hxl, ⟨rfl, h0⟩ | ⟨g, cap, cur, rfl, hg, hh, hc, hm, hs, ht⟩⟩ := how
      · exact absurd (List.length_eq_zero_iff.1 h0) hne
      · have hVg : V'.H g = none := hob g rfl
        have hle : V'.Le ⟨fun b => if b = g then w'.heap[g]? else V'.H b, fun b => V'.I b ∨ b = g⟩ := ⟨fun b o ho => by
          have hbg : ¬ b = g := fun e => by rw [e, hVg] at ho; cases ho
          simp only [if_neg hbg]; exact ho, fun b hb => .inl hb⟩
        refine ⟨⟨fun b => if b = g then w'.heap[g]? else V'.H b, fun b => V'.I b ∨ b = g⟩, [_], h1, h2.trans hle, fun b o ho => ?_, fun b hb => ?_, .cons ?_ .nil, h6⟩
        · by_cases hbg : b = g
          · subst hbg; simpa using ho
          · simp only [if_neg hbg] at ho; exact h3 b o ho
        · rcases hb with hb | rfl
          · obtain ⟨⟨o, ho⟩, h8⟩ := h4 b hb
            exact ⟨⟨o, hle.H b o ho⟩, h8⟩
          · exact ⟨⟨_, by simp only [if_true]; exact hh⟩, .inr hg⟩
        · have hget : ∀ i e j c, els[i]? = some e → e[j]? = some c → ∃ u, xs[i * sz + j]? = some u ∧ Dr V' c u := fun i e j c h1 h2 => by
            have := flat_get els hl i e j c h1 h2
            exact hd.get _ _ this
          refine Dr.lst sz els (some ⟨g, 0, none⟩) cap (fun i j => xs.getD (i * sz + j) undef) hc hm hl (fun _ => ⟨⟨g, 0, none⟩, rfl, .inr rfl, fun i e j c h1 h2 => ?_⟩) (fun i e j c h1 h2 => ?_)
          · obtain ⟨u, hu, _⟩ := hget i e j c h1 h2
            have hcu : cur[i * sz + j]? = some u := by
              rw [← ht, List.getElem?_take] at hu
              split at hu
              · simpa using hu
              · cases hu
            rw [add_plain, Nat.zero_add]
            simp [cellIn, hh, hcu, List.getD, hu]
          · obtain ⟨u, hu, hdu⟩ := hget i e j c h1 h2
            simp only [List.getD, hu, Option.getD_some]
            exact hdu.mono hle⟩
end Go.Ax

/- A call of a closure over boxes of ours, walked in place; what it allocates is forgotten. No condition. -/
namespace Go.Ax
open Go Go.RowKit
section
variable {P : Program} {pm : Pm} {st : St} {o : Oper} {as : List AV} {f : FuncId} {caps : List Nat}
theorem CallL.inlC0 {k : St → Prop} {t : Tok k} {fn : Func} {c : Code} {n : Nat} {x : Operand} {xs : List Operand} {ts : Array TypeId} (E : List Nat) (hf : P.funcs[f]? = some fn) (hb : fn.body = some c) (hm : P.follows .mixedOrders = true)
    (hok : (!(fn.name == "runtime.NumGoroutine") && codeOk E fn.ntmps c) = true) (hn : fn.ntmps = n) (hr : fn.results = #[])
    (h : ap (Ax.vc P ⟨st.heap.length, n, pm.Γ⟩ E c ⟨envOf (as ++ caps.map fun i => .c (.loc i 0)) 0, st.heap⟩) (Inl0Q pm st o.dst k t) ⟨⟩)
    (hop : o.op = .call { callee := .value x, args := xs.toArray, argTypes := ts } := by rfl) (hx : ev pm.Γ st.env x = .c (.clo f caps) := by rfl) (has : xs.map (ev pm.Γ st.env) = as := by rfl) (hN : xs.length + caps.length ≤ n := by decide) (hd : dstOk pm.N o.dst := by first | trivial | (show (_ : Nat) < _; exact Nat.le_of_ble_eq_true rfl)) (h0 : pm.n0 ≤ st.heap.length := by exact Nat.le_of_ble_eq_true rfl) :
    CallL P pm o st (.c (.clo f caps)) as k t := by
  subst hn has
  simp only [Bool.and_eq_true, Bool.not_eq_true'] at hok
  refine .inr (.inr fun ops rest K hK => ?_)
  obtain ⟨dst, op, ty, p, af, gd⟩ := o
  simp only at hop hd
  subst hop
  intro cx G a w Q hp s hQ
  have hlow : ∀ t, (lk t st.env).low st.heap.length := fun t => by
    have := (s.env t).low
    rwa [s.h.len] at this
  have key : AXl P pm ops (⟨dst, .call { callee := .value x, args := xs.toArray, argTypes := ts }, ty, p, af, none⟩ :: rest) st K := by
    refine AXl.inline hf hok.1 hb hx hN hd ?_
    refine (vc_ok (pm := ⟨st.heap.length, fn.ntmps, pm.Γ⟩) hm c _ _ hok.2 h).mono fun e s hs => ?_
    have hin : ∀ s : St, inRes P s fn.results.toList = some (.tup []) := fun s => by rw [hr]; simp [inRes, resAVs]
    have hgo : ∀ h' : List LB, fgt pm st dst k t h' → AXl P pm ops rest (St.put ⟨st.env, h'⟩ dst (.tup [])) K := fun h' ⟨g1, g2, g3⟩ => by
      have hl : (h'.take st.heap.length).length = st.heap.length := by rw [List.length_take]; omega
      have hh2 : ∀ (dst : Option Nat), (St.put ⟨st.env, h'.take st.heap.length⟩ dst (.tup [])).heap = h'.take st.heap.length := fun dst => by cases dst <;> rfl
      have hh1 : ∀ (dst : Option Nat), (St.put ⟨st.env, h'⟩ dst (.tup [])).heap = h' := fun dst => by cases dst <;> rfl
      refine AXl.forget _ ⟨fun t => .inr ?_, ?_, ?_, ?_, fun t => ?_, fun b hb => ?_⟩ (hK _ g3)
      · cases dst <;> rfl
      · rw [hh2, hh1]; omega
      · rw [hh2, hh1, hl]
      · rw [hh2, hl]; exact h0
      · rw [hh2, hl]
        cases dst with
        | none => exact hlow t
        | some d =>
          show (lk t (pute d (.tup []) st.env)).low _
          rw [lk_put]
          split
          · intro v hv; cases hv
          · exact hlow t
      · rw [hh2] at hb ⊢
        rw [hl]
        exact lowHs_take _ g2 b hb
    cases e with
    | ret => exact ⟨.inl rfl, _, hin s, hgo _ hs⟩
    | normal => exact ⟨.inr rfl, _, hin s, hgo _ hs⟩
    | _ => exact hs.elim
  exact key cx G a w Q hp s hQ
end
end Go.Ax

/- Code of which some regions are left to the reader: conversions that wrap, and from bytes to a text. No condition. -/
namespace Go.Ax
open Go Go.RowKit Go.Lib
/-- A region left to the reader. -/
def RegC (P : Program) (pm : Pm) (id : Nat) (ops : List Oper) (st : St) (Q : Exit → St → Prop) (_ : Tok Q) : Prop := opsOk ops pm.N = true → AXc P pm (.region id ops.toArray false) st Q
def vcX (P : Program) (pm : Pm) (E M : List Nat) : Code → St → (Exit → St → Prop) → Prop
  | .seq x y, st, Q => vcX P pm E M x st (Ethen (fun st' => vcX P pm E M y st' Q) Q)
  | .cond c x y, st, Q => vcnd (ev pm.Γ st.env c) (vcX P pm E M x st Q) (vcX P pm E M y st Q)
  | .block id c, st, Q => vcX P pm E M c st (EinBlock id Q)
  | .region id ops false, st, Q => bif mem? M (some id) then RegC P pm id ops.toList st Q ⟨⟩ else vc P pm E (.region id ops false) st Q
  | c, st, Q => vc P pm E c st Q
section
variable {P : Program} {pm : Pm} {E M : List Nat} {Q : Exit → St → Prop}
theorem vcX_ok (hm : P.follows .mixedOrders = true) : ∀ (c : Code) (st : St) (Q : Exit → St → Prop), codeOk E pm.N c = true → vcX P pm E M c st Q → AXc P pm c st Q
  | .seq x y, st, Q, hok, h => by
    simp only [codeOk, Bool.and_eq_true] at hok
    refine AXc.seq fun K hK => ?_
    refine (vcX_ok hm x st _ hok.1 h).mono fun e s he => ?_
    cases e with
    | normal => exact hK s (vcX_ok hm y s Q hok.2 he)
    | _ => exact he
  | .cond c x y, st, Q, hok, h => by
    simp only [codeOk, Bool.and_eq_true] at hok
    unfold vcX vcnd at h
    split at h
    · next b hb => exact AXc.cond hb (fun e => vcX_ok hm x st Q hok.1 (h.1 e)) (fun e => vcX_ok hm y st Q hok.2 (h.2 e))
    · exact h.elim
  | .block id c, st, Q, hok, h => AXc.block (vcX_ok hm c st _ hok h)
  | .region id ops false, st, Q, hok, h => by
    unfold vcX at h
    cases hE : mem? M (some id) with
    | true =>
      rw [hE] at h
      obtain ⟨l⟩ := ops
      unfold codeOk at hok
      simp only [Bool.and_eq_true] at hok
      exact h hok.1
    | false => rw [hE] at h; exact vc_ok hm _ st Q hok h
  | .region id ops true, st, Q, hok, h => vc_ok hm _ st Q hok h
  | .skip, st, Q, hok, h => vc_ok hm _ st Q hok h
  | .label _, st, Q, hok, h => vc_ok hm _ st Q hok h
  | .ret, st, Q, hok, h => vc_ok hm _ st Q hok h
  | .exit id, st, Q, hok, h => vc_ok hm _ st Q hok h
  | .loop b, st, Q, hok, h => vc_ok hm _ st Q hok h
  | .rangeFunc .., _, _, _, h => h.elim
  | .scope c, st, Q, hok, h => vc_ok hm _ st Q hok h
  | .goto .., _, _, _, h => h.elim
  | .refuse .., _, _, _, h => h.elim
@[push_cast] theorem vcX_seq (st : St) (x y : Code) : ap (vcX P pm E M (.seq x y) st) (Q) ⟨⟩ = ap (vcX P pm E M x st) (EthenT (fun st' => ap (vcX P pm E M y st') Q ⟨⟩) Q ⟨⟩ ⟨⟩) ⟨⟩ := (rfl)
@[push_cast] theorem vcX_cond (st : St) (c : Operand) (x y : Code) : ap (vcX P pm E M (.cond c x y) st) (Q) ⟨⟩ = ap2 (vcnd (ev pm.Γ st.env c)) ((ap (vcX P pm E M x st) (Q) ⟨⟩)) ((ap (vcX P pm E M y st) (Q) ⟨⟩)) ⟨⟩ ⟨⟩ := (rfl)
@[push_cast] theorem vcX_block (st : St) (i : Nat) (c : Code) : ap (vcX P pm E M (.block i c) st) (Q) ⟨⟩ = ap (vcX P pm E M c st) (EinBlockT i Q ⟨⟩) ⟨⟩ := (rfl)
@[push_cast] theorem vcX_region (st : St) (i : Nat) (ops : List Oper) : ap (vcX P pm E M (.region i ops.toArray false) st) (Q) ⟨⟩ = ap2 (vdb (mem? M (some i))) (RegC P pm i ops st Q ⟨⟩) (ap (vc P pm E (.region i ops.toArray false) st) Q ⟨⟩) ⟨⟩ ⟨⟩ := (rfl)
@[push_cast] theorem vcX_draw (st : St) (i : Nat) (ops : List Oper) : ap (vcX P pm E M (.region i ops.toArray true) st) (Q) ⟨⟩ = ap (vc P pm E (.region i ops.toArray true) st) Q ⟨⟩ := (rfl)
@[push_cast] theorem vcX_skip (st : St) : ap (vcX P pm E M .skip st) (Q) ⟨⟩ = Q .normal st := (rfl)
@[push_cast] theorem vcX_ret (st : St) : ap (vcX P pm E M .ret st) (Q) ⟨⟩ = Q .ret st := (rfl)
@[push_cast] theorem vcX_exit (st : St) (i : Nat) : ap (vcX P pm E M (.exit i) st) (Q) ⟨⟩ = Q (.exit i) st := (rfl)
@[push_cast] theorem vcX_loop (st : St) (b : Code) : ap (vcX P pm E M (.loop b) st) (Q) ⟨⟩ = LoopV P pm E b st Q ⟨⟩ := (rfl)

theorem AFn.vcX {Γ : List (Nat × List D)} {f : FuncId} {fn : Func} {c : Code} {args : List AV} {rs : List RV} {n : Nat} {res : Array ResultVar} (E M : List Nat) (hf : P.funcs[f]? = some fn) (hb : fn.body = some c) (hm : P.follows .mixedOrders = true)
    (hok : (!(fn.name == "runtime.NumGoroutine") && codeOk E fn.ntmps c) = true) (hn : fn.ntmps = n) (hr : fn.results = res) (hN : args.length ≤ n)
    (h : ap (Ax.vcX P ⟨0, n, Γ⟩ E M c ⟨envOf args 0, []⟩) (FinX P res.toList rs) ⟨⟩) : AFn P Γ f args rs := by
  subst hn hr
  simp only [Bool.and_eq_true, Bool.not_eq_true'] at hok
  exact AFn.of_bodyX hf hok.1 hb hN (vcX_ok hm c _ _ hok.2 h)
theorem LoopV.ofX (M : List Nat) {b : Code} {st : St} {Q : Exit → St → Prop} {S : Type} (hm : P.follows .mixedOrders = true) (keep : List Nat) (vars : S → List (Nat × AV)) (heap : S → List LB) (I : S → Prop) (μ : S → Nat) (s0 : S) (h0 : I s0) (f0 : fitsV pm st ⟨frame keep st.env (vars s0), heap s0⟩)
    (round : ∀ s, I s → ap (vcX P pm E M b ⟨frame keep st.env (vars s), heap s⟩) (EthenT (fun st' => ∃ s', (I s' ∧ μ s' < μ s) ∧ fitsV pm st' ⟨frame keep st.env (vars s'), heap s'⟩) Q ⟨⟩ ⟨⟩) ⟨⟩) : LoopV P pm E b st Q ⟨⟩ :=
  fun hok => AXc.loopW (fun s => ⟨frame keep st.env (vars s), heap s⟩) I μ s0 h0 (fitsV_ok f0) fun s hs => (vcX_ok hm b _ _ hok (round s hs)).mono fun e s hs => by
    cases e with
    | normal => obtain ⟨s', ⟨h1, h2⟩, h3⟩ := hs; exact ⟨s', h1, h2, fitsV_ok h3⟩
    | _ => exact hs
theorem vcl_okK {l : List Oper} (hok : opsOk l pm.N = true) (r2 : List Oper) : ∀ (r : List Oper), (∀ o ∈ r, o ∈ l) → ∀ (st : St) (K : St → Prop), vcl P pm E l r st (fun st' => AXl P pm l.toArray r2 st' K) → AXl P pm l.toArray (r ++ r2) st K
  | [], _, st, K, h => h
  | o :: rest, hm, st, K, h => by
    obtain ⟨h1, h2⟩ := opsOk_at hok (hm o (by simp))
    have ih := vcl_okK hok r2 rest (fun o ho => hm o (by simp [ho]))
    refine vgd_ok h2 h1 (fun st hst => ?_) (fun st hst => ih _ _ hst) h
    intro ops rest' K' hK'
    exact vrun_ok h2 hst ops rest' K' fun st' hst' => hK' st' (ih _ _ hst')
/-- The next operations of a region, reckoned; then the rest by hand. -/
theorem AXl.pre {l r : List Oper} {st : St} {K : St → Prop} (E : List Nat) (k n : Nat) (hok : opsOk l pm.N = true) (h : ap (vcl P pm E l (r.take n) st) (fun st' => AXl P pm l.toArray (r.drop n) st' K) ⟨⟩) (hp : l.take k ++ r = l := by rfl) : AXl P pm l.toArray r st K := by
  have := vcl_okK hok (r.drop n) (r.take n) (fun o ho => hp ▸ List.mem_append_right _ (List.mem_of_mem_take ho)) st K h
  rwa [List.take_append_drop] at this
end
section
variable {P : Program} {pm : Pm} {h : List LB} {ρ : Operand → AV} {dst : Option Tmp} {ty : TypeId} {p : String} {af : Array Edge} {gd : Option (Nat × Bool)}
/-- One byte, as a text. -/
theorem s_byteStr {src d' : TypeId} {x : Operand} {m : Int} (hx : ρ x = .c (.d (.lst 1 [[.int .u8 m]]))) (hs : bysT P src = true) (hd : strB P d' = true) :
    Still P h ⟨dst, .convert src d' x, ty, p, af, gd⟩ ρ (.c (.d (.str [UInt8.ofNat m.toNat]))) := by
  intro cx G w a s ho
  obtain ⟨e, he, h8⟩ := bysT_ok hs
  have h0 : Ar G (.c (.d (.lst 1 [[.int .u8 m]]))) (a.eval x) := hx ▸ ho x (by simp [Op.operands])
  have h1 : Dr G.V (.lst 1 [[.int .u8 m]]) (a.eval x) := h0
  generalize ha : a.eval x = v at h1
  cases h1 with
  | lst sz els A cap u hc hm _ hA hu =>
    obtain ⟨ad, rfl, _, hcell⟩ := hA (by simp)
    have hc0 := cell_of_view s.view (hcell 0 _ 0 _ rfl rfl)
    have hu0 := hu 0 _ 0 _ rfl rfl
    have hl : (loadCells ad [Value.int .u8 m].length).run P w = .ok [Value.int .u8 m].toArray w := run_loadCells_list (P := P) w ad [Value.int .u8 m] fun j v hj => by
      have : j = 0 := by
        have := getElem?_lt hj
        simpa using this
      subst this
      simp at hj
      subst hj
      have e : u 0 0 = .int .u8 m := by
        generalize u 0 0 = q at hu0
        cases hu0
        rfl
      rw [← e]
      exact hc0
    refine ⟨.string ⟨[UInt8.ofNat m.toNat].toArray⟩, ?_, Dr.str [UInt8.ofNat m.toNat]⟩
    have hrun := run_convert_bytes_string (P := P) w src d' e (some ad) 1 cap he h8 (strB_ok hd)
    rw [run_bytesToString w ad 1 cap [m] hl] at hrun
    simp only [execOp, ha, Sem.run_bind, List.length_cons, List.length_nil, hrun, Result.andThen_ok, Sem.run_pure]
    rfl
/-- A difference that may wrap. -/
theorem s_subW (t t' : TypeId) (x y : Operand) {k : IntKind} {m n z : Int} (hx : ρ x = .c (.d (.int k m))) (hy : ρ y = .c (.d (.int k n))) (hw : k.wrap (m - n) = z) :
    Still P h ⟨dst, .binOp .sub t x y t', ty, p, af, gd⟩ ρ (.c (.d (.int k z))) := by
  intro cx G w a s ho
  have h1 := ar_int (hx ▸ ho x (by simp [Op.operands]))
  have h2 := ar_int (hy ▸ ho y (by simp [Op.operands]))
  refine ⟨.int k z, ?_, Dr.int _ _⟩
  simp [execOp, h1, h2, eqGuard, binOp, Op.intArith, hw]
theorem u64_low {z : Int} (h0 : -18446744073709551616 ≤ z) (h1 : z < 0) : IntKind.u64.wrap z = z + 18446744073709551616 := by
  simp [IntKind.wrap, IntKind.bits, IntKind.signed]
  omega
end
end Go.Ax
