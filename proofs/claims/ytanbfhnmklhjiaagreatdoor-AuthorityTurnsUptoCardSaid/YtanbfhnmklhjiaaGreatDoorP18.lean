/- Part of a proof about this program; no condition of its own. -/
import Derived.Test.YtanbfhnmklhjiaaGreatDoorP11
import Derived.DeepKeys5
import Derived.Test.YtanbfhnmklhjiaaGreatDoorP17
set_option linter.all false
/- Maps whose keys are arrays of two cells. No condition. -/
namespace Go.Ax
open Go Go.RowKit
open Go.Maps (Keyed)
variable {P : Program}
end Go.Ax

/- Maps whose keys are arrays of two strings. No condition. -/
namespace Go.Ax
open Go Go.RowKit
open Go.Maps (Keyed)
variable {P : Program}
end Go.Ax

/- Maps whose keys are structs of a number and a text. No condition. -/
namespace Go.Ax
open Go Go.RowKit
open Go.Maps (Keyed)
variable {P : Program}
theorem MapT.stis {t K E : TypeId} {f0 f1 : Field} {q : IntKind} (hl : laidOutB P = true) (hsmall : P.types.size + 2 ≤ 10000) (hrow : K < P.types.size) (ht : P.underlying t = some (.map K E)) (hK : P.underlying K = some (.struct #[f0, f1])) (h0 : P.underlying f0.type = some (.int q)) (h1 : P.underlying f1.type = some .string) (o0 : f0.offset = 0) (o1 : f1.offset = 1) (n0 : ¬ f0.name = "_") (n1 : ¬ f1.name = "_") (hkt : P.keyType K = true)
    (hcK : P.cellsOf K = 2) (c0 : P.cellsOf f0.type = 1) (c1 : P.cellsOf f1.type = 1) (hE : P.underlying E = some (.int .i64)) (hz : ∀ w, (zeroValue E).run P w = .ok (.int .i64 0) w) : MapT P t [.int q, .str] :=
  ⟨K, E, ht, hE, hz, Keyed.of_law (deep_law_gate hl hsmall hrow hkt (by rw [hK])), fun ks hf => by
    match ks, hf with
    | [.int a m, .str b], hf =>
      obtain ⟨⟨rfl, w1⟩, w2, _⟩ := hf
      have hsz : ∃ k, P.types.size = k + 1 := ⟨P.types.size - 1, (Nat.succ_pred_eq_of_pos (Nat.lt_of_le_of_lt (Nat.zero_le _) hrow)).symm⟩
      obtain ⟨k, hk⟩ := hsz
      have e2 : (⟨b.toArray⟩ : ByteArray).size ≤ maxLen := by simpa [ByteArray.size, Kfit] using w2
      simp [keyOf, hK, hkt, keyV, KD.v, Value.formed, Program.keyLits, hcK, c0, c1, h0, h1, o0, o1, Value.cells, w1, hk]
      rw [if_pos e2]
      exact ⟨_, _, ⟨⟨n0, n1⟩, rfl⟩, rfl⟩
    | [], hf => exact hf.elim
    | [_], hf => exact hf.2.elim
    | _ :: _ :: _ :: _, hf => exact hf.2.2.elim
    | [.str _, _], hf => exact hf.1.elim
    | [.int _ _, .int _ _], hf => exact hf.2.1.elim⟩
end Go.Ax

/- The reader's rules at calls. No condition. -/
namespace Go.Ax
open Go Go.RowKit
section
def CArg (pm : Pm) (h : List LB) (c c' : C) : Prop :=
  ∀ (cx : Cx) (G : Gh) (w : World) (v : Value), cx.pm = pm → SatH cx G h w → Cr G c v → Cr ⟨⟨fun b => w.heap[b]?, G.V.I⟩, []⟩ c' v
theorem CArg.d {pm : Pm} {h : List LB} {x : D} : CArg pm h (.d x) (.d x) := fun _ _ _ _ _ s hv => Dr.mono s.le hv
theorem CArg.bor {pm : Pm} {h : List LB} {c : C} {sz : Nat} {els : List (List D)} (hα : elsOf h (.c c) = some (sz, els)) : CArg pm h c (.bor sz els) := fun cx G w v hp s hv => ArgOk.bor (pm := pm) hα cx G w v hp s hv
theorem ArgOk.own {pm : Pm} {h : List LB} {te : TypeId} {sz i ver : Nat} {els : List (List D)} (hi : h[i]? = some (.row te sz els ver)) : ArgOk pm h (.c (.own i ver)) (.c (.bor sz els)) := ArgOk.bor (by simp [elsOf, hi])
theorem CArg.own {pm : Pm} {h : List LB} {te : TypeId} {sz i ver : Nat} {els : List (List D)} (hi : h[i]? = some (.row te sz els ver)) : CArg pm h (.own i ver) (.bor sz els) := CArg.bor (by simp [elsOf, hi])
theorem CArg.nb {pm : Pm} {h : List LB} {sz : Nat} : CArg pm h (.d (.raw (.slice none 0 0))) (.bor sz []) := fun cx G w v hp s hv => ArgOk.nil_bor (pm := pm) (h := h) cx G w v hp s hv
theorem CArg.nl {pm : Pm} {h : List LB} {sz : Nat} : CArg pm h (.d (.raw (.slice none 0 0))) (.d (.lst sz [])) := fun cx G w v hp s hv => ArgOk.nil_lst (pm := pm) (h := h) cx G w v hp s hv
theorem ArgOk.aggc {pm : Pm} {h : List LB} {cs cs' : List C} (hc : All2 (CArg pm h) cs cs') : ArgOk pm h (.agg cs) (.agg cs') := fun cx G w v hp s hv => by
  obtain ⟨vs, rfl, hvs⟩ := hv
  refine ⟨vs, rfl, ?_⟩
  induction hc generalizing vs with
  | nil => cases hvs; exact .nil
  | cons h1 _ ih => cases hvs with | cons h2 h3 => exact .cons (h1 cx G w _ hp s h2) (ih _ h3)
end
section
variable {P : Program} {pm : Pm} {st : St} {o : Oper} {as args' : List AV} {rs : List RV} {f : FuncId} {α : AV}
theorem CallL.q {k : St → Prop} {t : Tok k} (hc : AFn P pm.Γ f args' rs) (hk : k (st.put o.dst (rsAV rs)))
    (ha : All2 (ArgOk pm st.heap) as args' := by repeat (first | exact All2.nil | refine All2.cons (by first | exact ArgOk.d | exact ArgOk.bor rfl | exact ArgOk.own rfl | exact ArgOk.agg rfl | exact ArgOk.agg (toDs_map _) | exact ArgOk.nil_bor | exact ArgOk.nil_lst | exact ArgOk.fn | exact ArgOk.ptr rfl rfl | exact ArgOk.aggn rfl (by repeat first | exact .nil | refine .cons (.refl _) ?_ | refine .cons (.nil _) ?_) | exact ArgOk.aggc (by repeat (first | exact All2.nil | refine All2.cons (by first | exact CArg.d | exact CArg.bor rfl | exact CArg.own rfl | exact CArg.nb | exact CArg.nl) ?_))) ?_)) :
    CallL P pm o st (.c (.clo f [])) as k t := .inl (.inl ⟨args', rs, hc, ha, hk⟩)
theorem CallL.own {k : St → Prop} {t : Tok k} {te : TypeId} {sz : Nat} {els : List (List D)} (hc : AFn P pm.Γ f args' [.fresh te sz els]) (hk : k (pushR st o.dst te sz els))
    (ha : All2 (ArgOk pm st.heap) as args' := by repeat (first | exact All2.nil | refine All2.cons (by first | exact ArgOk.d | exact ArgOk.bor rfl | exact ArgOk.own rfl | exact ArgOk.agg rfl | exact ArgOk.agg (toDs_map _) | exact ArgOk.nil_bor | exact ArgOk.nil_lst | exact ArgOk.fn | exact ArgOk.ptr rfl rfl | exact ArgOk.aggn rfl (by repeat first | exact .nil | refine .cons (.refl _) ?_ | refine .cons (.nil _) ?_) | exact ArgOk.aggc (by repeat (first | exact All2.nil | refine All2.cons (by first | exact CArg.d | exact CArg.bor rfl | exact CArg.own rfl | exact CArg.nb | exact CArg.nl) ?_))) ?_)) :
    CallL P pm o st (.c (.clo f [])) as k t := .inr (.inl ⟨args', te, sz, els, hc, ha, hk⟩)
theorem CallL.fn {k : St → Prop} {t : Tok k} {F : List AV → List RV → Prop} (args' : List AV) (rs : List RV) (hF : F args' rs) (hk : k (st.put o.dst (rsAV rs)))
    (ha : All2 (ArgOk pm st.heap) as args' := by repeat (first | exact All2.nil | refine All2.cons (by first | exact ArgOk.d | exact ArgOk.bor rfl | exact ArgOk.own rfl | exact ArgOk.agg rfl | exact ArgOk.agg (toDs_map _) | exact ArgOk.nil_bor | exact ArgOk.nil_lst | exact ArgOk.fn | exact ArgOk.ptr rfl rfl | exact ArgOk.aggn rfl (by repeat first | exact .nil | refine .cons (.refl _) ?_ | refine .cons (.nil _) ?_) | exact ArgOk.aggc (by repeat (first | exact All2.nil | refine All2.cons (by first | exact CArg.d | exact CArg.bor rfl | exact CArg.own rfl | exact CArg.nb | exact CArg.nl) ?_))) ?_)) :
    CallL P pm o st (.c (.fn (FnSpec P pm.Γ F))) as k t := .inl (.inl ⟨F, args', rs, rfl, hF, ha, hk⟩)
theorem CallL.e {k : St → Prop} {t : Tok k} {r : AV} (hq : Qt P pm st.heap o (ev pm.Γ st.env) r) (hk : k (st.put o.dst r)) : CallL P pm o st α as k t := .inl (.inr ⟨r, hq, hk⟩)
theorem CallX.q {h : List LB} {ρ : Operand → AV} {k : AV → Prop} {t : Tok k} (hc : AFn P pm.Γ f args' rs) (hk : k (rsAV rs))
    (ha : All2 (ArgOk pm h) as args' := by repeat (first | exact All2.nil | refine All2.cons (by first | exact ArgOk.d | exact ArgOk.bor rfl | exact ArgOk.own rfl | exact ArgOk.agg rfl | exact ArgOk.agg (toDs_map _) | exact ArgOk.nil_bor | exact ArgOk.nil_lst | exact ArgOk.fn | exact ArgOk.ptr rfl rfl | exact ArgOk.aggn rfl (by repeat first | exact .nil | refine .cons (.refl _) ?_ | refine .cons (.nil _) ?_) | exact ArgOk.aggc (by repeat (first | exact All2.nil | refine All2.cons (by first | exact CArg.d | exact CArg.bor rfl | exact CArg.own rfl | exact CArg.nb | exact CArg.nl) ?_))) ?_)) :
    CallX P pm h o ρ (.c (.clo f [])) as k t := .inl ⟨args', rs, hc, ha, hk⟩
theorem CallX.fn {h : List LB} {ρ : Operand → AV} {k : AV → Prop} {t : Tok k} {F : List AV → List RV → Prop} (args' : List AV) (rs : List RV) (hF : F args' rs) (hk : k (rsAV rs))
    (ha : All2 (ArgOk pm h) as args' := by repeat (first | exact All2.nil | refine All2.cons (by first | exact ArgOk.d | exact ArgOk.bor rfl | exact ArgOk.own rfl | exact ArgOk.agg rfl | exact ArgOk.agg (toDs_map _) | exact ArgOk.nil_bor | exact ArgOk.nil_lst | exact ArgOk.fn | exact ArgOk.ptr rfl rfl | exact ArgOk.aggn rfl (by repeat first | exact .nil | refine .cons (.refl _) ?_ | refine .cons (.nil _) ?_) | exact ArgOk.aggc (by repeat (first | exact All2.nil | refine All2.cons (by first | exact CArg.d | exact CArg.bor rfl | exact CArg.own rfl | exact CArg.nb | exact CArg.nl) ?_))) ?_)) :
    CallX P pm h o ρ (.c (.fn (FnSpec P pm.Γ F))) as k t := .inl ⟨F, args', rs, rfl, hF, ha, hk⟩
theorem CallX.e {h : List LB} {ρ : Operand → AV} {k : AV → Prop} {t : Tok k} {r : AV} (hq : Qt P pm h o ρ r) (hk : k r) : CallX P pm h o ρ α as k t := .inr ⟨r, hq, hk⟩
end
end Go.Ax

/- Ends of functions, nil slices among them; a slice held against nil; a part of a row, indexed. No condition. -/
namespace Go.Ax
open Go Go.RowKit
/-! ### results -/
def celR (h : List LB) (fr : Option Nat) : C → D → Prop
  | .own i ver, .lst sz els => match h[i]? with
    | some (.row _ sz' els' v) => (v = ver ∧ fr ≠ some i ∧ sz' = sz) ∧ els' = els
    | _ => False
  | .sub i ver sz0 lo n, .lst sz els => match h[i]? with
    | some (.row _ sz' els' v) => (v = ver ∧ fr ≠ some i ∧ sz' = sz ∧ sz0 = sz ∧ lo + n ≤ els'.length) ∧ (els'.drop lo).take n = els
    | _ => False
  | .own i ver, .mp sh m => match h[i]? with
    | some (.mp sh' m') => (ver = 0 ∧ fr ≠ some i ∧ sh' = sh) ∧ m' = m
    | _ => False
  | .d (.raw (.slice none 0 0)), .lst _ els => els = []
  | .d (.raw (.map none)), .mp _ m => m = []
  | .d x, y => x = y
  | _, _ => False
def celsR (h : List LB) (fr : Option Nat) : List C → List D → Prop
  | [], [] => True
  | c :: r, x :: xs => celR h fr c x ∧ celsR h fr r xs
  | _, _ => False
def resR (h : List LB) (fr : Option Nat) : AV → RV → Prop
  | .c c, .d x => celR h fr c x
  | .agg cs, .agg ds => celsR h fr cs ds
  | .c (.own i ver), .fresh t sz els => match h[i]? with
    | some (.row t' sz' els' v) => (v = ver ∧ fr = some i ∧ t' = t ∧ sz' = sz) ∧ els' = els
    | _ => False
  | .c (.d (.raw (.slice none 0 0))), .fresh _ _ els => els = []
  | _, _ => False
def ressR (h : List LB) (fr : Option Nat) : List AV → List RV → Prop
  | [], [] => True
  | α :: r, x :: xs => resR h fr α x ∧ ressR h fr r xs
  | _, _ => False
def frOf : List AV → List RV → Option Nat
  | [.c (.own i _)], [.fresh _ _ _] => some i
  | _, _ => none
variable {P : Program}
theorem exit_ne {cx : Cx} {G : Gh} {h : List LB} {w : World} (s : SatH cx G h w) {fr : Option Nat} {fb : Option Nat} (hfr : ∀ b, fb = some b → ∃ i lb e, fr = some i ∧ h[i]? = some lb ∧ lb.live ∧ G.g[i]? = some e ∧ blkOf e.1 = some b)
    {i : Nat} {lb : LB} {e : Value × Nat} (hi : h[i]? = some lb) (hl : lb.live) (hg : G.g[i]? = some e) (hne : fr ≠ some i) : ∀ b, fb = some b → blkOf e.1 ≠ some b := fun b hb hk => by
  obtain ⟨i', lb', e', q1, q2, q3, q4, q5⟩ := hfr b hb
  have := s.sep i i' _ _ _ _ b hi q2 hl q3 hg q4 hk q5
  exact hne (by rw [q1, this])
theorem exit_map {cx : Cx} {G : Gh} {h : List LB} {w : World} (s : SatH cx G h w) {V : Vw} (fb : Option Nat) {i : Nat} {sh : List Kc} {m : Mp} (hi : h[i]? = some (.mp sh m)) {v : Value} (hv : Cr G (.own i 0) v)
    (hne : ∀ e, G.g[i]? = some e → ∀ b, fb = some b → blkOf e.1 ≠ some b) : Dr (exitV V cx.w0.heap.size fb w) (.mp sh m) v := by
  obtain ⟨b, es, clock, rfl, hg, h1, _, hb, hr⟩ := own_map s hi hv
  have hnb : ¬ (some b = fb) := fun e => hne _ hg b e.symm rfl
  exact .mp sh m b es clock ⟨hnb, .inr ⟨h1, heap_lt hb⟩⟩ (by simp only [exitV, if_neg hnb]; rw [if_pos h1]; exact hb) hr
theorem exit_sub {cx : Cx} {G : Gh} {h : List LB} {w : World} (s : SatH cx G h w) {V : Vw} (hV : cx.G0.V = V) (hS : cx.S = V.I) (h0 : ViewOk cx.pm.Γ V cx.w0) (fb : Option Nat) (hfb : ∀ b, fb = some b → G.V.H b = none)
    {i ver lo n : Nat} {t : TypeId} {sz : Nat} {els : List (List D)} (hi : h[i]? = some (.row t sz els ver)) {v : Value} (hv : Cr G (.sub i ver sz lo n) v) (hle : lo + n ≤ els.length) (hne : ∀ e, G.g[i]? = some e → ∀ b, fb = some b → blkOf e.1 ≠ some b) :
    Dr (exitV V cx.w0.heap.size fb w) (.lst sz ((els.drop lo).take n)) v := by
  obtain ⟨v0, xs, hg, how, hob, hd, hl⟩ := row_at s hi
  obtain ⟨_, v0', n', hg', _, hx⟩ := hv
  rw [hg] at hg'
  cases hg'
  obtain ⟨A, cap, rfl, hc, hm, hA, _⟩ := hx rfl
  have rf := row_form how
  have hd0 := exit_own s hV hS h0 fb hfb hi (v := v0) ⟨rf.2.2.2, v0, ver, hg, Nat.le_refl _, fun _ => rfl⟩ fun b hb hob => hne _ hg b hb (rf.2.2.1 b hob)
  obtain ⟨A0, cap0, u, e0, hc0, hm0, hl0, ha0, hu0⟩ := dr_lst hd0
  have hlen : ((els.drop lo).take n).length = n := by rw [List.length_take, List.length_drop]; omega
  have hget : ∀ (a : Nat) (e : List D), ((els.drop lo).take n)[a]? = some e → els[lo + a]? = some e := fun a e he => by
    rw [List.getElem?_take] at he
    split at he
    · rwa [List.getElem?_drop] at he
    · cases he
  have key : Dr (exitV V cx.w0.heap.size fb w) (.lst sz ((els.drop lo).take n)) (.slice A ((els.drop lo).take n).length cap) := by
    refine .lst sz _ A cap (fun a j => u (lo + a) j) (by rw [hlen]; exact hc) hm (fun e he => hl0 e (List.mem_of_mem_drop (List.mem_of_mem_take he))) (fun hn => ?_) (fun a e j c h1 h2 => hu0 _ e j c (hget a e h1) h2)
    have hpos : 0 < n := by have := List.length_pos_iff.2 hn; omega
    obtain ⟨b, len0, cap1, rfl, rfl⟩ := hA hpos
    obtain ⟨ad, q1, q2, q3⟩ := ha0 (by intro e; rw [e] at hle; simp at hle; omega)
    rw [q1] at e0
    injection e0 with e1 _ _
    injection e1 with e1
    subst e1
    refine ⟨_, rfl, q2, fun a e j c h1 h2 => ?_⟩
    have := q3 _ e j c (hget a e h1) h2
    rw [add_plain] at this ⊢
    rw [show lo * sz + (a * sz + j) = 0 + ((lo + a) * sz + j) from by rw [Nat.add_mul]; omega]
    exact this
  rwa [hlen] at key
theorem celR_ok {cx : Cx} {G : Gh} {h : List LB} {w : World} (s : SatH cx G h w) {V : Vw} (hV : cx.G0.V = V) (hS : cx.S = V.I) (h0 : ViewOk cx.pm.Γ V cx.w0) {fr : Option Nat} {fb : Option Nat} (hfb : ∀ b, fb = some b → G.V.H b = none)
    (hfr : ∀ b, fb = some b → ∃ i lb e, fr = some i ∧ h[i]? = some lb ∧ lb.live ∧ G.g[i]? = some e ∧ blkOf e.1 = some b) {c : C} {x : D} (hc : celR h fr c x) {v : Value} (hv : Cr G c v) : Dr (exitV V cx.w0.heap.size fb w) x v := by
  unfold celR at hc
  split at hc
  · next i ver sz els =>
    split at hc
    · next t sz' els' v' hi =>
      obtain ⟨⟨rfl, hne, rfl⟩, rfl⟩ := hc
      exact cellD_ok s hV hS h0 hfb hfr (c := .own i v') (by simp [cellD, hi, hne]) hv
    · exact hc.elim
  · next i ver sz0 lo n sz els =>
    split at hc
    · next t sz' els' v' hi =>
      obtain ⟨⟨rfl, hne, rfl, rfl, hle⟩, rfl⟩ := hc
      exact exit_sub s hV hS h0 fb hfb hi hv hle fun e he => exit_ne s hfr hi trivial he hne
    · exact hc.elim
  · next i ver sh m =>
    split at hc
    · next sh' m' hi =>
      obtain ⟨⟨rfl, hne, rfl⟩, rfl⟩ := hc
      exact exit_map s fb hi hv fun e he => exit_ne s hfr hi trivial he hne
    · exact hc.elim
  · next sz els =>
    subst hc
    have := ar_raw hv
    subst this
    exact Dr.lst sz [] none 0 (fun _ _ => undef) (by simp) (by simp) (by simp) (by simp) (by simp)
  · next sh m =>
    subst hc
    have := ar_raw hv
    subst this
    exact Dr.mpn sh
  · subst hc
    exact exit_dr s hV hS h0 fb hfb hv
  · exact hc.elim
theorem celsR_ok {cx : Cx} {G : Gh} {h : List LB} {w : World} (s : SatH cx G h w) {V : Vw} (hV : cx.G0.V = V) (hS : cx.S = V.I) (h0 : ViewOk cx.pm.Γ V cx.w0) {fr : Option Nat} {fb : Option Nat} (hfb : ∀ b, fb = some b → G.V.H b = none)
    (hfr : ∀ b, fb = some b → ∃ i lb e, fr = some i ∧ h[i]? = some lb ∧ lb.live ∧ G.g[i]? = some e ∧ blkOf e.1 = some b) : ∀ (cs : List C) (ds : List D) (vs : List Value), celsR h fr cs ds → All2 (Cr G) cs vs → All2 (Dr (exitV V cx.w0.heap.size fb w)) ds vs
  | [], [], vs, _, hv => by cases hv; exact .nil
  | c :: r, x :: xs, vs, hc, hv => by
    cases hv with
    | cons h1 h2 => exact .cons (celR_ok s hV hS h0 hfb hfr hc.1 h1) (celsR_ok s hV hS h0 hfb hfr r xs _ hc.2 h2)
  | [], _ :: _, _, hc, _ => hc.elim
  | _ :: _, [], _, hc, _ => hc.elim
theorem resR_ok {cx : Cx} {G : Gh} {h : List LB} {w : World} (s : SatH cx G h w) {V : Vw} (hV : cx.G0.V = V) (hS : cx.S = V.I) (h0 : ViewOk cx.pm.Γ V cx.w0) {fr : Option Nat} {fb : Option Nat} (hfb : ∀ b, fb = some b → G.V.H b = none)
    (hfr : ∀ b, fb = some b → ∃ i lb e, fr = some i ∧ h[i]? = some lb ∧ lb.live ∧ G.g[i]? = some e ∧ blkOf e.1 = some b) (hfr' : ∀ i e b, fr = some i → G.g[i]? = some e → blkOf e.1 = some b → fb = some b)
    {α : AV} {r : RV} (hc : resR h fr α r) {v : Value} (hv : Ar G α v) : Rr (exitV V cx.w0.heap.size fb w) w cx.w0.heap.size r v := by
  unfold resR at hc
  split at hc
  · exact celR_ok s hV hS h0 hfb hfr hc hv
  · next cs ds =>
    obtain ⟨vs, rfl, hcs⟩ := hv
    exact ⟨vs, rfl, celsR_ok s hV hS h0 hfb hfr cs ds vs hc hcs⟩
  · next i ver t sz els =>
    split at hc
    · next t' sz' els' v' hi =>
      obtain ⟨⟨rfl, hfi, rfl, rfl⟩, rfl⟩ := hc
      exact rvOf_ok s hV hS h0 hfb hfr hfr' (α := .c (.own i v')) (by simp [rvOf, cellD, hi, hfi]) hv
    · exact hc.elim
  · next t sz els =>
    subst hc
    have := ar_raw hv
    subst this
    exact ⟨[], World.ownsRow_nil w _ t sz, fun b hb => (by cases hb), .nil, by simp⟩
  · exact hc.elim
theorem ressR_ok {cx : Cx} {G : Gh} {h : List LB} {w : World} (s : SatH cx G h w) {V : Vw} (hV : cx.G0.V = V) (hS : cx.S = V.I) (h0 : ViewOk cx.pm.Γ V cx.w0) {fr : Option Nat} {fb : Option Nat} (hfb : ∀ b, fb = some b → G.V.H b = none)
    (hfr : ∀ b, fb = some b → ∃ i lb e, fr = some i ∧ h[i]? = some lb ∧ lb.live ∧ G.g[i]? = some e ∧ blkOf e.1 = some b) (hfr' : ∀ i e b, fr = some i → G.g[i]? = some e → blkOf e.1 = some b → fb = some b) :
    ∀ (αs : List AV) (rs : List RV) (vs : List Value), ressR h fr αs rs → All2 (Ar G) αs vs → All2 (Rr (exitV V cx.w0.heap.size fb w) w cx.w0.heap.size) rs vs
  | [], [], vs, _, hv => by cases hv; exact .nil
  | c :: r, x :: xs, vs, hc, hv => by
    cases hv with
    | cons h1 h2 => exact .cons (resR_ok s hV hS h0 hfb hfr hfr' hc.1 h1) (ressR_ok s hV hS h0 hfb hfr hfr' r xs _ hc.2 h2)
  | [], _ :: _, _, hc, _ => hc.elim
  | _ :: _, [], _, hc, _ => hc.elim
theorem exit_afterR {cx : Cx} {G : Gh} {st : St} {a : Act} {w : World} (s : Sat cx G st a w) {V : Vw} (hV : cx.G0.V = V) (hS : cx.S = V.I) (h0 : ViewOk cx.pm.Γ V cx.w0) {fr : Option Nat} (hlive : ∀ i, fr = some i → ∃ lb, st.heap[i]? = some lb ∧ lb.live)
    {αs : List AV} {rs : List RV} {vs : List Value} (hr : ressR st.heap fr αs rs) (hv : All2 (Ar G) αs vs) : After V cx.w0 rs (.returned (tupV vs)) w := by
  obtain ⟨fb, hfb, hfr, hfr'⟩ : ∃ fb : Option Nat, (∀ b, fb = some b → G.V.H b = none) ∧ (∀ b, fb = some b → ∃ i lb e, fr = some i ∧ st.heap[i]? = some lb ∧ lb.live ∧ G.g[i]? = some e ∧ blkOf e.1 = some b) ∧
      (∀ i e b, fr = some i → G.g[i]? = some e → blkOf e.1 = some b → fb = some b) := by
    cases fr with
    | none => exact ⟨none, fun b h => (by cases h), fun b h => (by cases h), fun i e b h => (by cases h)⟩
    | some i =>
      obtain ⟨lb, h1, h2⟩ := hlive i rfl
      obtain ⟨e, h3, h4⟩ := s.h.entry h1
      refine ⟨blkOf e.1, fun b hb => (h4.blk h2 hb).2.2, fun b hb => ⟨i, lb, e, rfl, h1, h2, h3, hb⟩, fun i' e' b q1 q2 q3 => ?_⟩
      cases q1
      rw [h3] at q2
      cases q2
      exact q3
  have hfbb : ∀ b, fb = some b → cx.w0.heap.size ≤ b := fun b hb => by
    obtain ⟨i, lb, e, _, q2, q3, q4, q5⟩ := hfr b hb
    exact ((s.h.ent i lb e q2 q4).blk q3 q5).1
  refine ⟨exitV V cx.w0.heap.size fb w, vs, rfl, ⟨fun b o ho => ?_, fun b hb => ?_⟩, fun b o ho => ?_, fun b hb => ?_, ressR_ok s.h hV hS h0 hfb hfr hfr' αs rs vs hr hv, s.h.below⟩
  · have hlt := heap_lt (h0.view b o ho)
    have hne : ¬ (some b = fb) := fun e => by have := hfbb b e.symm; omega
    simp only [exitV, if_neg hne]
    rw [if_neg (by omega)]
    exact ho
  · obtain ⟨o, ho⟩ := h0.imm b hb
    have hlt := heap_lt (h0.view b o ho)
    exact ⟨fun e => by have := hfbb b e.symm; omega, .inl hb⟩
  · simp only [exitV] at ho
    split at ho
    · cases ho
    · split at ho
      · exact ho
      · next hlt =>
        rw [s.h.below.block b (by omega)]
        exact h0.view b o ho
  · obtain ⟨h1, h2⟩ := hb
    refine ⟨?_, h2.imp id fun h => h.1⟩
    simp only [exitV, if_neg h1]
    split
    · next hge =>
      rcases h2 with h2 | h2
      · obtain ⟨o, ho⟩ := h0.imm b h2
        have hlt := heap_lt (h0.view b o ho)
        omega
      · exact ⟨_, Array.getElem?_eq_getElem h2.2⟩
    · next hlt =>
      rcases h2 with h2 | h2
      · exact h0.imm b h2
      · omega
theorem frOf_live {h : List LB} {αs : List AV} {rs : List RV} (hr : ressR h (frOf αs rs) αs rs) : ∀ i, frOf αs rs = some i → ∃ lb, h[i]? = some lb ∧ lb.live := by
  intro i hi
  unfold frOf at hi
  split at hi
  · cases hi
    obtain ⟨h1, _⟩ := hr
    simp only [resR] at h1
    split at h1
    · next hi => exact ⟨_, hi, trivial⟩
    · exact h1.elim
  · cases hi
def finX (P : Program) (res : List ResultVar) (rs : List RV) (st : St) : Prop :=
  match resAVs P st res with
  | some αs => ressR st.heap (frOf αs rs) αs rs
  | none => False
def FinX (P : Program) (res : List ResultVar) (rs : List RV) : Exit → St → Prop
  | .ret, st => finX P res rs st
  | .normal, st => finX P res rs st
  | _, _ => False
theorem AFn.of_bodyX {Γ : List (Nat × List D)} {f : FuncId} {fn : Func} {c : Code} {args : List AV} {rs : List RV} (hf : P.funcs[f]? = some fn) (hname : (fn.name == "runtime.NumGoroutine") = false) (hb : fn.body = some c) (hN : args.length ≤ fn.ntmps)
    (h : AXc P ⟨0, fn.ntmps, Γ⟩ c ⟨envOf args 0, []⟩ (FinX P fn.results.toList rs)) : AFn P Γ f args rs := by
  refine ⟨⟨fn, hf, hname, by rw [hb]; rfl⟩, fun V w vals h0 hargs => ?_⟩
  refine calls_of_wp hf hb ?_
  have hl := hargs.length
  let cx : Cx := ⟨⟨0, fn.ntmps, Γ⟩, w, V.I, ⟨V, []⟩, [], 0⟩
  have sat : Sat cx ⟨V, []⟩ ⟨envOf args 0, []⟩ { tmps := vals.toArray ++ Array.replicate (fn.ntmps - vals.toArray.size) undef, defers := [] } w := by
    refine ⟨⟨rfl, fun i b e hi => by simp at hi, fun i j bi bj ei ej k hi => by simp at hi, h0.view, fun b hb => ⟨h0.imm b hb, .inl hb⟩, .refl _ _, .refl _ _, h0.glob, Nat.zero_le _⟩, envOf_ok hargs _, ?_, rfl⟩
    · simp [cx]; omega
  refine wp_mono (h cx ⟨V, []⟩ _ w rfl sat).1 ?_
  rintro e a' w' ⟨G', st', s', hq⟩
  have key : finX P fn.results.toList rs st' → ∃ vs, (results fn a'.tmps).run P w' = .ok (tupV vs) w' ∧ After V cx.w0 rs (.returned (tupV vs)) w' := by
    intro hfin
    unfold finX at hfin
    split at hfin
    · next αs h1 =>
      obtain ⟨vs, hres, hvs⟩ := run_results s' h1
      exact ⟨vs, hres, exit_afterR s' rfl rfl h0 (frOf_live hfin) hfin hvs⟩
    · exact hfin.elim
  cases e with
  | ret => obtain ⟨vs, h1, h2⟩ := key hq; exact ⟨s'.defers, _, h1, h2⟩
  | normal => obtain ⟨vs, h1, h2⟩ := key hq; exact ⟨s'.defers, _, h1, h2⟩
  | _ => exact hq.elim
theorem AFn.vc {Γ : List (Nat × List D)} {f : FuncId} {fn : Func} {c : Code} {args : List AV} {rs : List RV} {n : Nat} {res : Array ResultVar} (E : List Nat) (hf : P.funcs[f]? = some fn) (hb : fn.body = some c) (hm : P.follows .mixedOrders = true)
    (hok : (!(fn.name == "runtime.NumGoroutine") && codeOk E fn.ntmps c) = true) (hn : fn.ntmps = n) (hr : fn.results = res) (hN : args.length ≤ n)
    (h : ap (Ax.vc P ⟨0, n, Γ⟩ E c ⟨envOf args 0, []⟩) (FinX P res.toList rs) ⟨⟩) : AFn P Γ f args rs := by
  subst hn hr
  simp only [Bool.and_eq_true, Bool.not_eq_true'] at hok
  exact AFn.of_bodyX hf hok.1 hb hN (vc_ok hm c _ _ hok.2 h)
@[push_cast] theorem FinX_r (res : List ResultVar) (rs : List RV) (st : St) : FinX P res rs .ret st = finX P res rs st := (rfl)
@[push_cast] theorem FinX_n (res : List ResultVar) (rs : List RV) (st : St) : FinX P res rs .normal st = finX P res rs st := (rfl)
def finX2 (q : Option (List AV)) (rs : List RV) (h : List LB) : Prop := match q with | some αs => ressR h (frOf αs rs) αs rs | none => False
@[push_cast] theorem finX_2 (res : List ResultVar) (rs : List RV) (st : St) : finX P res rs st = finX2 (resAVs P st res) rs st.heap := (rfl)
@[push_cast] theorem finX2_s (αs : List AV) (rs : List RV) (h : List LB) : finX2 (some αs) rs h = ressR h (frOf αs rs) αs rs := (rfl)
@[push_cast] theorem ressR_n (h : List LB) (fr : Option Nat) : ressR h fr [] [] = True := (rfl)
@[push_cast] theorem ressR_c (h : List LB) (fr : Option Nat) (α : AV) (r : List AV) (x : RV) (xs : List RV) : ressR h fr (α :: r) (x :: xs) = (resR h fr α x ∧ ressR h fr r xs) := (rfl)
@[push_cast] theorem resR_a (h : List LB) (fr : Option Nat) (cs : List C) (ds : List D) : resR h fr (.agg cs) (.agg ds) = celsR h fr cs ds := (rfl)
@[push_cast] theorem celsR_n (h : List LB) (fr : Option Nat) : celsR h fr [] [] = True := (rfl)
@[push_cast] theorem celsR_c (h : List LB) (fr : Option Nat) (c : C) (r : List C) (x : D) (xs : List D) : celsR h fr (c :: r) (x :: xs) = (celR h fr c x ∧ celsR h fr r xs) := (rfl)
@[push_cast] theorem resR_d (h : List LB) (fr : Option Nat) (c : C) (x : D) : resR h fr (.c c) (.d x) = celR h fr c x := (rfl)
@[push_cast] theorem celR_i (h : List LB) (fr : Option Nat) (k : IntKind) (n : Int) (y : D) : celR h fr (.d (.int k n)) y = (D.int k n = y) := by cases y <;> rfl
@[push_cast] theorem celR_b (h : List LB) (fr : Option Nat) (b : Bool) (y : D) : celR h fr (.d (.bool b)) y = (D.bool b = y) := by cases y <;> rfl
@[push_cast] theorem celR_s (h : List LB) (fr : Option Nat) (l : List UInt8) (y : D) : celR h fr (.d (.str l)) y = (D.str l = y) := by cases y <;> rfl
@[push_cast] theorem celR_l (h : List LB) (fr : Option Nat) (sz : Nat) (els : List (List D)) (y : D) : celR h fr (.d (.lst sz els)) y = (D.lst sz els = y) := by cases y <;> rfl
@[push_cast] theorem celR_n (h : List LB) (fr : Option Nat) (sz : Nat) (els : List (List D)) : celR h fr (.d (.raw (.slice none 0 0))) (.lst sz els) = (els = []) := (rfl)
@[push_cast] theorem celR_r (h : List LB) (fr : Option Nat) (v w : Value) : celR h fr (.d (.raw v)) (.raw w) = (D.raw v = D.raw w) := by unfold celR; split <;> simp_all
@[push_cast] theorem celR_m (h : List LB) (fr : Option Nat) (sh : List Kc) (m : Mp) (y : D) : celR h fr (.d (.mp sh m)) y = (D.mp sh m = y) := by cases y <;> rfl
@[push_cast] theorem celR_mn (h : List LB) (fr : Option Nat) (sh : List Kc) (m : Mp) : celR h fr (.d (.raw (.map none))) (.mp sh m) = (m = []) := (rfl)
def celM (b : Option LB) (fr : Option Nat) (i ver : Nat) (sh : List Kc) (m : Mp) : Prop := match b with | some (.mp sh' m') => (ver = 0 ∧ fr ≠ some i ∧ sh' = sh) ∧ m' = m | _ => False
@[push_cast] theorem celR_om (h : List LB) (fr : Option Nat) (i ver : Nat) (sh : List Kc) (m : Mp) : celR h fr (.own i ver) (.mp sh m) = celM h[i]? fr i ver sh m := (rfl)
@[push_cast] theorem celM_s (sh' : List Kc) (m' : Mp) (fr : Option Nat) (i ver : Nat) (sh : List Kc) (m : Mp) : celM (some (.mp sh' m')) fr i ver sh m = ((ver = 0 ∧ fr ≠ some i ∧ sh' = sh) ∧ m' = m) := (rfl)
def celS (b : Option LB) (fr : Option Nat) (i ver sz0 lo n sz : Nat) (els : List (List D)) : Prop := match b with | some (.row _ sz' els' v) => (v = ver ∧ fr ≠ some i ∧ sz' = sz ∧ sz0 = sz ∧ lo + n ≤ els'.length) ∧ (els'.drop lo).take n = els | _ => False
@[push_cast] theorem celR_u (h : List LB) (fr : Option Nat) (i ver sz0 lo n sz : Nat) (els : List (List D)) : celR h fr (.sub i ver sz0 lo n) (.lst sz els) = celS h[i]? fr i ver sz0 lo n sz els := (rfl)
@[push_cast] theorem celS_s (t : TypeId) (sz' : Nat) (els' : List (List D)) (v : Nat) (fr : Option Nat) (i ver sz0 lo n sz : Nat) (els : List (List D)) : celS (some (.row t sz' els' v)) fr i ver sz0 lo n sz els = ((v = ver ∧ fr ≠ some i ∧ sz' = sz ∧ sz0 = sz ∧ lo + n ≤ els'.length) ∧ (els'.drop lo).take n = els) := (rfl)
def celO (b : Option LB) (fr : Option Nat) (i ver sz : Nat) (els : List (List D)) : Prop := match b with | some (.row _ sz' els' v) => (v = ver ∧ fr ≠ some i ∧ sz' = sz) ∧ els' = els | _ => False
@[push_cast] theorem celR_o (h : List LB) (fr : Option Nat) (i ver sz : Nat) (els : List (List D)) : celR h fr (.own i ver) (.lst sz els) = celO h[i]? fr i ver sz els := (rfl)
@[push_cast] theorem celO_s (t : TypeId) (sz' : Nat) (els' : List (List D)) (v : Nat) (fr : Option Nat) (i ver sz : Nat) (els : List (List D)) : celO (some (.row t sz' els' v)) fr i ver sz els = ((v = ver ∧ fr ≠ some i ∧ sz' = sz) ∧ els' = els) := (rfl)
def resO (b : Option LB) (fr : Option Nat) (i ver : Nat) (t : TypeId) (sz : Nat) (els : List (List D)) : Prop := match b with | some (.row t' sz' els' v) => (v = ver ∧ fr = some i ∧ t' = t ∧ sz' = sz) ∧ els' = els | _ => False
@[push_cast] theorem resR_o (h : List LB) (fr : Option Nat) (i ver : Nat) (t : TypeId) (sz : Nat) (els : List (List D)) : resR h fr (.c (.own i ver)) (.fresh t sz els) = resO h[i]? fr i ver t sz els := (rfl)
@[push_cast] theorem resO_s (t t' : TypeId) (sz sz' : Nat) (els els' : List (List D)) (v : Nat) (fr : Option Nat) (i ver : Nat) : resO (some (.row t' sz' els' v)) fr i ver t sz els = ((v = ver ∧ fr = some i ∧ t' = t ∧ sz' = sz) ∧ els' = els) := (rfl)
@[push_cast] theorem resR_n (h : List LB) (fr : Option Nat) (t : TypeId) (sz : Nat) (els : List (List D)) : resR h fr (.c (.d (.raw (.slice none 0 0)))) (.fresh t sz els) = (els = []) := (rfl)
@[push_cast] theorem frOf_o (i ver : Nat) (t : TypeId) (sz : Nat) (els : List (List D)) : frOf [.c (.own i ver)] [.fresh t sz els] = some i := rfl
@[push_cast] theorem frOf_d (αs : List AV) (x : D) (xs : List RV) : frOf αs (.d x :: xs) = none := by unfold frOf; split <;> first | rfl | (next e => cases e)
@[push_cast] theorem frOf_a (αs : List AV) (x : List D) (xs : List RV) : frOf αs (.agg x :: xs) = none := by unfold frOf; split <;> first | rfl | (next e => cases e)
@[push_cast] theorem frOf_n (αs : List AV) : frOf αs [] = none := by unfold frOf; split <;> first | rfl | (next e => cases e)
@[push_cast] theorem frOf_r (v : Value) (rs : List RV) : frOf [.c (.d (.raw v))] rs = none := by unfold frOf; split <;> first | rfl | (next e => cases e)
end Go.Ax
namespace Go.Ax
variable {P : Program} {pm : Pm} {E : List Nat}
theorem LoopV.of0 {b : Code} {st : St} {Q : Exit → St → Prop} {S : Type} (hm : P.follows .mixedOrders = true) (keep : List Nat) (vars : S → List (Nat × AV)) (I : S → Prop) (μ : S → Nat) (s0 : S) (h0 : I s0)
    (round : ∀ s, I s → ap (Ax.vc P pm E b ⟨frame keep st.env (vars s), st.heap⟩) (EthenT (fun st' => ∃ s', (I s' ∧ μ s' < μ s) ∧ fitsV pm st' ⟨frame keep st.env (vars s'), st.heap⟩) Q ⟨⟩ ⟨⟩) ⟨⟩) (f0 : fitsV pm st ⟨frame keep st.env (vars s0), st.heap⟩ := by push_cast) : LoopV P pm E b st Q ⟨⟩ :=
  LoopV.of hm keep vars (fun _ => st.heap) I μ s0 h0 f0 round
theorem LoopV.cnt {b : Code} {st : St} {Q : Exit → St → Prop} (hm : P.follows .mixedOrders = true) (keep : List Nat) (n : Nat) (vars : Nat → List (Nat × AV)) (I : Nat → Prop) (h0 : I 0)
    (round : ∀ k, k ≤ n → I k → ap (Ax.vc P pm E b ⟨frame keep st.env (vars k), st.heap⟩) (EthenT (fun st' => (k < n ∧ I (k + 1)) ∧ fitsV pm st' ⟨frame keep st.env (vars (k + 1)), st.heap⟩) Q ⟨⟩ ⟨⟩) ⟨⟩) (f0 : fitsV pm st ⟨frame keep st.env (vars 0), st.heap⟩ := by push_cast) : LoopV P pm E b st Q ⟨⟩ := by
  intro hok
  refine AXc.loopW (fun k => ⟨frame keep st.env (vars k), st.heap⟩) (fun k => k ≤ n ∧ I k) (fun k => n - k) 0 ⟨Nat.zero_le _, h0⟩ (fitsV_ok f0) fun k hk => (vc_ok hm b _ _ hok (round k hk.1 hk.2)).mono fun e s he => ?_
  cases e with
  | normal => exact ⟨k + 1, ⟨by have := he.1.1; omega, he.1.2⟩, by have := he.1.1; omega, fitsV_ok he.2⟩
  | _ => exact he
theorem LoopV.cntH {b : Code} {st : St} {Q : Exit → St → Prop} (hm : P.follows .mixedOrders = true) (keep : List Nat) (n : Nat) (vars : Nat → List (Nat × AV)) (heap : Nat → List LB) (I : Nat → Prop) (h0 : I 0)
    (round : ∀ k, k ≤ n → I k → ap (Ax.vc P pm E b ⟨frame keep st.env (vars k), heap k⟩) (EthenT (fun st' => (k < n ∧ I (k + 1)) ∧ fitsV pm st' ⟨frame keep st.env (vars (k + 1)), heap (k + 1)⟩) Q ⟨⟩ ⟨⟩) ⟨⟩) (f0 : fitsV pm st ⟨frame keep st.env (vars 0), heap 0⟩ := by push_cast) : LoopV P pm E b st Q ⟨⟩ := by
  intro hok
  refine AXc.loopW (fun k => ⟨frame keep st.env (vars k), heap k⟩) (fun k => k ≤ n ∧ I k) (fun k => n - k) 0 ⟨Nat.zero_le _, h0⟩ (fitsV_ok f0) fun k hk => (vc_ok hm b _ _ hok (round k hk.1 hk.2)).mono fun e s he => ?_
  cases e with
  | normal => exact ⟨k + 1, ⟨by have := he.1.1; omega, he.1.2⟩, by have := he.1.1; omega, fitsV_ok he.2⟩
  | _ => exact he
end Go.Ax
