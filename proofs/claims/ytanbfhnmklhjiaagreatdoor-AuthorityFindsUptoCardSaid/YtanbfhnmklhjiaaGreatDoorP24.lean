/- Part of a proof about this program; no condition of its own. -/
import Derived.Test.YtanbfhnmklhjiaaGreatDoorP19
import Derived.Test.YtanbfhnmklhjiaaGreatDoorP10
import Derived.Laws.BytesArg
import Derived.Test.YtanbfhnmklhjiaaGreatDoorP23
import Derived.Test.YtanbfhnmklhjiaaGreatDoorP22
import Derived.Lib.SliceRun
set_option linter.all false
/- Code of which some regions are left to the reader: conversions that wrap, and from bytes to a text. No condition. -/
namespace Go.Ax
open Go Go.RowKit Go.Lib
def RegC (P : Program) (pm : Pm) (id : Nat) (ops : List Oper) (st : St) (Q : Exit → St → Prop) (_ : Tok Q) : Prop := opsOk ops pm.N = true → AXc P pm (.region id ops.toArray false) st Q
def vcX (P : Program) (pm : Pm) (E M : List Nat) : Code → St → (Exit → St → Prop) → Prop
  | .seq x y, st, Q => vcX P pm E M x st (Ethen (fun st' => vcX P pm E M y st' Q) Q)
  | .cond c x y, st, Q => vcnd (ev pm.Γ st.env c) (vcX P pm E M x st Q) (vcX P pm E M y st Q)
  | .block id c, st, Q => vcX P pm E M c st (EinBlock id Q)
  | .region id ops false, st, Q => bif mem? M (some id) then RegC P pm id ops.toList st Q ⟨⟩ else vc P pm E (.region id ops false) st Q
  | c, st, Q => vc P pm E c st Q
section
variable {P : Program} {pm : Pm} {E M : List Nat} {Q : Exit → St → Prop}
theorem vcX_ok (hm : P.follows .mixedOrders = true) : ∀ (c : Code) (st : St) (Q : Exit → St → Prop), codeOk E pm.N c = true → vcX P pm E M c st Q → AXc P pm c st Q
  | .seq x y, st, Q, hok, h => by
    simp only [codeOk, Bool.and_eq_true] at hok
    refine AXc.seq fun K hK => ?_
    refine (vcX_ok hm x st _ hok.1 h).mono fun e s he => ?_
    cases e with
    | normal => exact hK s (vcX_ok hm y s Q hok.2 he)
    | _ => exact he
  | .cond c x y, st, Q, hok, h => by
    simp only [codeOk, Bool.and_eq_true] at hok
    unfold vcX vcnd at h
    split at h
    · next b hb => exact AXc.cond hb (fun e => vcX_ok hm x st Q hok.1 (h.1 e)) (fun e => vcX_ok hm y st Q hok.2 (h.2 e))
    · exact h.elim
  | .block id c, st, Q, hok, h => AXc.block (vcX_ok hm c st _ hok h)
  | .region id ops false, st, Q, hok, h => by
    unfold vcX at h
    cases hE : mem? M (some id) with
    | true =>
      rw [hE] at h
      obtain ⟨l⟩ := ops
      unfold codeOk at hok
      simp only [Bool.and_eq_true] at hok
      exact h hok.1
    | false => rw [hE] at h; exact vc_ok hm _ st Q hok h
  | .region id ops true, st, Q, hok, h => vc_ok hm _ st Q hok h
  | .skip, st, Q, hok, h => vc_ok hm _ st Q hok h
  | .label _, st, Q, hok, h => vc_ok hm _ st Q hok h
  | .ret, st, Q, hok, h => vc_ok hm _ st Q hok h
  | .exit id, st, Q, hok, h => vc_ok hm _ st Q hok h
  | .loop b, st, Q, hok, h => vc_ok hm _ st Q hok h
  | .rangeFunc .., _, _, _, h => h.elim
  | .scope c, st, Q, hok, h => vc_ok hm _ st Q hok h
  | .goto .., _, _, _, h => h.elim
  | .refuse .., _, _, _, h => h.elim
@[push_cast] theorem vcX_seq (st : St) (x y : Code) : ap (vcX P pm E M (.seq x y) st) (Q) ⟨⟩ = ap (vcX P pm E M x st) (EthenT (fun st' => ap (vcX P pm E M y st') Q ⟨⟩) Q ⟨⟩ ⟨⟩) ⟨⟩ := (rfl)
@[push_cast] theorem vcX_cond (st : St) (c : Operand) (x y : Code) : ap (vcX P pm E M (.cond c x y) st) (Q) ⟨⟩ = ap2 (vcnd (ev pm.Γ st.env c)) ((ap (vcX P pm E M x st) (Q) ⟨⟩)) ((ap (vcX P pm E M y st) (Q) ⟨⟩)) ⟨⟩ ⟨⟩ := (rfl)
@[push_cast] theorem vcX_block (st : St) (i : Nat) (c : Code) : ap (vcX P pm E M (.block i c) st) (Q) ⟨⟩ = ap (vcX P pm E M c st) (EinBlockT i Q ⟨⟩) ⟨⟩ := (rfl)
@[push_cast] theorem vcX_region (st : St) (i : Nat) (ops : List Oper) : ap (vcX P pm E M (.region i ops.toArray false) st) (Q) ⟨⟩ = ap2 (vdb (mem? M (some i))) (RegC P pm i ops st Q ⟨⟩) (ap (vc P pm E (.region i ops.toArray false) st) Q ⟨⟩) ⟨⟩ ⟨⟩ := (rfl)
@[push_cast] theorem vcX_draw (st : St) (i : Nat) (ops : List Oper) : ap (vcX P pm E M (.region i ops.toArray true) st) (Q) ⟨⟩ = ap (vc P pm E (.region i ops.toArray true) st) Q ⟨⟩ := (rfl)
@[push_cast] theorem vcX_skip (st : St) : ap (vcX P pm E M .skip st) (Q) ⟨⟩ = Q .normal st := (rfl)
@[push_cast] theorem vcX_ret (st : St) : ap (vcX P pm E M .ret st) (Q) ⟨⟩ = Q .ret st := (rfl)
@[push_cast] theorem vcX_exit (st : St) (i : Nat) : ap (vcX P pm E M (.exit i) st) (Q) ⟨⟩ = Q (.exit i) st := (rfl)
@[push_cast] theorem vcX_loop (st : St) (b : Code) : ap (vcX P pm E M (.loop b) st) (Q) ⟨⟩ = LoopV P pm E b st Q ⟨⟩ := (rfl)
theorem AFn.vcX {Γ : List (Nat × List D)} {f : FuncId} {fn : Func} {c : Code} {args : List AV} {rs : List RV} {n : Nat} {res : Array ResultVar} (E M : List Nat) (hf : P.funcs[f]? = some fn) (hb : fn.body = some c) (hm : P.follows .mixedOrders = true)
    (hok : (!(fn.name == "runtime.NumGoroutine") && codeOk E fn.ntmps c) = true) (hn : fn.ntmps = n) (hr : fn.results = res) (hN : args.length ≤ n)
    (h : ap (Ax.vcX P ⟨0, n, Γ⟩ E M c ⟨envOf args 0, []⟩) (FinX P res.toList rs) ⟨⟩) : AFn P Γ f args rs := by
  subst hn hr
  simp only [Bool.and_eq_true, Bool.not_eq_true'] at hok
  exact AFn.of_bodyX hf hok.1 hb hN (vcX_ok hm c _ _ hok.2 h)
theorem LoopV.ofX (M : List Nat) {b : Code} {st : St} {Q : Exit → St → Prop} {S : Type} (hm : P.follows .mixedOrders = true) (keep : List Nat) (vars : S → List (Nat × AV)) (heap : S → List LB) (I : S → Prop) (μ : S → Nat) (s0 : S) (h0 : I s0) (f0 : fitsV pm st ⟨frame keep st.env (vars s0), heap s0⟩)
    (round : ∀ s, I s → ap (vcX P pm E M b ⟨frame keep st.env (vars s), heap s⟩) (EthenT (fun st' => ∃ s', (I s' ∧ μ s' < μ s) ∧ fitsV pm st' ⟨frame keep st.env (vars s'), heap s'⟩) Q ⟨⟩ ⟨⟩) ⟨⟩) : LoopV P pm E b st Q ⟨⟩ :=
  fun hok => AXc.loopW (fun s => ⟨frame keep st.env (vars s), heap s⟩) I μ s0 h0 (fitsV_ok f0) fun s hs => (vcX_ok hm b _ _ hok (round s hs)).mono fun e s hs => by
    cases e with
    | normal => obtain ⟨s', ⟨h1, h2⟩, h3⟩ := hs; exact ⟨s', h1, h2, fitsV_ok h3⟩
    | _ => exact hs
theorem vcl_okK {l : List Oper} (hok : opsOk l pm.N = true) (r2 : List Oper) : ∀ (r : List Oper), (∀ o ∈ r, o ∈ l) → ∀ (st : St) (K : St → Prop), vcl P pm E l r st (fun st' => AXl P pm l.toArray r2 st' K) → AXl P pm l.toArray (r ++ r2) st K
  | [], _, st, K, h => h
  | o :: rest, hm, st, K, h => by
    obtain ⟨h1, h2⟩ := opsOk_at hok (hm o (by simp))
    have ih := vcl_okK hok r2 rest (fun o ho => hm o (by simp [ho]))
    refine vgd_ok h2 h1 (fun st hst => ?_) (fun st hst => ih _ _ hst) h
    intro ops rest' K' hK'
    exact vrun_ok h2 hst ops rest' K' fun st' hst' => hK' st' (ih _ _ hst')
theorem AXl.pre {l r : List Oper} {st : St} {K : St → Prop} (E : List Nat) (k n : Nat) (hok : opsOk l pm.N = true) (h : ap (vcl P pm E l (r.take n) st) (fun st' => AXl P pm l.toArray (r.drop n) st' K) ⟨⟩) (hp : l.take k ++ r = l := by rfl) : AXl P pm l.toArray r st K := by
  have := vcl_okK hok (r.drop n) (r.take n) (fun o ho => hp ▸ List.mem_append_right _ (List.mem_of_mem_take ho)) st K h
  rwa [List.take_append_drop] at this
end
section
variable {P : Program} {pm : Pm} {h : List LB} {ρ : Operand → AV} {dst : Option Tmp} {ty : TypeId} {p : String} {af : Array Edge} {gd : Option (Nat × Bool)}
end
end Go.Ax

/- A row of the call's own: one element opened, closed again; its end cleared; functions that hand over a row of their caller's. No condition. -/
namespace Go.Ax
open Go Go.RowKit Go.Lib
section
variable {pm : Pm} {st : St}
theorem opnC_at {els : List (List D)} {kk : Nat} (hk : kk < els.length) (ds : List D) : opnC els kk (ds.map C.d) = (els.set kk ds).flatten.map C.d := by
  unfold opnC
  rw [List.set_eq_take_append_cons_drop, if_pos hk]
  simp
theorem Fw.openRow {i kk : Nat} {t : TypeId} {sz ver : Nat} {els : List (List D)} (hi : st.heap[i]? = some (.row t sz els ver)) (hk : kk < els.length) : Fw pm st ⟨st.env, st.heap.set i (.opn t sz els kk (els[kk].map C.d) ver)⟩ := by
  intro cx G a w _ s
  refine ⟨G, s.h.relabel hi id fun e he hL => ?_, fun x => s.env x, s.N, s.defers⟩
  obtain ⟨h1, xs, h2, h3, h4, h5⟩ := hL
  refine ⟨h1, ⟨hk, by rw [List.length_map]; exact h5 _ (List.getElem_mem hk)⟩, xs, h2, h3, ?_, h5⟩
  rw [opnC_at hk, List.set_getElem_self]
  exact All2.map_left (R := Cr G) (f := C.d) h4
theorem Fw.closeRow {i kk : Nat} {t : TypeId} {sz ver : Nat} {els : List (List D)} {ds : List D} (hi : st.heap[i]? = some (.opn t sz els kk (ds.map C.d) ver)) : Fw pm st ⟨st.env, st.heap.set i (.row t sz (els.set kk ds) ver)⟩ := by
  intro cx G a w _ s
  refine ⟨G, s.h.relabel hi id fun e he hL => ?_, fun x => s.env x, s.N, s.defers⟩
  obtain ⟨h1, ⟨h0, h00⟩, xs, h2, h3, h4, h5⟩ := hL
  rw [opnC_at h0] at h4
  refine ⟨h1, xs, by rw [List.length_set]; exact h2, h3, All2.of_map_left (R := Cr G) (f := C.d) h4, fun x hx => ?_⟩
  rcases List.mem_or_eq_of_mem_set hx with h | rfl
  · exact h5 x h
  · simpa using h00
theorem opnC_get {els : List (List D)} {kk c : Nat} {cs : List C} {x : C} (hc : cs[c]? = some x) : (opnC els kk cs)[((els.take kk).flatten.map C.d).length + c]? = some x := by
  unfold opnC
  rw [List.append_assoc, List.getElem?_append_right (by omega), Nat.add_sub_cancel_left, List.getElem?_append_left (getElem?_lt hc)]
  exact hc
theorem opnC_set {els : List (List D)} {kk c : Nat} {cs : List C} (y : C) (hc : c < cs.length) : opnC els kk (cs.set c y) = (opnC els kk cs).set (((els.take kk).flatten.map C.d).length + c) y := by
  unfold opnC
  rw [List.append_assoc, List.append_assoc, List.set_append_right _ _ (by omega), Nat.add_sub_cancel_left, List.set_append_left _ _ hc]
theorem Fw.freezeOpn (j c : Nat) {i : Nat} {t tb : TypeId} {sz ver sz' kk ver' : Nat} {els els' : List (List D)} {cs : List C} (hj : st.heap[j]? = some (.opn tb sz' els' kk cs ver')) (hc : cs[c]? = some (.own i ver)) (hi : st.heap[i]? = some (.row t sz els ver)) :
    Fw pm st ⟨st.env, (st.heap.set i .dead).set j (.opn tb sz' els' kk (cs.set c (C.d (.lst sz els))) ver')⟩ := by
  intro cx G a w _ s
  obtain ⟨V', hG, s', hv⟩ := freeze_core s.h hi
  have hne : i ≠ j := fun e => by subst e; rw [hi] at hj; cases hj
  have hj' : (st.heap.set i .dead)[j]? = some (.opn tb sz' els' kk cs ver') := by rw [List.getElem?_set, if_neg hne]; exact hj
  have s2 := s'.relabel (lb' := .opn tb sz' els' kk (cs.set c (C.d (.lst sz els))) ver') hj' id fun e he hL => by
    obtain ⟨h1, ⟨h0, h00⟩, xs, h2, h3, h6, h5⟩ := hL
    refine ⟨h1, ⟨h0, by rw [List.length_set]; exact h00⟩, xs, h2, h3, ?_, h5⟩
    obtain ⟨v, hvv, hr⟩ := h6.get _ _ (opnC_get hc)
    rw [opnC_set _ (getElem?_lt hc)]
    have hs := h6.set (i := ((els'.take kk).flatten.map C.d).length + c) (a := C.d (.lst sz els)) (b := v) (hv v hr)
    rwa [show xs.set (((els'.take kk).flatten.map C.d).length + c) v = xs from by
      have := getElem?_lt hvv
      rw [List.getElem?_eq_getElem this] at hvv
      injection hvv with hvv
      rw [← hvv]; exact List.set_getElem_self this] at hs
  exact ⟨⟨V', G.g⟩, s2, fun x => (s.env x).grow hG, s.N, s.defers⟩
theorem Fw.freezeVar (k : Nat) {i : Nat} {t : TypeId} {sz ver : Nat} {els : List (List D)} (hk : lk k st.env = .c (.own i ver)) (hi : st.heap[i]? = some (.row t sz els ver)) : Fw pm st ⟨pute k (.c (.d (.lst sz els))) st.env, st.heap.set i .dead⟩ :=
  fun _ _ _ _ _ s => s.freezeVar k hk hi
variable {P : Program}
theorem AXc.fw {c : Code} {st' : St} {Q : Exit → St → Prop} (hf : Fw pm st st') (h : AXc P pm c st' Q) : AXc P pm c st Q :=
  fun cx G a w hp s => (hf cx G a w hp s).elim fun G' s' => h cx G' a w hp s'
theorem AXl.fw {ops : Array Oper} {rest : List Oper} {st' : St} {K : St → Prop} (hf : Fw pm st st') (h : AXl P pm ops rest st' K) : AXl P pm ops rest st K :=
  fun cx G a w Q hp s hQ => (hf cx G a w hp s).elim fun G' s' => h cx G' a w Q hp s' hQ
theorem CallL.fwF {o : Oper} {k : St → Prop} {t : Tok k} {x : Operand} {as : Array Operand} {ts : Array TypeId} {α : AV} {aas : List AV} (st' : St) (hfw : Fw pm st st')
    (h : CallL P pm o st' (ev pm.Γ st'.env x) (as.toList.map (ev pm.Γ st'.env)) k ⟨⟩)
    (hop : o.op = .call { callee := .value x, args := as, argTypes := ts } := by rfl) (hd : dstOk pm.N o.dst := by first | trivial | (show (_ : Nat) < _; exact Nat.le_of_ble_eq_true rfl)) :
    CallL P pm o st α aas k t := by
  refine .inr (.inr fun ops rest K hK => ?_)
  obtain ⟨dst, op, ty, pos, af, gd⟩ := o
  simp only at hop hd
  subst hop
  have hl : Lf P pm ⟨dst, .call { callee := .value x, args := as, argTypes := ts }, ty, pos, af, gd⟩ st' k := by
    have := CallL_ok (P := P) (pm := pm) (ty := ty) (p := pos) (af := af) (gd := gd) (x := x) (as := as.toList) (ts := ts) (st := st') (k := k) hd (by simpa using h)
    simpa using this
  intro cx G a w Q hp s hQ
  obtain ⟨G', s'⟩ := hfw cx G a w hp s
  exact hl ops rest K hK cx G' a w Q hp s' hQ
theorem cells_set (P : Program) (g o : Nat) (t : TypeId) (vs : List Value) (cur : Array Value) (w : World) (hg : w.heap[g]? = some (.cells cur t (0, 0))) (hl : o + vs.length ≤ cur.size) (h1 : ∀ v ∈ vs, v.oneCell' = true) :
    w.setCells g o vs = w.setRow g (cur.toList.take o ++ vs ++ cur.toList.drop (o + vs.length)).toArray := by
  have e1 := run_storeCells_cells (P := P) g o vs 0 w (fun j hj => by simp [World.cell?, hg, show o + j < cur.size by omega]) (fun j hj => by simp [World.frozen?, hg]) h1
  have e2 := run_storeCells_at P g o t vs 0 cur w hg (by simpa using hl) h1
  rw [e1] at e2
  simpa using e2
theorem AXl.clear {ops : Array Oper} {rest : List Oper} {K : St → Prop} {ty : TypeId} {p : String} {af : Array Edge} {t te : TypeId} {x : Operand} {i ver lo n : Nat} {els : List (List D)} {z : D} {zv : Value} (ht : P.underlying t = some (.slice te)) (hz : ∀ w, (zeroValue te).run P w = .ok zv w) (hz1 : zv.cells = #[zv]) (hzd : ∀ V, Dr V z zv)
    (hx : ev pm.Γ st.env x = .c (.sub i ver 1 lo n)) (hi : st.heap[i]? = some (.row te 1 els ver)) (hle : lo + n = els.length)
    (hn : AXl P pm ops rest ⟨st.env, st.heap.set i (.row te 1 (els.take lo ++ List.replicate n [z]) ver)⟩ K) :
    AXl P pm ops (⟨none, .call { callee := .builtin .clear, args := #[x], argTypes := #[t] }, ty, p, af, none⟩ :: rest) st K := by
  refine AXl.eff rfl fun cx G a w hp s => ?_
  subst hp
  obtain ⟨v, xs, hg, how, hob, hdr, hl⟩ := row_at s.h hi
  obtain ⟨_, v0, n', hg', _, hxx⟩ := (hx ▸ s.ev x : Ar G (.c (.sub i ver 1 lo n)) (a.eval x))
  rw [hg] at hg'
  cases hg'
  obtain ⟨A, cap, e1, hc1, hc2, hc3, hc4⟩ := hxx rfl
  have hone : zv.oneCell' = true := (hzd ⟨fun _ => none, fun _ => False⟩).one
  have hlN : ∀ x ∈ els.take lo ++ List.replicate n [z], x.length = 1 := fun x hx => by
    rcases List.mem_append.1 hx with h | h
    · exact hl x (List.mem_of_mem_take h)
    · rw [List.eq_of_mem_replicate h]; rfl
  have hlen : (els.take lo ++ List.replicate n [z]).length = els.length := by rw [List.length_append, List.length_take, List.length_replicate]; omega
  by_cases hn0 : n = 0
  · subst hn0
    have e0 : els.take lo ++ List.replicate 0 [z] = els := by rw [List.replicate_zero, List.append_nil, List.take_of_length_le (by omega)]
    rw [e0] at hn
    have e2 : st.heap.set i (.row te 1 els ver) = st.heap := by
      have hlt := getElem?_lt hi
      rw [List.getElem?_eq_getElem hlt] at hi
      injection hi with hi
      rw [← hi]; exact List.set_getElem_self hlt
    rw [e2] at hn
    refine ⟨.tuple #[], w, G, st, .inl ?_, ⟨s.h, s.env, s.N, s.defers⟩, hn⟩
    cases A <;> simp [execOp, resolve, invoke, builtin, e1, Builtin.clear_, run_underlying ht, hz]
  · clear hc4 hxx
    obtain ⟨b, len0, cap0, rfl, rfl⟩ := hc3 (by omega)
    obtain ⟨hxl, hcase⟩ := how
    rcases hcase with ⟨hcc, _⟩ | ⟨g, cap', cur, hv, hgb, hh, hd1, hd2, hd3, hd4⟩
    · cases hcc
    injection hv with hv hlen' hcap'
    injection hv with hv
    injection hv with hv _ _
    subst hv hlen' hcap'
    rw [Nat.mul_one] at hd3 hd4 hxl e1
    have hcl : cur.toList.length = cap0 := by simpa using hd3
    have hrun := run_clear_slice (P := P) w t te ty zv ht hz hz1 hone b lo n cap (by omega) (fun j hj => by simp [World.cell?, hh, show lo + j < cur.size by omega]) (fun j hj => by simp [World.frozen?, hh])
    have e3 := cells_set P b lo te (List.replicate n zv) cur w hh (by rw [List.length_replicate]; omega) (fun v hv => by rw [List.eq_of_mem_replicate hv]; exact hone)
    rw [e3] at hrun
    refine ⟨.tuple #[], w.setRow b (cur.toList.take lo ++ List.replicate n zv ++ cur.toList.drop (lo + (List.replicate n zv).length)).toArray, G, ⟨st.env, st.heap.set i (.row te 1 (els.take lo ++ List.replicate n [z]) ver)⟩, .inl ?_, ⟨?_, s.env, s.N, s.defers⟩, hn⟩
    · simp [execOp, resolve, invoke, builtin, e1, hrun]
    · have hsp : cur.toList.take lo ++ List.replicate n zv ++ cur.toList.drop (lo + (List.replicate n zv).length) = splice cur.toList lo (List.replicate n zv) := rfl
      rw [hsp]
      have hspl : (splice cur.toList lo (List.replicate n zv)).length = cur.toList.length := splice_len _ _ _ (by rw [List.length_replicate]; omega)
      have htk : (splice cur.toList lo (List.replicate n zv)).take els.length = splice xs lo (List.replicate n zv) := by
        rw [← hd4]
        have e2 : cur.toList = cur.toList.take els.length ++ cur.toList.drop els.length := (List.take_append_drop _ _).symm
        have hlt : (cur.toList.take els.length).length = els.length := by rw [List.length_take]; omega
        generalize cur.toList.take els.length = A at *
        generalize cur.toList.drop els.length = B at *
        rw [e2, splice_left _ _ _ _ (by rw [List.length_replicate]; omega)]
        have : (splice A lo (List.replicate n zv)).length = els.length := by rw [splice_len _ _ _ (by rw [List.length_replicate]; omega)]; omega
        rw [List.take_append_of_le_length (by omega), List.take_of_length_le (by omega)]
      have hfl : (els.take lo ++ List.replicate n [z]).flatten = splice els.flatten lo (List.replicate n z) := by
        have f1 : els.flatten.length = els.length := by have := flat_len els hl; rw [Nat.mul_one] at this; exact this
        have f2 : (els.take lo).flatten.length = lo := by
          have := flat_len (els.take lo) fun x hx => hl x (List.mem_of_mem_take hx)
          rw [Nat.mul_one, List.length_take] at this; omega
        have f3 : els.flatten = (els.take lo).flatten ++ (els.drop lo).flatten := by rw [← List.flatten_append, List.take_append_drop]
        have f4 : (List.replicate n [z]).flatten = List.replicate n z := by
          clear hn0 hn hle hlN hlen hx hc1 hc3 hrun e3 hsp hspl htk e1
          induction n with
          | zero => rfl
          | succ n ih => rw [List.replicate_succ, List.flatten_cons, ih]; rfl
        have g1 : els.flatten.drop (lo + n) = [] := List.drop_eq_nil_of_le (by rw [f1, hle]; exact Nat.le_refl _)
        have g2 : els.flatten.take lo = (els.take lo).flatten := by
          rw [f3, List.take_append_of_le_length (by rw [f2]; exact Nat.le_refl _), List.take_of_length_le (by rw [f2]; exact Nat.le_refl _)]
        unfold splice
        rw [List.flatten_append, f4, List.length_replicate, g1, g2, List.append_nil]
      refine s.h.upd hi trivial hg (b := b) rfl rfl rfl rfl (by simp [World.setRow]) (fun k hk => setRow_ne _ _ _ _ hk) ⟨rfl, splice xs lo (List.replicate n zv), ⟨?_, .inr ⟨b, cap0, _, by rw [hlen], hgb, setRow_heap w b _ _ te (0, 0) hh, by rw [hlen]; exact hd1, hd2, by rw [Nat.mul_one]; simpa using hspl.trans hcl, by rw [hlen, Nat.mul_one]; simpa using htk⟩⟩, hob, ?_, hlN⟩
      · rw [splice_len _ _ _ (by rw [List.length_replicate]; omega), hlen, Nat.mul_one]; exact hxl
      · rw [hfl]
        refine hdr.splice (All2.of_get (by simp) fun j a b h1 h2 => ?_) lo
        rw [List.getElem?_replicate] at h1 h2
        split at h1
        · cases h1
          rw [if_pos (by assumption)] at h2
          cases h2
          exact hzd _
        · cases h1
end
end Go.Ax

/- Functions that hand over a row of their caller's, changed: their contracts, from the body to the contract, and a call by it. No condition. -/
namespace Go.Ax
open Go Go.RowKit Go.Lib
structure RMv (P : Program) (Γ : List (Nat × List D)) (f : FuncId) (te : TypeId) (sz : Nat) (els els' : List (List D)) (args : List AV) : Prop where
  call : CallOk P f
  scal : els'.flatten.all D.scal = true
  siz : ∀ e ∈ els', e.length = sz
  run : ∀ (V : Vw) (w : World) (base : Nat) (v : Value) (vals xs : List Value), base ≤ w.heap.size → ViewOk Γ V w → w.ownsRow base te sz v els.length xs → (∀ b, v.ownBlock = some b → V.H b = none) →
    All2 (Dr V) els.flatten xs → All2 (Ar ⟨V, []⟩) args vals →
    Calls P f (v :: vals).toArray w fun e w' => ∃ v' xs', e = .returned v' ∧ w'.ownsRow base te sz v' els'.length xs' ∧ All2 (Dr V) els'.flatten xs' ∧ w.grownBy w' v.ownBlock ∧ v'.ownBlock = v.ownBlock
variable {P : Program} {Γ : List (Nat × List D)}
def finM2 (te : TypeId) (sz : Nat) (els' : List (List D)) (q : Option (List AV)) (b : Option LB) : Prop :=
  match q, b with
  | some [.c (.own i ver)], some (.row t s e v) => (i = 0 ∧ ver = 0 ∧ t = te ∧ s = sz ∧ v = 0) ∧ e = els'
  | some [.c (.sub i ver s2 lo n)], some (.row t s e v) => (i = 0 ∧ ver = 0 ∧ t = te ∧ s = sz ∧ s2 = sz ∧ v = 0 ∧ lo = 0 ∧ 0 < e.length ∧ n ≤ e.length) ∧ e.take n = els'
  | _, _ => False
def FinM (P : Program) (res : List ResultVar) (te : TypeId) (sz : Nat) (els' : List (List D)) : Exit → St → Prop
  | .ret, st => finM2 te sz els' (resAVs P st res) st.heap[0]?
  | .normal, st => finM2 te sz els' (resAVs P st res) st.heap[0]?
  | _, _ => False
@[push_cast] theorem FinM_r (res : List ResultVar) (te : TypeId) (sz : Nat) (els' : List (List D)) (st : St) : FinM P res te sz els' .ret st = finM2 te sz els' (resAVs P st res) st.heap[0]? := (rfl)
@[push_cast] theorem FinM_n (res : List ResultVar) (te : TypeId) (sz : Nat) (els' : List (List D)) (st : St) : FinM P res te sz els' .normal st = finM2 te sz els' (resAVs P st res) st.heap[0]? := (rfl)
@[push_cast] theorem finM2_o (te t : TypeId) (sz s i ver v : Nat) (els' e : List (List D)) : finM2 te sz els' (some [.c (.own i ver)]) (some (.row t s e v)) = ((i = 0 ∧ ver = 0 ∧ t = te ∧ s = sz ∧ v = 0) ∧ e = els') := (rfl)
@[push_cast] theorem finM2_s (te t : TypeId) (sz s s2 i ver v lo n : Nat) (els' e : List (List D)) : finM2 te sz els' (some [.c (.sub i ver s2 lo n)]) (some (.row t s e v)) = ((i = 0 ∧ ver = 0 ∧ t = te ∧ s = sz ∧ s2 = sz ∧ v = 0 ∧ lo = 0 ∧ 0 < e.length ∧ n ≤ e.length) ∧ e.take n = els') := (rfl)
theorem RMv.of_body {f : FuncId} {fn : Func} {c : Code} {te : TypeId} {sz : Nat} {els els' : List (List D)} {args : List AV} (hf : P.funcs[f]? = some fn) (hname : (fn.name == "runtime.NumGoroutine") = false) (hb : fn.body = some c) (hN : args.length + 1 ≤ fn.ntmps)
    (hsz : ∀ e ∈ els, e.length = sz) (scal : els'.flatten.all D.scal = true) (siz : ∀ e ∈ els', e.length = sz)
    (h : AXc P ⟨1, fn.ntmps, Γ⟩ c ⟨envOf (.c (.own 0 0) :: args) 0, [.row te sz els 0]⟩ (FinM P fn.results.toList te sz els')) : RMv P Γ f te sz els els' args := by
  refine ⟨⟨fn, hf, hname, by rw [hb]; rfl⟩, scal, siz, fun V w base v vals xs hbase h0 how hVn hdr hargs => ?_⟩
  refine calls_of_wp hf hb ?_
  have hl := hargs.length
  have hrf := row_form how
  let w0 : World := { w with heap := w.heap.extract 0 base }
  have hw0 : w0.heap.size = base := by simp [w0]; omega
  let V1 : Vw := ⟨fun b => if some b = v.ownBlock then none else w.heap[b]?, V.I⟩
  have hV1 : V.Le V1 := ⟨fun b o ho => by
    have hne : ¬ (some b = v.ownBlock) := fun e => by rw [hVn b e.symm] at ho; cases ho
    simp only [V1, if_neg hne]; exact h0.view b o ho, fun b hb => hb⟩
  let cx : Cx := ⟨⟨1, fn.ntmps, Γ⟩, w0, V.I, ⟨V1, [(v, 0)]⟩, [], w.heap.size⟩
  have hbelow : Below w0.heap.size w0 w := ⟨rfl, rfl, rfl, by rw [hw0]; exact hbase, fun k hk => by
    rw [hw0] at hk
    have hk2 : k < w.heap.size := Nat.lt_of_lt_of_le hk hbase
    simp [w0, Array.getElem?_extract, hk, hk2, show min base w.heap.size = base from Nat.min_eq_left hbase]⟩
  have hle0 : GLe 0 (⟨V, []⟩ : Gh) ⟨V1, [(v, 0)]⟩ := ⟨hV1, fun i v n hi _ => by omega⟩
  have sat : Sat cx ⟨V1, [(v, 0)]⟩ ⟨envOf (.c (.own 0 0) :: args) 0, [.row te sz els 0]⟩ { tmps := (v :: vals).toArray ++ Array.replicate (fn.ntmps - (v :: vals).toArray.size) undef, defers := [] } w := by
    refine ⟨⟨rfl, fun i b e hi he => ?_, fun i j bi bj ei ej k hi hj _ _ _ _ _ _ => ?_, fun b o ho => ?_, fun b hb => ⟨?_, .inl hb⟩, hbelow, .refl _ _, fun p hp => (h0.glob p hp).mono hle0 trivial, Nat.le_refl _⟩, envOf_ok (.cons ?_ ?_) _, ?_, rfl⟩
    · cases i with
      | zero =>
        simp only [List.getElem?_cons_zero, Option.some.injEq] at hi he
        subst hi he
        refine ⟨rfl, xs, ?_, fun b hb => by simp only [V1]; rw [if_pos hb.symm], hdr.imp fun _ _ hd => hd.mono hV1, hsz⟩
        rw [show cx.w0.heap.size = base from hw0]; exact how
      | succ i => simp at hi
    · cases i <;> cases j <;> simp_all
    · simp only [V1] at ho
      split at ho
      · cases ho
      · exact ho
    · obtain ⟨o, ho⟩ := h0.imm b hb
      exact ⟨o, hV1.H b o ho⟩
    · exact ⟨hrf.2.2.2, v, 0, rfl, Nat.le_refl _, fun _ => rfl⟩
    · exact hargs.imp' fun x y hx hr => hr.mono hle0 (by
        have : ∀ (x : AV) (u : Value), Ar ⟨V, []⟩ x u → x.low 0 := fun x u hu => by have := Ar.low hu; simpa using this
        exact this _ _ hr)
    · simp [cx]; omega
  refine wp_mono (h cx _ _ w rfl sat).1 ?_
  rintro e a' w' ⟨G', st', s', hq⟩
  have key : finM2 te sz els' (resAVs P st' fn.results.toList) st'.heap[0]? → ∃ v' xs', (results fn a'.tmps).run P w' = .ok v' w' ∧ w'.ownsRow base te sz v' els'.length xs' ∧ All2 (Dr V) els'.flatten xs' ∧ w.grownBy w' v.ownBlock ∧ v'.ownBlock = v.ownBlock := by
    intro hfin
    have hgr : w.grownBy w' v.ownBlock := ⟨s'.h.below.os, s'.h.below.tape, s'.h.below.output, s'.h.sz, fun k hk hne => by
      have h3 : V1.H k = some w.heap[k] := by simp only [V1]; rw [if_neg hne]; exact Array.getElem?_eq_getElem hk
      rw [s'.h.view k _ (s'.h.ext.V.H k _ h3)]
      exact (Array.getElem?_eq_getElem hk).symm⟩
    unfold finM2 at hfin
    split at hfin
    · next i ver t s e vv h1 hrow =>
      obtain ⟨⟨rfl, rfl, rfl, rfl, rfl⟩, rfl⟩ := hfin
      obtain ⟨vs, hres, hvs⟩ := run_results s' h1
      obtain ⟨v', xs', hg, how', hob', hdr', _⟩ := row_at s'.h hrow
      obtain ⟨v2, n2, hg2, hn2, hv2, _⟩ := s'.h.ext.g 0 v 0 (by show 0 < 1; omega) rfl
      rw [hg] at hg2
      cases hg2
      have := hv2 rfl
      subst this
      rw [show cx.w0.heap.size = base from hw0] at how'
      cases hvs with | cons hv hn =>
      cases hn
      obtain ⟨_, v3, n3, hg3, _, hxx⟩ := hv
      rw [hg] at hg3
      cases hg3
      rw [hxx rfl] at hres
      exact ⟨_, xs', hres, how', all2_scal scal hdr', hgr, rfl⟩
    · next i ver s2 lo n t s e vv h1 hrow =>
      obtain ⟨⟨rfl, rfl, rfl, rfl, rfl, rfl, rfl, hpos, hne⟩, rfl⟩ := hfin
      obtain ⟨vs, hres, hvs⟩ := run_results s' h1
      obtain ⟨v', xs', hg, how', hob', hdr', hsz'⟩ := row_at s'.h hrow
      obtain ⟨v2, n2, hg2, hn2, hv2, _⟩ := s'.h.ext.g 0 v 0 (by show 0 < 1; omega) rfl
      rw [hg] at hg2
      cases hg2
      have := hv2 rfl
      subst this
      rw [show cx.w0.heap.size = base from hw0] at how'
      cases hvs with | @cons _ u _ us hv hn =>
      cases hn
      obtain ⟨_, v3, n3, hg3, _, hxx⟩ := hv
      rw [hg] at hg3
      cases hg3
      obtain ⟨A, cap, e1, hc1, hc2, _, hc4⟩ := hxx rfl
      obtain ⟨hxl, ⟨hcc, h00⟩ | ⟨g, cap', cur, hv, hgb, hh, hd1, hd2, hd3, hd4⟩⟩ := how'
      · omega
      obtain ⟨hle2, hcap, ad, hA, had⟩ := hc4 _ _ _ hv
      have had := had (by omega)
      rw [Nat.zero_mul] at had
      subst had hA
      have hu : u = .slice (some ⟨g, 0, none⟩) n cap := e1
      rw [show tupV [u] = u from rfl, hu] at hres
      have htl : (e.take n).length = n := by rw [List.length_take]; omega
      have hfl : (e.take n).flatten.length = n * s2 := by rw [flat_len _ fun x hx => hsz' x (List.mem_of_mem_take hx), htl]
      have hft : (e.take n).flatten = e.flatten.take (n * s2) := by
        have f3 : e.flatten = (e.take n).flatten ++ (e.drop n).flatten := by rw [← List.flatten_append, List.take_append_drop]
        rw [f3, List.take_append_of_le_length (by rw [hfl]; exact Nat.le_refl _)]
        exact (List.take_of_length_le (by rw [hfl]; exact Nat.le_refl _)).symm
      have hns : n * s2 ≤ e.length * s2 := Nat.mul_le_mul_right s2 hne
      refine ⟨_, xs'.take (n * s2), hres, ?_, ?_, hgr, by rw [hv]; rfl⟩
      · rw [htl]
        refine ⟨by rw [List.length_take, hxl]; omega, .inr ⟨g, cap, cur, rfl, hgb, hh, by omega, hc2, by rw [hd3]; congr 1; omega, ?_⟩⟩
        rw [← hd4, List.take_take, Nat.min_eq_left hns]
      · have := (all2_scal (V' := V) (by rw [← hft]; exact scal) (hdr'.take (n * s2)))
        rw [hft]; exact this
    · exact hfin.elim
  cases e with
  | ret => obtain ⟨v', xs', h1, h2⟩ := key hq; exact ⟨s'.defers, _, h1, v', xs', rfl, h2⟩
  | normal => obtain ⟨v', xs', h1, h2⟩ := key hq; exact ⟨s'.defers, _, h1, v', xs', rfl, h2⟩
  | _ => exact hq.elim
theorem RMv.vcX {f : FuncId} {fn : Func} {c : Code} {te : TypeId} {sz : Nat} {els els' : List (List D)} {args : List AV} {n : Nat} {res : Array ResultVar} (E M : List Nat) (hf : P.funcs[f]? = some fn) (hb : fn.body = some c) (hm : P.follows .mixedOrders = true)
    (hok : (!(fn.name == "runtime.NumGoroutine") && codeOk E fn.ntmps c) = true) (hn : fn.ntmps = n) (hr : fn.results = res) (hN : args.length + 1 ≤ n)
    (hsz : ∀ e ∈ els, e.length = sz) (scal : els'.flatten.all D.scal = true) (siz : ∀ e ∈ els', e.length = sz)
    (h : ap (Ax.vcX P ⟨1, n, Γ⟩ E M c ⟨envOf (.c (.own 0 0) :: args) 0, [.row te sz els 0]⟩) (FinM P res.toList te sz els') ⟨⟩) : RMv P Γ f te sz els els' args := by
  subst hn hr
  simp only [Bool.and_eq_true, Bool.not_eq_true'] at hok
  exact RMv.of_body hf hok.1 hb hN hsz scal siz (vcX_ok hm c _ _ hok.2 h)
variable {pm : Pm}
theorem CallL.rmv {st : St} {o : Oper} {aas : List AV} {k : St → Prop} {t : Tok k} {f : FuncId} {x a1 : Operand} {xs : List Operand} {ts : Array TypeId} {j ver : Nat} {te : TypeId} {sz : Nat} {els els' : List (List D)} {args : List AV}
    (hc : RMv P pm.Γ f te sz els els' args)
    (hk : k (St.put ⟨st.env, st.heap.set j (.row te sz els' (ver + 1))⟩ o.dst (.c (.own j (ver + 1)))))
    (hi : st.heap[j]? = some (.row te sz els ver) := by rfl)
    (hop : o.op = .call { callee := .value x, args := (a1 :: xs).toArray, argTypes := ts } := by rfl) (hx : ev pm.Γ st.env x = .c (.clo f []) := by rfl) (h1 : ev pm.Γ st.env a1 = .c (.own j ver) := by rfl)
    (ha : All2 (ArgR pm st.heap j) (xs.map (ev pm.Γ st.env)) args := by repeat (first | exact All2.nil | refine All2.cons (by first | exact ArgR.d | exact ArgR.fn) ?_))
    (hd : dstOk pm.N o.dst := by first | trivial | (show (_ : Nat) < _; exact Nat.le_of_ble_eq_true rfl)) :
    CallL P pm o st (.c (.clo f [])) aas k t := by
  refine .inr (.inr fun ops rest K hK => ?_)
  obtain ⟨dst, op, ty, pos, af, gd⟩ := o
  simp only at hop hd
  subst hop
  intro cx G a w Q hpm s hQ
  refine wpList_plain rfl fun K' hK' => ?_
  subst hpm
  obtain ⟨v, vxs, hg, how, hob, hdr, hl⟩ := row_at s.h hi
  obtain ⟨_, v0, n', hg', _, hxx⟩ := (h1 ▸ s.ev a1 : Ar G (.c (.own j ver)) (a.eval a1))
  rw [hg] at hg'
  cases hg'
  have e1 := hxx rfl
  have hxv : Ar G (.c (.clo f [])) (a.eval x) := hx ▸ s.ev x
  obtain ⟨bs, hxe, hbs⟩ := hxv
  cases hbs
  have f1 := row_form how
  have hn : ∀ b, v.ownBlock = some b → G.V.H b = none ∧ ∀ j' bj ej, st.heap[j']? = some bj → bj.live → G.g[j']? = some ej → blkOf ej.1 = some b → j' = j := fun b hb =>
    ⟨hob b hb, fun j' bj ej q1 q2 q3 q4 => s.h.sep j' j bj _ ej _ b q1 hi q2 trivial q3 hg q4 (f1.2.2.1 b hb)⟩
  have hargs := argsR_ok (a := a) s.h rfl hg hn xs args ha fun y _ => s.ev y
  have hr : (execOp a.eval ⟨dst, .call { callee := .value x, args := (a1 :: xs).toArray, argTypes := ts }, ty, pos, af, none⟩).run P w = .ok (.enter f (v :: xs.map a.eval).toArray) w := by
    simp [execOp, resolve, Deferred.ofValue, hxe, invoke, run_callFunc hc.call, e1]
  unfold Oper.wp
  rw [hr]
  have hle := exV_le s.h hob
  have hview : ViewOk cx.pm.Γ (exV w v.ownBlock G.V.I) w := ⟨fun b o ho => by
      simp only [exV] at ho
      split at ho
      · cases ho
      · exact ho, fun b hb => by
      obtain ⟨⟨o, h1⟩, _⟩ := s.h.imm b hb
      exact ⟨o, hle.H b o h1⟩, fun p hp => (s.h.glob p hp).mono (m := 0) ⟨hle, fun i v n hi _ => by omega⟩ trivial⟩
  refine (hc.run _ w cx.w0.heap.size v (xs.map a.eval) vxs s.h.below.size hview how (fun b hb => by simp only [exV]; rw [if_pos hb.symm]) (hdr.imp fun _ _ hd => hd.mono hle) hargs).mono fun e w' hafter => ?_
  obtain ⟨v', xs', rfl, how', hdr', hgr, hat⟩ := hafter
  have f2 := row_form how'
  have hL : ∀ G' : Gh, G'.V = G.V → Lr G' w' cx.w0.heap.size (.row te sz els' (ver + 1)) (v', ver + 1) := fun G' hV =>
    ⟨rfl, xs', how', fun b hb => by rw [hV]; exact hob b (by rw [← hat]; exact hb), all2_scal hc.scal hdr', hc.siz⟩
  obtain ⟨hG, s'⟩ := s.h.move (w' := w') (v' := v') (n' := ver + 1) (lb' := .row te sz els' (ver + 1)) hi trivial hg (by omega) f1.1 f1.2.1 f2.2.1 hgr (.inl hat) f1.2.2.1 hL
  exact hK' _ _ (hK _ hk cx _ _ w' Q rfl ((s.step hG s').put (α := .c (.own j (ver + 1))) ⟨f2.2.2.2, v', ver + 1, by simp [getElem?_lt hg], Nat.le_refl _, fun _ => rfl⟩ hd) hQ)
end Go.Ax
