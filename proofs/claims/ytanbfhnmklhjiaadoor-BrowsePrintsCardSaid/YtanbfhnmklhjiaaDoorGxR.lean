/- Part of a proof about this program; no condition of its own. -/
import Derived.Test.YtanbfhnmklhjiaaDoorGxD
import Derived.Test.YtanbfhnmklhjiaaDoorGxB
set_option linter.all false
/- A nil slice in a box of the call's own, ahead of a loop. -/
namespace Go.Ax
open Go
variable {P : Program} {pm : Pm} {E : List Nat}
theorem LoopV.nilbox {b : Code} {st : St} {Q : Exit → St → Prop} {t : Tok Q} (i j : Nat) (te : TypeId) (sz : Nat) (tb : TypeId) (cs : List C) (h : LoopV P pm E b ⟨st.env, (st.heap ++ [LB.row te sz [] 0]).set i (LB.box tb (cs.set j (C.own st.heap.length 0)))⟩ Q ⟨⟩)
    (hi : st.heap[i]? = some (.box tb cs) := by rfl) (hj : cs[j]? = some (.d (.raw (.slice none 0 0))) := by rfl) : LoopV P pm E b st Q t :=
  fun hok => AXc.nilbox i j te sz hi hj (h hok)
end Go.Ax

/- A row of the call's own, changed in its place; the call may make new objects. -/
namespace Go.Ax
open Go
theorem SatH.inplace {cx : Cx} {G : Gh} {h : List LB} {w w' : World} (s : SatH cx G h w) {i : Nat} {lb lb' : LB} {e : Value × Nat} (hi : h[i]? = some lb) (hlv : lb.live) (he : G.g[i]? = some e)
    (hg : w.grownBy w' (blkOf e.1)) (hl : Lr G w' cx.w0.heap.size lb' e) : SatH cx G (h.set i lb') w' := by
  have hbb : ∀ k, blkOf e.1 = some k → cx.w0.heap.size ≤ k ∧ k < w.heap.size ∧ G.V.H k = none := fun k hb => (s.ent i _ _ hi he).blk hlv hb
  refine ⟨by simp [s.len], fun j b' e' hj he' => ?_, ?_, fun k o ho => ?_, s.imm, s.below.grown hg s.below.size (fun k hk => (hbb k hk).1), s.ext, s.glob, Nat.le_trans s.sz hg.size⟩
  · rcases getElem?_set' hj with ⟨rfl, rfl⟩ | ⟨hne, hj⟩
    · rw [he] at he'; cases he'; exact hl
    · exact (s.ent j _ _ hj he').world fun hlj k hk => hg.block k ((s.ent j _ _ hj he').blk hlj hk).2.1 fun e => hne (s.sep j i b' lb e' _ k hj hi hlj hlv he' he hk e.symm)
  · intro j k bj bk ej ek x h1 h2 h3 h4 h5 h6 h7 h8
    rcases getElem?_set' h1 with ⟨rfl, rfl⟩ | ⟨hne, q1⟩ <;> rcases getElem?_set' h2 with ⟨rfl, rfl⟩ | ⟨hne', q2⟩
    · rfl
    · exact s.sep _ _ lb bk ej ek x hi q2 hlv h4 h5 h6 h7 h8
    · exact s.sep _ _ bj lb ej ek x q1 hi h3 hlv h5 h6 h7 h8
    · exact s.sep _ _ bj bk ej ek x q1 q2 h3 h4 h5 h6 h7 h8
  · have h1 := s.view k o ho
    rw [hg.block k (heap_lt h1) (fun e => by rw [(hbb k e.symm).2.2] at ho; cases ho)]
    exact h1
/-- What a call does to a row of its caller's: in its place, or handed over. -/
def RowOp (P : Program) (f : FuncId) (te : TypeId) (sz : Nat) (els els' : List (List D)) (moved : Bool) : Prop :=
  ∀ (V : Vw) (base : Nat) (v : Value) (xs : List Value) (w : World), w.ownsRow base te sz v els.length xs → All2 (Dr V) els.flatten xs →
    Calls P f #[v] w fun e w' => ∃ v' xs', e = .returned (if moved then v' else .tuple #[]) ∧ (moved = false → v' = v) ∧ w'.ownsRow base te sz v' els'.length xs' ∧ All2 (Dr V) els'.flatten xs' ∧ w.grownBy w' v.ownBlock ∧ v'.ownBlock = v.ownBlock
variable {P : Program} {pm : Pm} {st : St} {o : Oper} {aas : List AV}
theorem CallL.row {k : St → Prop} {t : Tok k} {f : FuncId} {x a1 : Operand} {ts : Array TypeId} {i ver : Nat} {te : TypeId} {sz : Nat} {els els' : List (List D)}
    (hc : RowOp P f te sz els els' true) (hsz : ∀ e ∈ els', e.length = sz) (hi : st.heap[i]? = some (.row te sz els ver))
    (hcall : CallOk P f)
    (hk : k (St.put ⟨st.env, st.heap.set i (.row te sz els' (ver + 1))⟩ o.dst (.c (.own i (ver + 1)))))
    (hop : o.op = .call { callee := .value x, args := #[a1], argTypes := ts } := by rfl) (hx : ev pm.Γ st.env x = .c (.clo f []) := by rfl) (h1 : ev pm.Γ st.env a1 = .c (.own i ver) := by rfl) (hd : dstOk pm.N o.dst := by first | trivial | (show (_ : Nat) < _; exact Nat.le_of_ble_eq_true rfl)) :
    CallL P pm o st (.c (.clo f [])) aas k t := by
  refine .inr (.inr fun ops rest K hK => ?_)
  obtain ⟨dst, op, ty, pos, af, gd⟩ := o
  simp only at hop hd
  subst hop
  intro cx G a w Q hpm s hQ
  refine wpList_plain rfl fun K' hK' => ?_
  subst hpm
  obtain ⟨v, xs, hg, how, hob, hdr, hl⟩ := row_at s.h hi
  obtain ⟨_, v0, n', hg', _, hxx⟩ := (h1 ▸ s.ev a1 : Ar G (.c (.own i ver)) (a.eval a1))
  rw [hg] at hg'
  cases hg'
  have e1 := hxx rfl
  have hxv : Ar G (.c (.clo f [])) (a.eval x) := hx ▸ s.ev x
  obtain ⟨bs, hxe, hbs⟩ := hxv
  cases hbs
  have hr : (execOp a.eval ⟨dst, .call { callee := .value x, args := #[a1], argTypes := ts }, ty, pos, af, none⟩).run P w = .ok (.enter f #[v]) w := by
    simp [execOp, resolve, Deferred.ofValue, hxe, invoke, run_callFunc hcall, e1]
  unfold Oper.wp
  rw [hr]
  refine (hc G.V cx.w0.heap.size v xs w how hdr).mono fun e w' hafter => ?_
  obtain ⟨v', xs', rfl, _, how', hdr', hgr, hat⟩ := hafter
  have f1 := row_form how
  have f2 := row_form how'
  have hL : ∀ G' : Gh, G'.V = G.V → Lr G' w' cx.w0.heap.size (.row te sz els' (ver + 1)) (v', ver + 1) := fun G' hV =>
    ⟨rfl, xs', how', fun b hb => by rw [hV]; exact hob b (by rw [← hat]; exact hb), by rw [hV]; exact hdr', hsz⟩
  obtain ⟨hG, s'⟩ := s.h.move (w' := w') (v' := v') (n' := ver + 1) (lb' := .row te sz els' (ver + 1)) hi trivial hg (by omega) f1.1 f1.2.1 f2.2.1 hgr (.inl hat) f1.2.2.1 hL
  exact hK' _ _ (hK _ hk cx _ _ w' Q rfl ((s.step hG s').put (α := .c (.own i (ver + 1))) ⟨f2.2.2.2, v', ver + 1, by simp [getElem?_lt hg], Nat.le_refl _, fun _ => rfl⟩ hd) hQ)
theorem CallL.rowIn {k : St → Prop} {t : Tok k} {f : FuncId} {x a1 : Operand} {ts : Array TypeId} {i ver : Nat} {te : TypeId} {sz : Nat} {els els' : List (List D)}
    (hc : RowOp P f te sz els els' false) (hsz : ∀ e ∈ els', e.length = sz) (hi : st.heap[i]? = some (.row te sz els ver))
    (hcall : CallOk P f)
    (hk : k (St.put ⟨st.env, st.heap.set i (.row te sz els' ver)⟩ o.dst (rsAV [])))
    (hop : o.op = .call { callee := .value x, args := #[a1], argTypes := ts } := by rfl) (hx : ev pm.Γ st.env x = .c (.clo f []) := by rfl) (h1 : ev pm.Γ st.env a1 = .c (.own i ver) := by rfl) (hd : dstOk pm.N o.dst := by first | trivial | (show (_ : Nat) < _; exact Nat.le_of_ble_eq_true rfl)) :
    CallL P pm o st (.c (.clo f [])) aas k t := by
  refine .inr (.inr fun ops rest K hK => ?_)
  obtain ⟨dst, op, ty, pos, af, gd⟩ := o
  simp only at hop hd
  subst hop
  intro cx G a w Q hpm s hQ
  refine wpList_plain rfl fun K' hK' => ?_
  subst hpm
  obtain ⟨v, xs, hg, how, hob, hdr, hl⟩ := row_at s.h hi
  obtain ⟨_, v0, n', hg', _, hxx⟩ := (h1 ▸ s.ev a1 : Ar G (.c (.own i ver)) (a.eval a1))
  rw [hg] at hg'
  cases hg'
  have e1 := hxx rfl
  have hxv : Ar G (.c (.clo f [])) (a.eval x) := hx ▸ s.ev x
  obtain ⟨bs, hxe, hbs⟩ := hxv
  cases hbs
  have hr : (execOp a.eval ⟨dst, .call { callee := .value x, args := #[a1], argTypes := ts }, ty, pos, af, none⟩).run P w = .ok (.enter f #[v]) w := by
    simp [execOp, resolve, Deferred.ofValue, hxe, invoke, run_callFunc hcall, e1]
  unfold Oper.wp
  rw [hr]
  refine (hc G.V cx.w0.heap.size v xs w how hdr).mono fun e w' hafter => ?_
  obtain ⟨v', xs', rfl, hvv, how', hdr', hgr, hat⟩ := hafter
  have := hvv rfl
  subst this
  have f1 := row_form how
  have hL : Lr G w' cx.w0.heap.size (.row te sz els' ver) (v', ver) := ⟨rfl, xs', how', hob, hdr', hsz⟩
  have hbk : blkOf v' = v'.ownBlock := by
    cases hb : v'.ownBlock with
    | none =>
      cases hb' : blkOf v' with
      | none => rfl
      | some k => have := f1.2.1 k hb'; rw [hb] at this; cases this
    | some k => exact f1.2.2.1 k hb
  have s' := s.h.inplace (w' := w') (lb' := .row te sz els' ver) hi trivial hg (hbk ▸ hgr) hL
  exact hK' _ _ (hK _ hk cx _ _ w' Q rfl ((s.step (.refl _ _) s').put (α := rsAV []) (rsAV_ok .nil) hd) hQ)
end Go.Ax

/- Quotient and rest of whatever integer, by a positive one. -/
namespace Go.Ax
open Go
variable {P : Program} {h : List LB} {ρ : Operand → AV} {dst : Option Tmp} {ty : TypeId} {p : String} {af : Array Edge} {gd : Option (Nat × Bool)}
theorem s_quoT (t t' : TypeId) (x y : Operand) {m n : Int} (hx : ρ x = .c (.d (.int .i64 m))) (hy : ρ y = .c (.d (.int .i64 n))) (h2 : 0 < n) (hw : IntKind.i64.wrap (m.tdiv n) = m.tdiv n) :
    Still P h ⟨dst, .binOp .quo t x y t', ty, p, af, gd⟩ ρ (.c (.d (.int .i64 (m.tdiv n)))) := by
  intro cx G w a s ho
  have e1 := ar_int (hx ▸ ho x (by simp [Op.operands]))
  have e2 := ar_int (hy ▸ ho y (by simp [Op.operands]))
  refine ⟨.int .i64 (m.tdiv n), ?_, Dr.int _ _⟩
  have hn : n ≠ 0 := by omega
  simp [execOp, e1, e2, eqGuard, binOp, Op.intDiv, hn, hw]
theorem s_remT (t t' : TypeId) (x y : Operand) {k : IntKind} {m n : Int} (hx : ρ x = .c (.d (.int k m))) (hy : ρ y = .c (.d (.int k n))) (h2 : 0 < n) :
    Still P h ⟨dst, .binOp .rem t x y t', ty, p, af, gd⟩ ρ (.c (.d (.int k (m.tmod n)))) := by
  intro cx G w a s ho
  have e1 := ar_int (hx ▸ ho x (by simp [Op.operands]))
  have e2 := ar_int (hy ▸ ho y (by simp [Op.operands]))
  refine ⟨.int k (m.tmod n), ?_, Dr.int _ _⟩
  have hn : n ≠ 0 := by omega
  simp [execOp, e1, e2, eqGuard, binOp, Op.intDiv, hn]
end Go.Ax

/- A call ahead of which the state is read through (rows left behind as data). No condition. -/
namespace Go.Ax
open Go
variable {P : Program} {pm : Pm} {st st' : St} {o : Oper}
theorem CallL.fw {k : St → Prop} {t : Tok k} {x : Operand} {as : Array Operand} {ts : Array TypeId} {α : AV} {aas : List AV} (st' : St) (hfw : fitsV pm st st')
    (h : CallL P pm o st' (ev pm.Γ st'.env x) (as.toList.map (ev pm.Γ st'.env)) k ⟨⟩)
    (hop : o.op = .call { callee := .value x, args := as, argTypes := ts } := by rfl) (hd : dstOk pm.N o.dst := by first | trivial | (show (_ : Nat) < _; exact Nat.le_of_ble_eq_true rfl)) :
    CallL P pm o st α aas k t := by
  refine .inr (.inr fun ops rest K hK => ?_)
  obtain ⟨dst, op, ty, pos, af, gd⟩ := o
  simp only at hop hd
  subst hop
  have hl : Lf P pm ⟨dst, .call { callee := .value x, args := as, argTypes := ts }, ty, pos, af, gd⟩ st' k := by
    have := CallL_ok (P := P) (pm := pm) (ty := ty) (p := pos) (af := af) (gd := gd) (x := x) (as := as.toList) (ts := ts) (st := st') (k := k) hd (by simpa using h)
    simpa using this
  intro cx G a w Q hp s hQ
  obtain ⟨G', s'⟩ := fitsV_ok hfw cx G a w hp s
  exact hl ops rest K hK cx G' a w Q hp s' hQ
theorem CallL.frm {k : St → Prop} {t : Tok k} {x : Operand} {as : Array Operand} {ts : Array TypeId} {α : AV} {aas : List AV} (keep : List Nat) (vars : List (Nat × AV)) (heap : List LB) (hfw : fitsV pm st ⟨frame keep st.env vars, heap⟩)
    (h : CallL P pm o ⟨frame keep st.env vars, heap⟩ (ev pm.Γ (frame keep st.env vars) x) (as.toList.map (ev pm.Γ (frame keep st.env vars))) k ⟨⟩)
    (hop : o.op = .call { callee := .value x, args := as, argTypes := ts } := by rfl) (hd : dstOk pm.N o.dst := by first | trivial | (show (_ : Nat) < _; exact Nat.le_of_ble_eq_true rfl)) :
    CallL P pm o st α aas k t := CallL.fw _ hfw h hop hd
end Go.Ax

/- A row of the call's own, handed to a call with a function value; the call may make new objects. No condition. -/
namespace Go.Ax
open Go
/-- What a call with a function of its own does to a row of its caller's: in its place, or handed over. -/
def RowOp2 (P : Program) (f g : FuncId) (te : TypeId) (sz : Nat) (els els' : List (List D)) (moved : Bool) : Prop :=
  ∀ (V : Vw) (base : Nat) (v : Value) (xs : List Value) (w : World), w.ownsRow base te sz v els.length xs → All2 (Dr V) els.flatten xs →
    Calls P f #[v, .func (.func g) #[] #[]] w fun e w' => ∃ v' xs', e = .returned (if moved then v' else .tuple #[]) ∧ (moved = false → v' = v) ∧ w'.ownsRow base te sz v' els'.length xs' ∧ All2 (Dr V) els'.flatten xs' ∧ w.grownBy w' v.ownBlock ∧ v'.ownBlock = v.ownBlock
variable {P : Program} {pm : Pm} {st : St} {o : Oper} {aas : List AV}
theorem CallL.row2 {k : St → Prop} {t : Tok k} {f g : FuncId} {x a1 a2 : Operand} {ts : Array TypeId} {i ver : Nat} {te : TypeId} {sz : Nat} {els els' : List (List D)}
    (hc : RowOp2 P f g te sz els els' true) (hsz : ∀ e ∈ els', e.length = sz) (hi : st.heap[i]? = some (.row te sz els ver))
    (hcall : CallOk P f)
    (hk : k (St.put ⟨st.env, st.heap.set i (.row te sz els' (ver + 1))⟩ o.dst (.c (.own i (ver + 1)))))
    (hop : o.op = .call { callee := .value x, args := #[a1, a2], argTypes := ts } := by rfl) (hx : ev pm.Γ st.env x = .c (.clo f []) := by rfl) (h1 : ev pm.Γ st.env a1 = .c (.own i ver) := by rfl) (h2 : ev pm.Γ st.env a2 = .c (.clo g []) := by rfl) (hd : dstOk pm.N o.dst := by first | trivial | (show (_ : Nat) < _; exact Nat.le_of_ble_eq_true rfl)) :
    CallL P pm o st (.c (.clo f [])) aas k t := by
  refine .inr (.inr fun ops rest K hK => ?_)
  obtain ⟨dst, op, ty, pos, af, gd⟩ := o
  simp only at hop hd
  subst hop
  intro cx G a w Q hpm s hQ
  refine wpList_plain rfl fun K' hK' => ?_
  subst hpm
  obtain ⟨v, xs, hg, how, hob, hdr, hl⟩ := row_at s.h hi
  obtain ⟨_, v0, n', hg', _, hxx⟩ := (h1 ▸ s.ev a1 : Ar G (.c (.own i ver)) (a.eval a1))
  rw [hg] at hg'
  cases hg'
  have e1 := hxx rfl
  have hxv : Ar G (.c (.clo f [])) (a.eval x) := hx ▸ s.ev x
  obtain ⟨bs, hxe, hbs⟩ := hxv
  cases hbs
  have hyv : Ar G (.c (.clo g [])) (a.eval a2) := h2 ▸ s.ev a2
  obtain ⟨bs2, hye, hbs2⟩ := hyv
  cases hbs2
  have hr : (execOp a.eval ⟨dst, .call { callee := .value x, args := #[a1, a2], argTypes := ts }, ty, pos, af, none⟩).run P w = .ok (.enter f #[v, .func (.func g) #[] #[]]) w := by
    simp [execOp, resolve, Deferred.ofValue, hxe, invoke, run_callFunc hcall, e1, hye]
  unfold Oper.wp
  rw [hr]
  refine (hc G.V cx.w0.heap.size v xs w how hdr).mono fun e w' hafter => ?_
  obtain ⟨v', xs', rfl, _, how', hdr', hgr, hat⟩ := hafter
  have f1 := row_form how
  have f2 := row_form how'
  have hL : ∀ G' : Gh, G'.V = G.V → Lr G' w' cx.w0.heap.size (.row te sz els' (ver + 1)) (v', ver + 1) := fun G' hV =>
    ⟨rfl, xs', how', fun b hb => by rw [hV]; exact hob b (by rw [← hat]; exact hb), by rw [hV]; exact hdr', hsz⟩
  obtain ⟨hG, s'⟩ := s.h.move (w' := w') (v' := v') (n' := ver + 1) (lb' := .row te sz els' (ver + 1)) hi trivial hg (by omega) f1.1 f1.2.1 f2.2.1 hgr (.inl hat) f1.2.2.1 hL
  exact hK' _ _ (hK _ hk cx _ _ w' Q rfl ((s.step hG s').put (α := .c (.own i (ver + 1))) ⟨f2.2.2.2, v', ver + 1, by simp [getElem?_lt hg], Nat.le_refl _, fun _ => rfl⟩ hd) hQ)
end Go.Ax

/- Functions that change a row of their caller's in its place: their contracts, from the body to the contract, and a call by it. No condition. -/
namespace Go.Ax
open Go Go.RowKit
/-- A datum that refers to no memory. -/
def D.scal : D → Bool
  | .int _ _ | .bool _ | .str _ => true
  | _ => false
theorem Dr.scal {V V' : Vw} {x : D} {v : Value} (hs : x.scal = true) (h : Dr V x v) : Dr V' x v := by
  cases h with
  | int k n => exact .int k n
  | bool b => exact .bool b
  | str l => exact .str l
  | _ => cases hs
theorem all2_scal {V V' : Vw} {xs : List D} {vs : List Value} (hs : xs.all D.scal = true) (h : All2 (Dr V) xs vs) : All2 (Dr V') xs vs :=
  h.imp' fun x _ hx hd => hd.scal (List.all_eq_true.1 hs x hx)
/-- THE CONTRACT of a function whose first argument is a row, which it changes in its place. -/
structure RFn (P : Program) (Γ : List (Nat × List D)) (f : FuncId) (te : TypeId) (sz : Nat) (els els' : List (List D)) (args : List AV) (rs : List D) : Prop where
  call : CallOk P f
  scal : els'.flatten.all D.scal = true
  scalR : rs.all D.scal = true
  siz : ∀ e ∈ els', e.length = sz
  run : ∀ (V : Vw) (w : World) (base : Nat) (v : Value) (vals xs : List Value), base ≤ w.heap.size → ViewOk Γ V w → w.ownsRow base te sz v els.length xs → (∀ b, v.ownBlock = some b → V.H b = none) →
    All2 (Dr V) els.flatten xs → All2 (Ar ⟨V, []⟩) args vals →
    Calls P f (v :: vals).toArray w fun e w' => ∃ vs xs', e = .returned (tupV vs) ∧ All2 (Dr V) rs vs ∧ w'.ownsRow base te sz v els'.length xs' ∧ All2 (Dr V) els'.flatten xs' ∧ w.grownBy w' v.ownBlock

variable {P : Program} {Γ : List (Nat × List D)}
def ressD : List AV → List D → Prop
  | [], [] => True
  | .c (.d y) :: r, x :: xs => y = x ∧ ressD r xs
  | _, _ => False
theorem ressD_ok {G : Gh} : ∀ (αs : List AV) (rs : List D) (vs : List Value), ressD αs rs → All2 (Ar G) αs vs → All2 (Dr G.V) rs vs
  | [], [], vs, _, hv => by cases hv; exact .nil
  | α :: r, x :: xs, vs, h, hv => by
    cases hv with
    | cons h1 h2 =>
      unfold ressD at h
      split at h
      · next e => cases e
      · next y r' x' xs' e1 e2 =>
        cases e1; cases e2
        obtain ⟨rfl, h⟩ := h
        exact .cons h1 (ressD_ok r xs _ h h2)
      · exact h.elim
  | α :: r, [], vs, h, hv => by unfold ressD at h; split at h <;> simp_all
  | [], x :: xs, vs, h, hv => h.elim
def rowEq (te : TypeId) (sz : Nat) (els' : List (List D)) : Option LB → Prop
  | some (.row t s e v) => (t = te ∧ s = sz ∧ v = 0) ∧ e = els'
  | _ => False
def finR2 (te : TypeId) (sz : Nat) (els' : List (List D)) (rs : List D) (q : Option (List AV)) (b : Option LB) : Prop :=
  match q with
  | some αs => ressD αs rs ∧ rowEq te sz els' b
  | none => False
def FinR (P : Program) (res : List ResultVar) (te : TypeId) (sz : Nat) (els' : List (List D)) (rs : List D) : Exit → St → Prop
  | .ret, st => finR2 te sz els' rs (resAVs P st res) st.heap[0]?
  | .normal, st => finR2 te sz els' rs (resAVs P st res) st.heap[0]?
  | _, _ => False
@[push_cast] theorem FinR_r (res : List ResultVar) (te : TypeId) (sz : Nat) (els' : List (List D)) (rs : List D) (st : St) : FinR P res te sz els' rs .ret st = finR2 te sz els' rs (resAVs P st res) st.heap[0]? := (rfl)
@[push_cast] theorem FinR_n (res : List ResultVar) (te : TypeId) (sz : Nat) (els' : List (List D)) (rs : List D) (st : St) : FinR P res te sz els' rs .normal st = finR2 te sz els' rs (resAVs P st res) st.heap[0]? := (rfl)
@[push_cast] theorem finR2_s (te : TypeId) (sz : Nat) (els' : List (List D)) (rs : List D) (αs : List AV) (b : Option LB) : finR2 te sz els' rs (some αs) b = (ressD αs rs ∧ rowEq te sz els' b) := (rfl)
@[push_cast] theorem rowEq_s (te t : TypeId) (sz s : Nat) (els' e : List (List D)) (v : Nat) : rowEq te sz els' (some (.row t s e v)) = ((t = te ∧ s = sz ∧ v = 0) ∧ e = els') := (rfl)
@[push_cast] theorem ressD_n : ressD [] [] = True := (rfl)
@[push_cast] theorem ressD_c (y x : D) (r : List AV) (xs : List D) : ressD (.c (.d y) :: r) (x :: xs) = (y = x ∧ ressD r xs) := (rfl)

theorem RFn.of_body {f : FuncId} {fn : Func} {c : Code} {te : TypeId} {sz : Nat} {els els' : List (List D)} {args : List AV} {rs : List D} (hf : P.funcs[f]? = some fn) (hname : (fn.name == "runtime.NumGoroutine") = false) (hb : fn.body = some c) (hN : args.length + 1 ≤ fn.ntmps)
    (hsz : ∀ e ∈ els, e.length = sz) (scal : els'.flatten.all D.scal = true) (scalR : rs.all D.scal = true) (siz : ∀ e ∈ els', e.length = sz)
    (h : AXc P ⟨1, fn.ntmps, Γ⟩ c ⟨envOf (.c (.own 0 0) :: args) 0, [.row te sz els 0]⟩ (FinR P fn.results.toList te sz els' rs)) : RFn P Γ f te sz els els' args rs := by
  refine ⟨⟨fn, hf, hname, by rw [hb]; rfl⟩, scal, scalR, siz, fun V w base v vals xs hbase h0 how hVn hdr hargs => ?_⟩
  refine calls_of_wp hf hb ?_
  have hl := hargs.length
  have hrf := row_form how
  let w0 : World := { w with heap := w.heap.extract 0 base }
  have hw0 : w0.heap.size = base := by simp [w0]; omega
  let V1 : Vw := ⟨fun b => if some b = v.ownBlock then none else w.heap[b]?, V.I⟩
  have hV1 : V.Le V1 := ⟨fun b o ho => by
    have hne : ¬ (some b = v.ownBlock) := fun e => by rw [hVn b e.symm] at ho; cases ho
    simp only [V1, if_neg hne]; exact h0.view b o ho, fun b hb => hb⟩
  let cx : Cx := ⟨⟨1, fn.ntmps, Γ⟩, w0, V.I, ⟨V1, [(v, 0)]⟩, [], w.heap.size⟩
  have hbelow : Below w0.heap.size w0 w := ⟨rfl, rfl, rfl, by rw [hw0]; exact hbase, fun k hk => by
    rw [hw0] at hk
    have hk2 : k < w.heap.size := Nat.lt_of_lt_of_le hk hbase
    simp [w0, Array.getElem?_extract, hk, hk2, show min base w.heap.size = base from Nat.min_eq_left hbase]⟩
  have hle0 : GLe 0 (⟨V, []⟩ : Gh) ⟨V1, [(v, 0)]⟩ := ⟨hV1, fun i v n hi _ => by omega⟩
  have sat : Sat cx ⟨V1, [(v, 0)]⟩ ⟨envOf (.c (.own 0 0) :: args) 0, [.row te sz els 0]⟩ { tmps := (v :: vals).toArray ++ Array.replicate (fn.ntmps - (v :: vals).toArray.size) undef, defers := [] } w := by
    refine ⟨⟨rfl, fun i b e hi he => ?_, fun i j bi bj ei ej k hi hj _ _ _ _ _ _ => ?_, fun b o ho => ?_, fun b hb => ⟨?_, .inl hb⟩, hbelow, .refl _ _, fun p hp => (h0.glob p hp).mono hle0 trivial, Nat.le_refl _⟩, envOf_ok (.cons ?_ ?_) _, ?_, rfl⟩
    · cases i with
      | zero =>
        simp only [List.getElem?_cons_zero, Option.some.injEq] at hi he
        subst hi he
        refine ⟨rfl, xs, ?_, fun b hb => by simp only [V1]; rw [if_pos hb.symm], hdr.imp fun _ _ hd => hd.mono hV1, hsz⟩
        rw [show cx.w0.heap.size = base from hw0]; exact how
      | succ i => simp at hi
    · cases i <;> cases j <;> simp_all
    · simp only [V1] at ho
      split at ho
      · cases ho
      · exact ho
    · obtain ⟨o, ho⟩ := h0.imm b hb
      exact ⟨o, hV1.H b o ho⟩
    · exact ⟨hrf.2.2.2, v, 0, rfl, Nat.le_refl _, fun _ => rfl⟩
    · exact hargs.imp' fun x y hx hr => hr.mono hle0 (by
        have : ∀ (x : AV) (u : Value), Ar ⟨V, []⟩ x u → x.low 0 := fun x u hu => by have := Ar.low hu; simpa using this
        exact this _ _ hr)
    · simp [cx]; omega
  refine wp_mono (h cx _ _ w rfl sat).1 ?_
  rintro e a' w' ⟨G', st', s', hq⟩
  have key : finR2 te sz els' rs (resAVs P st' fn.results.toList) st'.heap[0]? → ∃ vs xs', (results fn a'.tmps).run P w' = .ok (tupV vs) w' ∧ All2 (Dr V) rs vs ∧ w'.ownsRow base te sz v els'.length xs' ∧ All2 (Dr V) els'.flatten xs' ∧ w.grownBy w' v.ownBlock := by
    intro hfin
    unfold finR2 at hfin
    split at hfin
    · next αs h1 =>
      obtain ⟨hr1, hr2⟩ := hfin
      obtain ⟨vs, hres, hvs⟩ := run_results s' h1
      unfold rowEq at hr2
      split at hr2
      · next t s e vv hrow =>
        obtain ⟨⟨rfl, rfl, rfl⟩, rfl⟩ := hr2
        obtain ⟨v', xs', hg, how', hob', hdr', _⟩ := row_at s'.h hrow
        obtain ⟨v2, n2, hg2, hn2, hv2, _⟩ := s'.h.ext.g 0 v 0 (by show 0 < 1; omega) rfl
        rw [hg] at hg2
        cases hg2
        have := hv2 rfl
        subst this
        rw [show cx.w0.heap.size = base from hw0] at how'
        refine ⟨vs, xs', hres, all2_scal scalR (ressD_ok _ _ _ hr1 hvs), how', all2_scal scal hdr', ⟨s'.h.below.os, s'.h.below.tape, s'.h.below.output, s'.h.sz, fun k hk hne => ?_⟩⟩
        have h3 : V1.H k = some w.heap[k] := by simp only [V1]; rw [if_neg hne]; exact Array.getElem?_eq_getElem hk
        rw [s'.h.view k _ (s'.h.ext.V.H k _ h3)]
        exact (Array.getElem?_eq_getElem hk).symm
      · exact hr2.elim
    · exact hfin.elim
  cases e with
  | ret => obtain ⟨vs, xs', h1, h2⟩ := key hq; exact ⟨s'.defers, _, h1, vs, xs', rfl, h2⟩
  | normal => obtain ⟨vs, xs', h1, h2⟩ := key hq; exact ⟨s'.defers, _, h1, vs, xs', rfl, h2⟩
  | _ => exact hq.elim

/-- FROM THE RECKONED RULE TO THE CONTRACT. -/
theorem RFn.vc {f : FuncId} {fn : Func} {c : Code} {te : TypeId} {sz : Nat} {els els' : List (List D)} {args : List AV} {rs : List D} {n : Nat} {res : Array ResultVar} (E : List Nat) (hf : P.funcs[f]? = some fn) (hb : fn.body = some c) (hm : P.follows .mixedOrders = true)
    (hok : (!(fn.name == "runtime.NumGoroutine") && codeOk E fn.ntmps c) = true) (hn : fn.ntmps = n) (hr : fn.results = res) (hN : args.length + 1 ≤ n)
    (hsz : ∀ e ∈ els, e.length = sz) (scal : els'.flatten.all D.scal = true) (scalR : rs.all D.scal = true) (siz : ∀ e ∈ els', e.length = sz)
    (h : ap (Ax.vc P ⟨1, n, Γ⟩ E c ⟨envOf (.c (.own 0 0) :: args) 0, [.row te sz els 0]⟩) (FinR P res.toList te sz els' rs) ⟨⟩) : RFn P Γ f te sz els els' args rs := by
  subst hn hr
  simp only [Bool.and_eq_true, Bool.not_eq_true'] at hok
  exact RFn.of_body hf hok.1 hb hN hsz scal scalR siz (vc_ok hm c _ _ hok.2 h)

/-! ### a call by it -/
def exV (w : World) (ob : Option Nat) (I : Nat → Prop) : Vw := ⟨fun b => if some b = ob then none else w.heap[b]?, I⟩
/-- A value that reads so here reads so for a callee that changes row i. -/
def ArgR (pm : Pm) (h : List LB) (i : Nat) (α α' : AV) : Prop :=
  ∀ (cx : Cx) (G : Gh) (w : World) (v v0 : Value) (ver : Nat), cx.pm = pm → SatH cx G h w → G.g[i]? = some (v0, ver) → (∀ b, v0.ownBlock = some b → G.V.H b = none ∧ ∀ j bj ej, h[j]? = some bj → bj.live → G.g[j]? = some ej → blkOf ej.1 = some b → j = i) → Ar G α v → Ar ⟨exV w v0.ownBlock G.V.I, []⟩ α' v
theorem exV_le {cx : Cx} {G : Gh} {h : List LB} {w : World} (s : SatH cx G h w) {ob : Option Nat} (hn : ∀ b, ob = some b → G.V.H b = none) : G.V.Le (exV w ob G.V.I) := ⟨fun b o ho => by
  have hne : ¬ (some b = ob) := fun e => by rw [hn b e.symm] at ho; cases ho
  simp only [exV, if_neg hne]; exact s.view b o ho, fun _ h => h⟩
variable {pm : Pm} {h : List LB} {i : Nat}
theorem ArgR.d {x : D} : ArgR pm h i (.c (.d x)) (.c (.d x)) := fun _ _ _ _ _ _ _ s _ hn hv => Dr.mono (exV_le s fun b hb => (hn b hb).1) hv
theorem ArgR.fn {R : Vw → Value → Prop} : ArgR pm h i (.c (.fn R)) (.c (.fn R)) := fun _ _ _ _ _ _ _ s _ hn hv => ⟨hv.1, fun V' hV => hv.2 V' ((exV_le s fun b hb => (hn b hb).1).trans hV)⟩
theorem ArgR.clo0 {f : FuncId} {F : List AV → List RV → Prop} (hcall : CallOk P f) (hF : ∀ args rs, F args rs → AFn P Γ f args rs) : ArgR pm h i (.c (.clo f [])) (.c (.fn (FnSpec P Γ F))) := by
  intro cx G w v v0 ver _ s hg hn hv
  obtain ⟨bs, rfl, hbs⟩ := hv
  cases hbs
  refine ⟨rfl, fun V1 hV1 => ⟨f, #[], rfl, hcall, fun args rs hf V2 w2 vals hV2 hview hargs => ?_⟩⟩
  simpa using (hF args rs hf).run V2 w2 vals hview hargs
theorem ArgR.clo {f : FuncId} {caps : List Nat} {F : List AV → List RV → Prop} {dss : List (List D)} (hcall : CallOk P f) (hcaps : (caps.map fun i => ((h[i]?).bind fun | .box _ cs => toDs cs | _ => none)) = dss.map some) (hne : ∀ j ∈ caps, j ≠ i)
    (hF : ∀ args rs, F args rs → AFn P Γ f (args ++ dss.map fun ds => .c (.ptr ds)) rs) : ArgR pm h i (.c (.clo f caps)) (.c (.fn (FnSpec P Γ F))) := by
  intro cx G w v v0 ver _ s hg0 hn hv
  obtain ⟨bs, rfl, hbs⟩ := hv
  have hle0 := exV_le s fun b hb => (hn b hb).1
  refine ⟨rfl, fun V1 hV1 => ⟨f, _, rfl, hcall, fun args rs hf V2 w2 vals hV2 hview hargs => ?_⟩⟩
  have key : ∀ (caps bs : List Nat) (dss : List (List D)), (∀ j ∈ caps, j ≠ i) → All2 (fun i b => ∃ n, G.g[i]? = some (.pointer (some ⟨b, 0, none⟩), n)) caps bs → (caps.map fun i => ((h[i]?).bind fun | .box _ cs => toDs cs | _ => none)) = dss.map some →
      All2 (Ar ⟨V2, []⟩) (dss.map fun ds => .c (.ptr ds)) (bs.map fun b => Value.pointer (some ⟨b, 0, none⟩)) := by
    intro caps bs dss hne hh
    induction hh generalizing dss with
    | nil => intro e; cases dss with
      | nil => exact .nil
      | cons => simp at e
    | @cons j b caps bs h1 h2 ih =>
      intro e
      cases dss with
      | nil => simp at e
      | cons ds dss =>
        simp only [List.map_cons, List.cons.injEq] at e
        refine .cons ?_ (ih dss (fun j hj => hne j (List.mem_cons_of_mem _ hj)) e.2)
        cases hi : h[j]? with
        | none => simp [hi] at e
        | some lb =>
          cases lb with
          | box t cs =>
            simp [hi] at e
            obtain ⟨b', vs, hg, _, _, hb, hc⟩ := box_at s hi
            obtain ⟨n, hg'⟩ := h1
            rw [hg] at hg'
            have hbb : b' = b := by injection hg' with hg'; injection hg' with hg' _; injection hg' with hg'; injection hg' with hg'; injection hg'
            subst hbb
            rw [toDs_ok _ _ e.1] at hc
            have hd := all2_dr hc
            have hneb : ¬ (some b' = v0.ownBlock) := fun eb => hne j (List.mem_cons_self ..) ((hn b' eb.symm).2 j _ _ hi trivial hg rfl)
            refine ⟨⟨b', 0, none⟩, fun j => vs.getD j undef, rfl, fun j c hj => ?_⟩
            obtain ⟨u, hu, hdu⟩ := hd.get j c hj
            have hle := hV1.trans hV2
            have hblk := hle.H b' _ (show (exV w v0.ownBlock G.V.I).H b' = _ by simp only [exV, if_neg hneb]; exact hb)
            simp only [List.getD, hu, Option.getD_some]
            refine ⟨?_, (hdu.mono hle0).mono hle⟩
            rw [add_plain]
            simp [cellIn, hblk, hu]
          | _ => simp [hi] at e
  have := (hF args rs hf).run V2 w2 (vals ++ bs.map fun b => Value.pointer (some ⟨b, 0, none⟩)) hview (hargs.append (key caps bs dss hne hbs hcaps))
  simpa using this
theorem argsR_ok {cx : Cx} {G : Gh} {w : World} {a : Act} {ρ : Operand → AV} {v0 : Value} {ver : Nat} (s : SatH cx G h w) (hp : cx.pm = pm) (hg : G.g[i]? = some (v0, ver)) (hn : ∀ b, v0.ownBlock = some b → G.V.H b = none ∧ ∀ j bj ej, h[j]? = some bj → bj.live → G.g[j]? = some ej → blkOf ej.1 = some b → j = i) :
    ∀ (as : List Operand) (args' : List AV), All2 (ArgR pm h i) (as.map ρ) args' → (∀ x ∈ as, Ar G (ρ x) (a.eval x)) → All2 (Ar ⟨exV w v0.ownBlock G.V.I, []⟩) args' (as.map a.eval)
  | [], args', hh, _ => by cases hh; exact .nil
  | x :: as, args', hh, hx => by
    cases hh with
    | cons h1 h2 => exact .cons (h1 cx G w _ v0 ver hp s hg hn (hx x (by simp))) (argsR_ok s hp hg hn as _ h2 fun y hy => hx y (by simp [hy]))
/-- A CALL that changes a row of ours in its place. -/
theorem CallL.rfn {st : St} {o : Oper} {aas : List AV} {k : St → Prop} {t : Tok k} {f : FuncId} {x a1 : Operand} {xs : List Operand} {ts : Array TypeId} {j ver : Nat} {te : TypeId} {sz : Nat} {els els' : List (List D)} {args : List AV} {rs : List D}
    (hc : RFn P pm.Γ f te sz els els' args rs)
    (hk : k (St.put ⟨st.env, st.heap.set j (.row te sz els' ver)⟩ o.dst (rsAV (rs.map RV.d))))
    (hi : st.heap[j]? = some (.row te sz els ver) := by rfl)
    (hop : o.op = .call { callee := .value x, args := (a1 :: xs).toArray, argTypes := ts } := by rfl) (hx : ev pm.Γ st.env x = .c (.clo f []) := by rfl) (h1 : ev pm.Γ st.env a1 = .c (.own j ver) := by rfl)
    (ha : All2 (ArgR pm st.heap j) (xs.map (ev pm.Γ st.env)) args := by repeat (first | exact All2.nil | refine All2.cons (by first | exact ArgR.d | exact ArgR.fn) ?_))
    (hd : dstOk pm.N o.dst := by first | trivial | (show (_ : Nat) < _; exact Nat.le_of_ble_eq_true rfl)) :
    CallL P pm o st (.c (.clo f [])) aas k t := by
  refine .inr (.inr fun ops rest K hK => ?_)
  obtain ⟨dst, op, ty, pos, af, gd⟩ := o
  simp only at hop hd
  subst hop
  intro cx G a w Q hpm s hQ
  refine wpList_plain rfl fun K' hK' => ?_
  subst hpm
  obtain ⟨v, vxs, hg, how, hob, hdr, hl⟩ := row_at s.h hi
  obtain ⟨_, v0, n', hg', _, hxx⟩ := (h1 ▸ s.ev a1 : Ar G (.c (.own j ver)) (a.eval a1))
  rw [hg] at hg'
  cases hg'
  have e1 := hxx rfl
  have hxv : Ar G (.c (.clo f [])) (a.eval x) := hx ▸ s.ev x
  obtain ⟨bs, hxe, hbs⟩ := hxv
  cases hbs
  have f1 := row_form how
  have hn : ∀ b, v.ownBlock = some b → G.V.H b = none ∧ ∀ j' bj ej, st.heap[j']? = some bj → bj.live → G.g[j']? = some ej → blkOf ej.1 = some b → j' = j := fun b hb =>
    ⟨hob b hb, fun j' bj ej q1 q2 q3 q4 => s.h.sep j' j bj _ ej _ b q1 hi q2 trivial q3 hg q4 (f1.2.2.1 b hb)⟩
  have hargs := argsR_ok (a := a) s.h rfl hg hn xs args ha fun y _ => s.ev y
  have hr : (execOp a.eval ⟨dst, .call { callee := .value x, args := (a1 :: xs).toArray, argTypes := ts }, ty, pos, af, none⟩).run P w = .ok (.enter f (v :: xs.map a.eval).toArray) w := by
    simp [execOp, resolve, Deferred.ofValue, hxe, invoke, run_callFunc hc.call, e1]
  unfold Oper.wp
  rw [hr]
  have hle := exV_le s.h hob
  have hview : ViewOk cx.pm.Γ (exV w v.ownBlock G.V.I) w := ⟨fun b o ho => by
      simp only [exV] at ho
      split at ho
      · cases ho
      · exact ho, fun b hb => by
      obtain ⟨⟨o, h1⟩, _⟩ := s.h.imm b hb
      exact ⟨o, hle.H b o h1⟩, fun p hp => (s.h.glob p hp).mono (m := 0) ⟨hle, fun i v n hi _ => by omega⟩ trivial⟩
  refine (hc.run _ w cx.w0.heap.size v (xs.map a.eval) vxs s.h.below.size hview how (fun b hb => by simp only [exV]; rw [if_pos hb.symm]) (hdr.imp fun _ _ hd => hd.mono hle) hargs).mono fun e w' hafter => ?_
  obtain ⟨vs, xs', rfl, hrs, how', hdr', hgr⟩ := hafter
  have hL : Lr G w' cx.w0.heap.size (.row te sz els' ver) (v, ver) := ⟨rfl, xs', how', hob, all2_scal hc.scal hdr', hc.siz⟩
  have hbk : blkOf v = v.ownBlock := by
    cases hb : v.ownBlock with
    | none =>
      cases hb' : blkOf v with
      | none => rfl
      | some k => have := f1.2.1 k hb'; rw [hb] at this; cases this
    | some k => exact f1.2.2.1 k hb
  have s' := s.h.inplace (w' := w') (lb' := .row te sz els' ver) hi trivial hg (hbk ▸ hgr) hL
  have hrr : All2 (fun r v => Wr G (rvAV r) v) (rs.map RV.d) vs := by
    have h2 := all2_scal (V' := G.V) hc.scalR hrs
    clear hrs hargs hk hc ha hK hK' hQ
    induction h2 with
    | nil => exact .nil
    | cons q1 q2 ih => exact .cons q1 ih
  have hrs' : Ar G (rsAV (rs.map RV.d)) (tupV vs) := rsAV_ok hrr
  exact hK' _ _ (hK _ hk cx _ _ w' Q rfl ((s.step (.refl _ _) s').put (α := rsAV (rs.map RV.d)) hrs' hd) hQ)
end Go.Ax
