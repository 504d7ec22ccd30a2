/- Part of a proof about this program; no condition of its own. -/
import Derived.Test.YtanbfhnmklhjiaaGreatDoorP22
import Derived.Test.YtanbfhnmklhjiaaGreatDoorP19
import Derived.Deep.DeepAppendRoom
import Derived.ArgAppend
set_option linter.all false
/- Functions that change a row of their caller's in its place: their contracts, from the body to the contract, and a call by it. No condition. -/
namespace Go.Ax
open Go Go.RowKit
def D.scal : D → Bool
  | .int _ _ | .bool _ | .str _ => true
  | _ => false
theorem Dr.scal {V V' : Vw} {x : D} {v : Value} (hs : x.scal = true) (h : Dr V x v) : Dr V' x v := by
  cases h with
  | int k n => exact .int k n
  | bool b => exact .bool b
  | str l => exact .str l
  | _ => cases hs
theorem all2_scal {V V' : Vw} {xs : List D} {vs : List Value} (hs : xs.all D.scal = true) (h : All2 (Dr V) xs vs) : All2 (Dr V') xs vs :=
  h.imp' fun x _ hx hd => hd.scal (List.all_eq_true.1 hs x hx)
structure RFn (P : Program) (Γ : List (Nat × List D)) (f : FuncId) (te : TypeId) (sz : Nat) (els els' : List (List D)) (args : List AV) (rs : List D) : Prop where
  call : CallOk P f
  scal : els'.flatten.all D.scal = true
  scalR : rs.all D.scal = true
  siz : ∀ e ∈ els', e.length = sz
  run : ∀ (V : Vw) (w : World) (base : Nat) (v : Value) (vals xs : List Value), base ≤ w.heap.size → ViewOk Γ V w → w.ownsRow base te sz v els.length xs → (∀ b, v.ownBlock = some b → V.H b = none) →
    All2 (Dr V) els.flatten xs → All2 (Ar ⟨V, []⟩) args vals →
    Calls P f (v :: vals).toArray w fun e w' => ∃ vs xs', e = .returned (tupV vs) ∧ All2 (Dr V) rs vs ∧ w'.ownsRow base te sz v els'.length xs' ∧ All2 (Dr V) els'.flatten xs' ∧ w.grownBy w' v.ownBlock
variable {P : Program} {Γ : List (Nat × List D)}
def ressD : List AV → List D → Prop
  | [], [] => True
  | .c (.d y) :: r, x :: xs => y = x ∧ ressD r xs
  | _, _ => False
theorem ressD_ok {G : Gh} : ∀ (αs : List AV) (rs : List D) (vs : List Value), ressD αs rs → All2 (Ar G) αs vs → All2 (Dr G.V) rs vs
  | [], [], vs, _, hv => by cases hv; exact .nil
  | α :: r, x :: xs, vs, h, hv => by
    cases hv with
    | cons h1 h2 =>
      unfold ressD at h
      split at h
      · next e => cases e
      · next y r' x' xs' e1 e2 =>
        cases e1; cases e2
        obtain ⟨rfl, h⟩ := h
        exact .cons h1 (ressD_ok r xs _ h h2)
      · exact h.elim
  | α :: r, [], vs, h, hv => by unfold ressD at h; split at h <;> simp_all
  | [], x :: xs, vs, h, hv => h.elim
def rowEq (te : TypeId) (sz : Nat) (els' : List (List D)) : Option LB → Prop
  | some (.row t s e v) => (t = te ∧ s = sz ∧ v = 0) ∧ e = els'
  | _ => False
def finR2 (te : TypeId) (sz : Nat) (els' : List (List D)) (rs : List D) (q : Option (List AV)) (b : Option LB) : Prop :=
  match q with
  | some αs => ressD αs rs ∧ rowEq te sz els' b
  | none => False
def FinR (P : Program) (res : List ResultVar) (te : TypeId) (sz : Nat) (els' : List (List D)) (rs : List D) : Exit → St → Prop
  | .ret, st => finR2 te sz els' rs (resAVs P st res) st.heap[0]?
  | .normal, st => finR2 te sz els' rs (resAVs P st res) st.heap[0]?
  | _, _ => False
@[push_cast] theorem FinR_r (res : List ResultVar) (te : TypeId) (sz : Nat) (els' : List (List D)) (rs : List D) (st : St) : FinR P res te sz els' rs .ret st = finR2 te sz els' rs (resAVs P st res) st.heap[0]? := (rfl)
@[push_cast] theorem FinR_n (res : List ResultVar) (te : TypeId) (sz : Nat) (els' : List (List D)) (rs : List D) (st : St) : FinR P res te sz els' rs .normal st = finR2 te sz els' rs (resAVs P st res) st.heap[0]? := (rfl)
@[push_cast] theorem finR2_s (te : TypeId) (sz : Nat) (els' : List (List D)) (rs : List D) (αs : List AV) (b : Option LB) : finR2 te sz els' rs (some αs) b = (ressD αs rs ∧ rowEq te sz els' b) := (rfl)
@[push_cast] theorem rowEq_s (te t : TypeId) (sz s : Nat) (els' e : List (List D)) (v : Nat) : rowEq te sz els' (some (.row t s e v)) = ((t = te ∧ s = sz ∧ v = 0) ∧ e = els') := (rfl)
@[push_cast] theorem ressD_n : ressD [] [] = True := (rfl)
@[push_cast] theorem ressD_c (y x : D) (r : List AV) (xs : List D) : ressD (.c (.d y) :: r) (x :: xs) = (y = x ∧ ressD r xs) := (rfl)
theorem RFn.of_body {f : FuncId} {fn : Func} {c : Code} {te : TypeId} {sz : Nat} {els els' : List (List D)} {args : List AV} {rs : List D} (hf : P.funcs[f]? = some fn) (hname : (fn.name == "runtime.NumGoroutine") = false) (hb : fn.body = some c) (hN : args.length + 1 ≤ fn.ntmps)
    (hsz : ∀ e ∈ els, e.length = sz) (scal : els'.flatten.all D.scal = true) (scalR : rs.all D.scal = true) (siz : ∀ e ∈ els', e.length = sz)
    (h : AXc P ⟨1, fn.ntmps, Γ⟩ c ⟨envOf (.c (.own 0 0) :: args) 0, [.row te sz els 0]⟩ (FinR P fn.results.toList te sz els' rs)) : RFn P Γ f te sz els els' args rs := by
  refine ⟨⟨fn, hf, hname, by rw [hb]; rfl⟩, scal, scalR, siz, fun V w base v vals xs hbase h0 how hVn hdr hargs => ?_⟩
  refine calls_of_wp hf hb ?_
  have hl := hargs.length
  have hrf := row_form how
  let w0 : World := { w with heap := w.heap.extract 0 base }
  have hw0 : w0.heap.size = base := by simp [w0]; omega
  let V1 : Vw := ⟨fun b => if some b = v.ownBlock then none else w.heap[b]?, V.I⟩
  have hV1 : V.Le V1 := ⟨fun b o ho => by
    have hne : ¬ (some b = v.ownBlock) := fun e => by rw [hVn b e.symm] at ho; cases ho
    simp only [V1, if_neg hne]; exact h0.view b o ho, fun b hb => hb⟩
  let cx : Cx := ⟨⟨1, fn.ntmps, Γ⟩, w0, V.I, ⟨V1, [(v, 0)]⟩, [], w.heap.size⟩
  have hbelow : Below w0.heap.size w0 w := ⟨rfl, rfl, rfl, by rw [hw0]; exact hbase, fun k hk => by
    rw [hw0] at hk
    have hk2 : k < w.heap.size := Nat.lt_of_lt_of_le hk hbase
    simp [w0, Array.getElem?_extract, hk, hk2, show min base w.heap.size = base from Nat.min_eq_left hbase]⟩
  have hle0 : GLe 0 (⟨V, []⟩ : Gh) ⟨V1, [(v, 0)]⟩ := ⟨hV1, fun i v n hi _ => by omega⟩
  have sat : Sat cx ⟨V1, [(v, 0)]⟩ ⟨envOf (.c (.own 0 0) :: args) 0, [.row te sz els 0]⟩ { tmps := (v :: vals).toArray ++ Array.replicate (fn.ntmps - (v :: vals).toArray.size) undef, defers := [] } w := by
    refine ⟨⟨rfl, fun i b e hi he => ?_, fun i j bi bj ei ej k hi hj _ _ _ _ _ _ => ?_, fun b o ho => ?_, fun b hb => ⟨?_, .inl hb⟩, hbelow, .refl _ _, fun p hp => (h0.glob p hp).mono hle0 trivial, Nat.le_refl _⟩, envOf_ok (.cons ?_ ?_) _, ?_, rfl⟩
    · cases i with
      | zero =>
        simp only [List.getElem?_cons_zero, Option.some.injEq] at hi he
        subst hi he
        refine ⟨rfl, xs, ?_, fun b hb => by simp only [V1]; rw [if_pos hb.symm], hdr.imp fun _ _ hd => hd.mono hV1, hsz⟩
        rw [show cx.w0.heap.size = base from hw0]; exact how
      | succ i => simp at hi
    · cases i <;> cases j <;> simp_all
    · simp only [V1] at ho
      split at ho
      · cases ho
      · exact ho
    · obtain ⟨o, ho⟩ := h0.imm b hb
      exact ⟨o, hV1.H b o ho⟩
    · exact ⟨hrf.2.2.2, v, 0, rfl, Nat.le_refl _, fun _ => rfl⟩
    · exact hargs.imp' fun x y hx hr => hr.mono hle0 (by
        have : ∀ (x : AV) (u : Value), Ar ⟨V, []⟩ x u → x.low 0 := fun x u hu => by have := Ar.low hu; simpa using this
        exact this _ _ hr)
    · simp [cx]; omega
  refine wp_mono (h cx _ _ w rfl sat).1 ?_
  rintro e a' w' ⟨G', st', s', hq⟩
  have key : finR2 te sz els' rs (resAVs P st' fn.results.toList) st'.heap[0]? → ∃ vs xs', (results fn a'.tmps).run P w' = .ok (tupV vs) w' ∧ All2 (Dr V) rs vs ∧ w'.ownsRow base te sz v els'.length xs' ∧ All2 (Dr V) els'.flatten xs' ∧ w.grownBy w' v.ownBlock := by
    intro hfin
    unfold finR2 at hfin
    split at hfin
    · next αs h1 =>
      obtain ⟨hr1, hr2⟩ := hfin
      obtain ⟨vs, hres, hvs⟩ := run_results s' h1
      unfold rowEq at hr2
      split at hr2
      · next t s e vv hrow =>
        obtain ⟨⟨rfl, rfl, rfl⟩, rfl⟩ := hr2
        obtain ⟨v', xs', hg, how', hob', hdr', _⟩ := row_at s'.h hrow
        obtain ⟨v2, n2, hg2, hn2, hv2, _⟩ := s'.h.ext.g 0 v 0 (by show 0 < 1; omega) rfl
        rw [hg] at hg2
        cases hg2
        have := hv2 rfl
        subst this
        rw [show cx.w0.heap.size = base from hw0] at how'
        refine ⟨vs, xs', hres, all2_scal scalR (ressD_ok _ _ _ hr1 hvs), how', all2_scal scal hdr', ⟨s'.h.below.os, s'.h.below.tape, s'.h.below.output, s'.h.sz, fun k hk hne => ?_⟩⟩
        have h3 : V1.H k = some w.heap[k] := by simp only [V1]; rw [if_neg hne]; exact Array.getElem?_eq_getElem hk
        rw [s'.h.view k _ (s'.h.ext.V.H k _ h3)]
        exact (Array.getElem?_eq_getElem hk).symm
      · exact hr2.elim
    · exact hfin.elim
  cases e with
  | ret => obtain ⟨vs, xs', h1, h2⟩ := key hq; exact ⟨s'.defers, _, h1, vs, xs', rfl, h2⟩
  | normal => obtain ⟨vs, xs', h1, h2⟩ := key hq; exact ⟨s'.defers, _, h1, vs, xs', rfl, h2⟩
  | _ => exact hq.elim
theorem RFn.vc {f : FuncId} {fn : Func} {c : Code} {te : TypeId} {sz : Nat} {els els' : List (List D)} {args : List AV} {rs : List D} {n : Nat} {res : Array ResultVar} (E : List Nat) (hf : P.funcs[f]? = some fn) (hb : fn.body = some c) (hm : P.follows .mixedOrders = true)
    (hok : (!(fn.name == "runtime.NumGoroutine") && codeOk E fn.ntmps c) = true) (hn : fn.ntmps = n) (hr : fn.results = res) (hN : args.length + 1 ≤ n)
    (hsz : ∀ e ∈ els, e.length = sz) (scal : els'.flatten.all D.scal = true) (scalR : rs.all D.scal = true) (siz : ∀ e ∈ els', e.length = sz)
    (h : ap (Ax.vc P ⟨1, n, Γ⟩ E c ⟨envOf (.c (.own 0 0) :: args) 0, [.row te sz els 0]⟩) (FinR P res.toList te sz els' rs) ⟨⟩) : RFn P Γ f te sz els els' args rs := by
  subst hn hr
  simp only [Bool.and_eq_true, Bool.not_eq_true'] at hok
  exact RFn.of_body hf hok.1 hb hN hsz scal scalR siz (vc_ok hm c _ _ hok.2 h)
/-! ### a call by it -/
def exV (w : World) (ob : Option Nat) (I : Nat → Prop) : Vw := ⟨fun b => if some b = ob then none else w.heap[b]?, I⟩
def ArgR (pm : Pm) (h : List LB) (i : Nat) (α α' : AV) : Prop :=
  ∀ (cx : Cx) (G : Gh) (w : World) (v v0 : Value) (ver : Nat), cx.pm = pm → SatH cx G h w → G.g[i]? = some (v0, ver) → (∀ b, v0.ownBlock = some b → G.V.H b = none ∧ ∀ j bj ej, h[j]? = some bj → bj.live → G.g[j]? = some ej → blkOf ej.1 = some b → j = i) → Ar G α v → Ar ⟨exV w v0.ownBlock G.V.I, []⟩ α' v
theorem exV_le {cx : Cx} {G : Gh} {h : List LB} {w : World} (s : SatH cx G h w) {ob : Option Nat} (hn : ∀ b, ob = some b → G.V.H b = none) : G.V.Le (exV w ob G.V.I) := ⟨fun b o ho => by
  have hne : ¬ (some b = ob) := fun e => by rw [hn b e.symm] at ho; cases ho
  simp only [exV, if_neg hne]; exact s.view b o ho, fun _ h => h⟩
variable {pm : Pm} {h : List LB} {i : Nat}
theorem ArgR.d {x : D} : ArgR pm h i (.c (.d x)) (.c (.d x)) := fun _ _ _ _ _ _ _ s _ hn hv => Dr.mono (exV_le s fun b hb => (hn b hb).1) hv
theorem ArgR.fn {R : Vw → Value → Prop} : ArgR pm h i (.c (.fn R)) (.c (.fn R)) := fun _ _ _ _ _ _ _ s _ hn hv => ⟨hv.1, fun V' hV => hv.2 V' ((exV_le s fun b hb => (hn b hb).1).trans hV)⟩
theorem ArgR.clo0 {f : FuncId} {F : List AV → List RV → Prop} (hcall : CallOk P f) (hF : ∀ args rs, F args rs → AFn P Γ f args rs) : ArgR pm h i (.c (.clo f [])) (.c (.fn (FnSpec P Γ F))) := by
  intro cx G w v v0 ver _ s hg hn hv
  obtain ⟨bs, rfl, hbs⟩ := hv
  cases hbs
  refine ⟨rfl, fun V1 hV1 => ⟨f, #[], rfl, hcall, fun args rs hf V2 w2 vals hV2 hview hargs => ?_⟩⟩
  simpa using (hF args rs hf).run V2 w2 vals hview hargs
theorem ArgR.clo {f : FuncId} {caps : List Nat} {F : List AV → List RV → Prop} {dss : List (List D)} (hcall : CallOk P f) (hcaps : (caps.map fun i => ((h[i]?).bind fun | .box _ cs => toDs cs | _ => none)) = dss.map some) (hne : ∀ j ∈ caps, j ≠ i)
    (hF : ∀ args rs, F args rs → AFn P Γ f (args ++ dss.map fun ds => .c (.ptr ds)) rs) : ArgR pm h i (.c (.clo f caps)) (.c (.fn (FnSpec P Γ F))) := by
  intro cx G w v v0 ver _ s hg0 hn hv
  obtain ⟨bs, rfl, hbs⟩ := hv
  have hle0 := exV_le s fun b hb => (hn b hb).1
  refine ⟨rfl, fun V1 hV1 => ⟨f, _, rfl, hcall, fun args rs hf V2 w2 vals hV2 hview hargs => ?_⟩⟩
  have key : ∀ (caps bs : List Nat) (dss : List (List D)), (∀ j ∈ caps, j ≠ i) → All2 (fun i b => ∃ n, G.g[i]? = some (.pointer (some ⟨b, 0, none⟩), n)) caps bs → (caps.map fun i => ((h[i]?).bind fun | .box _ cs => toDs cs | _ => none)) = dss.map some →
      All2 (Ar ⟨V2, []⟩) (dss.map fun ds => .c (.ptr ds)) (bs.map fun b => Value.pointer (some ⟨b, 0, none⟩)) := by
    intro caps bs dss hne hh
    induction hh generalizing dss with
    | nil => intro e; cases dss with
      | nil => exact .nil
      | cons => simp at e
    | @cons j b caps bs h1 h2 ih =>
      intro e
      cases dss with
      | nil => simp at e
      | cons ds dss =>
        simp only [List.map_cons, List.cons.injEq] at e
        refine .cons ?_ (ih dss (fun j hj => hne j (List.mem_cons_of_mem _ hj)) e.2)
        cases hi : h[j]? with
        | none => simp [hi] at e
        | some lb =>
          cases lb with
          | box t cs =>
            simp [hi] at e
            obtain ⟨b', vs, hg, _, _, hb, hc⟩ := box_at s hi
            obtain ⟨n, hg'⟩ := h1
            rw [hg] at hg'
            have hbb : b' = b := by injection hg' with hg'; injection hg' with hg' _; injection hg' with hg'; injection hg' with hg'; injection hg'
            subst hbb
            rw [toDs_ok _ _ e.1] at hc
            have hd := all2_dr hc
            have hneb : ¬ (some b' = v0.ownBlock) := fun eb => hne j (List.mem_cons_self ..) ((hn b' eb.symm).2 j _ _ hi trivial hg rfl)
            refine ⟨⟨b', 0, none⟩, fun j => vs.getD j undef, rfl, fun j c hj => ?_⟩
            obtain ⟨u, hu, hdu⟩ := hd.get j c hj
            have hle := hV1.trans hV2
            have hblk := hle.H b' _ (show (exV w v0.ownBlock G.V.I).H b' = _ by simp only [exV, if_neg hneb]; exact hb)
            simp only [List.getD, hu, Option.getD_some]
            refine ⟨?_, (hdu.mono hle0).mono hle⟩
            rw [add_plain]
            simp [cellIn, hblk, hu]
          | _ => simp [hi] at e
  have := (hF args rs hf).run V2 w2 (vals ++ bs.map fun b => Value.pointer (some ⟨b, 0, none⟩)) hview (hargs.append (key caps bs dss hne hbs hcaps))
  simpa using this
theorem argsR_ok {cx : Cx} {G : Gh} {w : World} {a : Act} {ρ : Operand → AV} {v0 : Value} {ver : Nat} (s : SatH cx G h w) (hp : cx.pm = pm) (hg : G.g[i]? = some (v0, ver)) (hn : ∀ b, v0.ownBlock = some b → G.V.H b = none ∧ ∀ j bj ej, h[j]? = some bj → bj.live → G.g[j]? = some ej → blkOf ej.1 = some b → j = i) :
    ∀ (as : List Operand) (args' : List AV), All2 (ArgR pm h i) (as.map ρ) args' → (∀ x ∈ as, Ar G (ρ x) (a.eval x)) → All2 (Ar ⟨exV w v0.ownBlock G.V.I, []⟩) args' (as.map a.eval)
  | [], args', hh, _ => by cases hh; exact .nil
  | x :: as, args', hh, hx => by
    cases hh with
    | cons h1 h2 => exact .cons (h1 cx G w _ v0 ver hp s hg hn (hx x (by simp))) (argsR_ok s hp hg hn as _ h2 fun y hy => hx y (by simp [hy]))
end Go.Ax

/- A row's tail: cut again, and appended to (a queue). No condition. -/
namespace Go.Ax
open Go Go.RowKit
variable {P : Program} {pm : Pm} {ops : Array Oper} {rest : List Oper} {st : St} {K : St → Prop} {dst : Option Tmp} {ty : TypeId} {p : String} {af : Array Edge} {gd : Option (Nat × Bool)} {h : List LB} {ρ : Operand → AV}
theorem s_slice_sub (t : TypeId) (x : Operand) (lo hi : Option Operand) {e : TypeId} {sz j ver k m l r : Nat} (hs : slT P t = some (e, sz)) (hx : ρ x = .c (.sub j ver sz k m)) (hj : ∃ te els, h[j]? = some (.row te sz els ver)) (hl : optI ρ lo 0 l) (hr : optI ρ hi m r) (h1 : l ≤ r) (h2 : r ≤ m) :
    Still P h ⟨dst, .slice t x lo hi none, ty, p, af, gd⟩ ρ (.c (.sub j ver sz (k + l) (r - l))) := by
  intro cx G w a sh ho
  obtain ⟨te, els, hj⟩ := hj
  obtain ⟨v0, xs, hg, how, _, _, _⟩ := row_at sh hj
  obtain ⟨_, v0', n', hg', _, hxx⟩ := (hx ▸ ho x (by simp [Op.operands]) : Ar G (.c (.sub j ver sz k m)) (a.eval x))
  rw [hg] at hg'
  cases hg'
  obtain ⟨A, cap, e1, hc, hm, hA, hB⟩ := hxx rfl
  have hrun := run_slice_sl (P := P) hs (A := A) (cap := cap) (fun y hy => ho y (mem_slice_ops hy)) hl hr h1 (by omega) w
  refine ⟨.slice (if cap = l then A else A.map (·.add (l * sz))) (r - l) (cap - l), by simp only [execOp, e1, Option.map_none, Sem.run_bind, hrun, Result.andThen_ok, Sem.run_pure], rfl, _, _, hg, Nat.le_refl _, fun _ => ⟨_, cap - l, rfl, by omega, by omega, fun hpos => ?_, fun b len0 cap0 hv => ?_⟩⟩
  · obtain ⟨b, len0, cap0, hv, rfl⟩ := hA (by omega)
    refine ⟨b, len0, cap0, hv, ?_⟩
    rw [if_neg (by omega)]
    simp [add_plain, Nat.add_mul]
  · obtain ⟨q1, q2, ad, rfl, q3⟩ := hB b len0 cap0 hv
    refine ⟨by omega, by omega, ?_⟩
    by_cases hc : cap = l
    · exact ⟨_, if_pos hc, fun hp => by omega⟩
    · refine ⟨_, if_neg hc, fun _ => ?_⟩
      rw [q3 (by omega)]
      simp [add_plain, Nat.add_mul]
theorem Cr.own_sub {cx : Cx} {G : Gh} {w : World} (s : SatH cx G h w) {i ver : Nat} {te : TypeId} {sz : Nat} {els : List (List D)} (hi : h[i]? = some (.row te sz els ver)) {v : Value} (hv : Cr G (.own i ver) v) : Cr G (.sub i ver sz 0 els.length) v := by
  obtain ⟨v0, xs, hg, how, _, _, _⟩ := row_at s hi
  obtain ⟨h1, v0', n', hg', _, hxx⟩ := hv
  rw [hg] at hg'
  cases hg'
  obtain rfl := hxx rfl
  refine ⟨h1, _, _, hg, Nat.le_refl _, fun _ => ?_⟩
  obtain ⟨A, cap, rfl, hc, hm⟩ := own_form how
  refine ⟨A, cap, rfl, hc, hm, fun hpos => ?_, fun b len0 cap0 hv => ?_⟩
  · obtain ⟨g, cap', hv', _⟩ := own_cells how hpos
    injection hv' with hA _ hcap
    subst hA hcap
    exact ⟨g, _, _, rfl, by simp⟩
  · injection hv with h1' h2' h3'
    subst h1' h2' h3'
    exact ⟨by omega, by omega, _, rfl, fun _ => by simp⟩
theorem Sat.ownSub {cx : Cx} {G : Gh} {a : Act} {w : World} (s : Sat cx G st a w) (k : Nat) {i ver : Nat} {te : TypeId} {sz : Nat} {els : List (List D)} (hk : lk k st.env = .c (.own i ver)) (hi : st.heap[i]? = some (.row te sz els ver)) :
    Sat cx G ⟨pute k (.c (.sub i ver sz 0 els.length)) st.env, st.heap⟩ a w := by
  refine ⟨s.h, fun t => ?_, s.N, s.defers⟩
  rw [lk_put]
  by_cases hkt : k = t
  · subst hkt
    rw [if_pos rfl]
    exact Cr.own_sub s.h hi (hk ▸ s.ev (.tmp k) : Ar G (.c (.own i ver)) (a.tmps.getD k undef))
  · rw [if_neg hkt]; exact s.env t
theorem AXc.ownSub {c : Code} {Q : Exit → St → Prop} (k : Nat) {i ver : Nat} {te : TypeId} {sz : Nat} {els : List (List D)} (hk : lk k st.env = .c (.own i ver)) (hi : st.heap[i]? = some (.row te sz els ver))
    (h : AXc P pm c ⟨pute k (.c (.sub i ver sz 0 els.length)) st.env, st.heap⟩ Q) : AXc P pm c st Q :=
  fun cx G a w hp s => h cx G a w hp (s.ownSub k hk hi)
theorem LoopV.ownSub {E : List Nat} {b : Code} {st : St} {Q : Exit → St → Prop} {t : Tok Q} (k : Nat) {i ver : Nat} {te : TypeId} {sz : Nat} {els : List (List D)} (h : LoopV P pm E b ⟨pute k (.c (.sub i ver sz 0 els.length)) st.env, st.heap⟩ Q ⟨⟩) (hk : lk k st.env = .c (.own i ver) := by rfl) (hi : st.heap[i]? = some (.row te sz els ver) := by rfl) : LoopV P pm E b st Q t :=
  fun hok => AXc.ownSub k hk hi (h hok)
theorem flat_drop {sz : Nat} : ∀ (els : List (List D)) (k : Nat), (∀ e ∈ els, e.length = sz) → (els.drop k).flatten = els.flatten.drop (k * sz)
  | [], k, _ => by simp
  | x :: r, 0, _ => by simp
  | x :: r, k + 1, hl => by
    rw [List.drop_succ_cons, flat_drop r k fun e he => hl e (by simp [he]), List.flatten_cons, Nat.add_mul, Nat.one_mul, Nat.add_comm, ← List.drop_drop]
    have := hl x (by simp)
    rw [List.drop_append_of_le_length (by omega), List.drop_of_length_le (l := x) (by omega), List.nil_append]
theorem AXl.appendTail {t : TypeId} {x y : Operand} {te : TypeId} {sz by_ i ver lo m : Nat} {els news : List (List D)} (ht : apT P t = some (te, sz, by_)) (hx : ev pm.Γ st.env x = .c (.sub i ver sz lo m)) (hi : st.heap[i]? = some (.row te sz els ver))
    (htl : lo + m = els.length) (hpos0 : 0 < els.length) (hn : news ≠ []) (hy : elsOfN sz st.heap (ev pm.Γ st.env y) = some (sz, news)) (hb : (els.length + news.length) * by_ ≤ 140737488355328) (hm : els.length + news.length ≤ 4294967296) (hd : dstOk pm.N dst)
    (hk : ∀ els' lo', els'.drop lo' = els.drop lo ++ news → lo' + (m + news.length) = els'.length → els'.length ≤ els.length + news.length → AXl P pm ops rest (St.put ⟨st.env, st.heap.set i (.row te sz els' (ver + 1))⟩ dst (.c (.sub i (ver + 1) sz lo' (m + news.length)))) K) :
    AXl P pm ops (⟨dst, .call { callee := .builtin .append, args := #[x, y], argTypes := #[t, t] }, ty, p, af, none⟩ :: rest) st K := by
  refine AXl.eff rfl fun cx G a w hp s => ?_
  subst hp
  obtain ⟨hu, hpos, ii, z, hii, hz, h1, h2, h3⟩ := apT_some ht
  obtain ⟨v, xs, hg, how, hob, hdr, hl⟩ := row_at s.h hi
  obtain ⟨_, v0, n', hg', _, hxx⟩ := (hx ▸ s.ev x : Ar G (.c (.sub i ver sz lo m)) (a.eval x))
  rw [hg] at hg'
  cases hg'
  obtain ⟨A, cap, e1, hc, hmx, hA, hB⟩ := hxx rfl
  have hsl : SlAt G.V w sz news (a.eval y) := slAt_ofN s.h hy (s.ev y)
  obtain ⟨A2, cap2, ys, e2, hys, hyl, hyc0⟩ := hsl.row hpos
  have hlnews : ∀ e ∈ news, e.length = sz := by obtain ⟨_, _, _, _, _, _, hl, _⟩ := hsl.form; exact hl
  obtain ⟨ad, rfl, hyc⟩ := hyc0 hn
  clear hyc0
  have h1c : ∀ u ∈ ys, u.oneCell' = true := fun u hu => by
    obtain ⟨j, hj, e⟩ := List.mem_iff_getElem.1 hu
    obtain ⟨d, _, hd⟩ := hys.getR j u (by rw [List.getElem?_eq_getElem hj, e])
    exact hd.one
  have hnp : 0 < news.length := List.length_pos_iff.2 hn
  have f1 := row_form how
  have hHnone : G.V.H w.heap.size = none := by
    cases e : G.V.H w.heap.size with
    | none => rfl
    | some o => have := heap_lt (s.h.view _ _ e); omega
  rcases how.2 with ⟨rfl, h0⟩ | ⟨g, cap0, cur, rfl, hbg, hgc, hnc, hcm, hcs, htake⟩
  · omega
  obtain ⟨q1, q2, a', rfl, q3⟩ := hB g els.length cap0 rfl
  have hxl : xs.length = els.length * sz := how.1
  by_cases hroom : m + news.length ≤ cap
  · -- in place
    have ea := q3 (by omega)
    subst ea
    obtain ⟨w', hr, how', hgr⟩ := run_append_own_spare (P := P) w cx.w0.heap.size t ty te ii sz hu hii h1 g els.length cap0 xs how ad news.length cap2 ys hyl hyc h1c (by omega)
    have hcell : ∀ off, off = lo * sz + m * ii.size → (∀ j, j < ys.length → (w.cell? ⟨g, off + j, none⟩).isSome = true) ∧ ∀ j, j < ys.length → w.frozen? ⟨g, off + j, none⟩ = false := fun off ho => by
      have hlt : ∀ j, j < ys.length → off + j < cur.size := fun j hj => by
        have h4 : (els.length + news.length) * sz ≤ cap0 * sz := Nat.mul_le_mul_right _ (by omega)
        rw [h1, ← Nat.add_mul, htl] at ho
        rw [Nat.add_mul] at h4
        omega
      refine ⟨fun j hj => ?_, fun j hj => ?_⟩
      · have := hlt j hj
        simp [World.cell?, hgc, this]
      · simp [World.frozen?, hgc]
    have he0 : 0 + els.length * ii.size = lo * sz + m * ii.size := by rw [h1, ← Nat.add_mul, htl]; omega
    have r0 := run_append_room_cells (P := P) w t ty te ii hu hii g 0 els.length cap0 ad news.length cap2 ys (by rw [h1]; exact hyl) hyc h1c (by omega) (hcell _ he0).1 (hcell _ he0).2
    have r1 := run_append_room_cells (P := P) w t ty te ii hu hii g (lo * sz) m cap ad news.length cap2 ys (by rw [h1]; exact hyl) hyc h1c hroom (hcell _ rfl).1 (hcell _ rfl).2
    rw [he0] at r0
    rw [hr] at r0
    injection r0 with _ ew
    rw [← ew] at r1
    have f2 := row_form how'
    have hL : ∀ G' : Gh, G'.V = G.V → Lr G' w' cx.w0.heap.size (.row te sz (els ++ news) (ver + 1)) (.slice (some ⟨g, 0, none⟩) (els.length + news.length) cap0, ver + 1) := fun G' hV => by
      refine ⟨rfl, xs ++ ys, by simpa using how', fun b hb => ?_, by rw [hV, List.flatten_append]; exact hdr.append hys, fun e he => ?_⟩
      · rw [hV]; exact hob b hb
      · rcases List.mem_append.1 he with h | h
        · exact hl e h
        · exact hlnews e h
    obtain ⟨hG, s'⟩ := s.h.move (w' := w') (v' := .slice (some ⟨g, 0, none⟩) (els.length + news.length) cap0) (n' := ver + 1) (lb' := .row te sz (els ++ news) (ver + 1)) hi trivial hg (by omega) f1.1 f1.2.1 f2.2.1 hgr (.inl rfl) f1.2.2.1 hL
    refine ⟨.slice (some ⟨g, lo * sz, none⟩) (m + news.length) cap, w', _, _, .inl ?_, (s.step hG s').put (α := .c (.sub i (ver + 1) sz lo (m + news.length))) ⟨rfl, _, ver + 1, by simp [getElem?_lt hg], Nat.le_refl _, fun _ => ⟨_, cap, rfl, hroom, hmx, fun _ => ⟨g, els.length + news.length, cap0, rfl, rfl⟩, fun b l0 c0 hv => ?_⟩⟩ hd, hk (els ++ news) lo (by rw [List.drop_append_of_le_length (by omega)]) (by rw [List.length_append]; omega) (by rw [List.length_append]; exact Nat.le_refl _)⟩
    · simp [execOp, resolve, invoke, builtin, e1, e2, r1]
    · injection hv with h1' h2' h3'
      injection h1' with h1'
      injection h1' with h1'
      subst h1' h3'
      exact ⟨by omega, q2, _, rfl, fun _ => rfl⟩
  · -- a new row
    have hold : ∀ j u, (xs.drop (lo * sz))[j]? = some u → w.cell? (a'.add j) = some u := fun j u hj => by
      have hjl := getElem?_lt hj
      rw [List.length_drop] at hjl
      rw [List.getElem?_drop] at hj
      have hlm : lo * sz + m * sz = els.length * sz := by rw [← Nat.add_mul, htl]
      have hmp : 0 < m := by
        rcases Nat.eq_zero_or_pos m with e | e
        · rw [e, Nat.zero_mul, Nat.add_zero] at hlm
          rw [hxl, hlm, Nat.sub_self] at hjl
          exact absurd hjl (Nat.not_lt_zero _)
        · exact e
      have ea := q3 (by omega)
      subst ea
      rw [← htake, List.getElem?_take] at hj
      split at hj
      · rw [add_plain]
        simp only [World.cell?, hgc, Option.isSome_none, Bool.false_eq_true, if_false]
        simpa using hj
      · cases hj
    have hol : (xs.drop (lo * sz)).length = m * ii.size := by
      rw [List.length_drop, hxl, h1, ← htl, Nat.add_mul]; omega
    have hsmall : els.length + news.length ≤ maxLen := by unfold maxLen; omega
    have hbb : (m + news.length) * ii.bytes ≤ 140737488355328 := by
      refine Nat.le_trans (Nat.mul_le_mul_right _ (by omega : m + news.length ≤ els.length + news.length)) ?_
      rw [h2]; exact hb
    have hr := run_append_grow (P := P) w t ty te ii z hu hii hz a' m cap (xs.drop (lo * sz)) hol hold ad news.length cap2 ys (by rw [h1]; exact hyl) hyc (by omega) (by omega) (growslice_fits (by omega) hbb)
    generalize hw' : (w.drew.alloc _) = w' at hr
    have hge := grownCap_ge w (m + news.length) cap te
    have hcm2 : grownCap w (m + news.length) cap te ≤ maxLen := grownCap_le_maxLen w (m + news.length) cap te (by unfold maxLen; omega)
    have hlen : (xs.drop (lo * sz) ++ ys).length = (m + news.length) * sz := by rw [List.length_append, hol, hyl, h1, Nat.add_mul]
    have how' : w'.ownsRow cx.w0.heap.size te sz (.slice (some ⟨w.heap.size, 0, none⟩) (m + news.length) (grownCap w (m + news.length) cap te)) (m + news.length) (xs.drop (lo * sz) ++ ys) := by
      subst hw'
      refine ⟨hlen, .inr ⟨w.heap.size, _, _, rfl, s.h.below.size, heap_alloc_new w.drew _, hge, hcm2, ?_, ?_⟩⟩
      · simp only [Array.size_append, List.size_toArray, size_zeroCells, h3, hol, hyl, h1]
        rw [← Nat.add_mul, ← Nat.add_mul]
        congr 1
        omega
      · simp only [Array.toList_append, List.append_assoc]
        rw [← List.append_assoc, ← hlen]
        exact List.take_left
    have hgr : w.grownBy w' (some g) := by
      subst hw'
      exact ⟨rfl, rfl, rfl, by simp, fun k hk _ => Go.heap_alloc_old w.drew _ hk⟩
    have f2 := row_form how'
    have hdl : (els.drop lo).length = m := by rw [List.length_drop]; omega
    have hL : ∀ G' : Gh, G'.V = G.V → Lr G' w' cx.w0.heap.size (.row te sz (els.drop lo ++ news) (ver + 1)) (.slice (some ⟨w.heap.size, 0, none⟩) (m + news.length) (grownCap w (m + news.length) cap te), ver + 1) := fun G' hV => by
      refine ⟨rfl, xs.drop (lo * sz) ++ ys, by rw [List.length_append, hdl]; exact how', fun b hb => ?_, by rw [hV, List.flatten_append, flat_drop els lo hl]; exact (hdr.drop _).append hys, fun e he => ?_⟩
      · rw [hV]
        simp only [Value.ownBlock, Option.some.injEq] at hb
        rw [← hb]; exact hHnone
      · rcases List.mem_append.1 he with h | h
        · exact hl e (List.mem_of_mem_drop h)
        · exact hlnews e h
    obtain ⟨hG, s'⟩ := s.h.move (w' := w') (v' := .slice (some ⟨w.heap.size, 0, none⟩) (m + news.length) (grownCap w (m + news.length) cap te)) (n' := ver + 1) (lb' := .row te sz (els.drop lo ++ news) (ver + 1)) hi trivial hg (by omega) f1.1 f1.2.1 f2.2.1 hgr (.inr rfl) f1.2.2.1 hL
    refine ⟨.slice (some ⟨w.heap.size, 0, none⟩) (m + news.length) (grownCap w (m + news.length) cap te), w', _, _, .inl ?_, (s.step hG s').put (α := .c (.sub i (ver + 1) sz 0 (m + news.length))) ⟨rfl, _, ver + 1, by simp [getElem?_lt hg], Nat.le_refl _, fun _ => ⟨_, _, rfl, hge, hcm2, fun _ => ⟨w.heap.size, m + news.length, grownCap w (m + news.length) cap te, rfl, by simp⟩, fun b l0 c0 hv => ?_⟩⟩ hd, hk (els.drop lo ++ news) 0 (by simp) (by rw [List.length_append, hdl]; omega) (by rw [List.length_append, hdl]; omega)⟩
    · simp [execOp, resolve, invoke, builtin, e1, e2, hr]
    · injection hv with h1' h2' h3'
      injection h1' with h1'
      injection h1' with h1'
      subst h1' h3'
      exact ⟨by omega, by omega, _, rfl, fun _ => by simp⟩
end Go.Ax
