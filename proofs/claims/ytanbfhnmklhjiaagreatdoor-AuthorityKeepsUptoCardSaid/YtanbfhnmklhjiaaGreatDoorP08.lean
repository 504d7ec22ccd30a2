/- Part of a proof about this program; no condition of its own. -/
import Derived.Test.YtanbfhnmklhjiaaGreatDoorP07
set_option linter.all false
/-
  Calls: by contract, through a function value, and walked in place. No condition.
-/
namespace Go.Ax
open Go Go.RowKit
variable {P : Program} {Γ : List (Nat × List D)}
def rvAV : RV → AV
  | .d x => .c (.d x)
  | .agg ds => .agg (ds.map C.d)
  | .fresh _ sz els => .c (.d (.lst sz els))
def rsAV : List RV → AV
  | [r] => rvAV r
  | rs => .tup (rs.map rvAV)
theorem after_all {cx : Cx} {G : Gh} {h : List LB} {w w' : World} (s : SatH cx G h w) {rs : List RV} {e : Ending} (ha : After ⟨fun b => w.heap[b]?, G.V.I⟩ w rs e w') :
    ∃ (G' : Gh) (vs : List Value), e = .returned (tupV vs) ∧ GLe G.g.length G G' ∧ SatH cx G' h w' ∧ All2 (fun r v => Wr G' (rvAV r) v) rs vs := by
  obtain ⟨V', vs, rfl, hle, hview, himm, hrs, hb⟩ := ha
  let V2 : Vw := ⟨fun b => if b < w.heap.size then G.V.H b else w'.heap[b]?, fun b => G.V.I b ∨ (w.heap.size ≤ b ∧ b < w'.heap.size)⟩
  have hV : G.V.Le V2 := ⟨fun b o ho => by
    have := heap_lt (s.view b o ho)
    simp only [V2, if_pos this, ho], fun b hb => .inl hb⟩
  have hG : GLe G.g.length G ⟨V2, G.g⟩ := ⟨hV, fun i v n _ e => ⟨v, n, e, Nat.le_refl _, fun _ => rfl, fun _ => ⟨rfl, rfl⟩⟩⟩
  have s1 := s.later hb
  have hsat : SatH cx ⟨V2, G.g⟩ h w' := by
    refine ⟨s1.len, fun i b e hi he => ?_, s1.sep, fun b o ho => ?_, fun b hb' => ?_, s1.below, s1.ext.trans (hG.all _), fun q hq => (s1.glob q hq).grow hG, s1.sz⟩
    · refine Lr.mono' hG ?_ (s1.ent i b e hi he)
      intro k hlv hk
      have := (s.ent i b e hi he).blk hlv hk
      simp only [V2, if_pos this.2.1]
      exact this.2.2
    · simp only [V2] at ho
      split at ho
      · exact s1.view b o ho
      · exact ho
    · rcases hb' with hb' | hb'
      · obtain ⟨⟨o, h1⟩, h2⟩ := s1.imm b hb'
        exact ⟨⟨o, hV.H b o h1⟩, h2⟩
      · have hnl : ¬ b < w.heap.size := by omega
        refine ⟨⟨w'.heap[b]'hb'.2, ?_⟩, .inr (Nat.le_trans s.below.size hb'.1)⟩
        simp only [V2, if_neg hnl]
        exact Array.getElem?_eq_getElem hb'.2
  have hdr : ∀ {x : D} {v : Value}, Dr V' x v → Dr V2 x v := fun hd => hd.move (fun b hb' => by
      obtain ⟨⟨o, h1⟩, h2⟩ := himm b hb'
      exact h2.imp id fun h => ⟨h, heap_lt (hview b o h1)⟩) (fun b o hb' ho => by
      simp only [V2]
      split
      · next hlt =>
        rcases (himm b hb').2 with h2 | h2
        · obtain ⟨⟨o', h1⟩, _⟩ := s.imm b h2
          have e1 := s.view b o' h1
          have e2 := hview b o ho
          rw [hb.block b hlt, e1] at e2
          rw [h1]; exact e2
        · omega
      · exact hview b o ho)
  refine ⟨⟨V2, G.g⟩, vs, rfl, hG, hsat, hrs.imp fun r v hr => ?_⟩
  cases r with
  | d x => exact hdr hr
  | agg ds =>
    obtain ⟨us, rfl, hus⟩ := hr
    exact ⟨us, rfl, All2.map_left (f := C.d) (R := Cr _) (hus.imp fun _ _ hd => hdr hd)⟩
  | fresh t sz els =>
    obtain ⟨xs, how, _, hd, hl⟩ := hr
    obtain ⟨A, cap, rfl, hc, hm⟩ := own_form how
    show Dr V2 _ _
    refine .lst sz els A cap (fun i j => xs.getD (i * sz + j) undef) hc hm hl (fun hn => ?_) (fun i e j c h1 h2 => ?_)
    · have hpos : 0 < els.length := List.length_pos_iff.2 hn
      obtain ⟨g, cap', hv', hbg, _, _, hcell⟩ := own_cells how hpos
      injection hv' with hA _ _
      subst hA
      have hglt : g < w'.heap.size := by
        obtain ⟨_, ⟨e, _⟩ | ⟨g', cap'', cur, e, _, hh, _⟩⟩ := how
        · cases e
        · cases e; exact heap_lt hh
      refine ⟨⟨g, 0, none⟩, rfl, .inr ⟨hbg, hglt⟩, fun i e j c h1 h2 => ?_⟩
      obtain ⟨u, hb1, hb2⟩ := hd.get _ _ (flat_get els hl i e j c h1 h2)
      have hq := hcell _ u hb1
      rw [add_plain, Nat.zero_add]
      have hnl : ¬ g < w.heap.size := by omega
      have : cellIn V2.H ⟨g, i * sz + j, none⟩ = cellIn (fun b => w'.heap[b]?) ⟨g, i * sz + j, none⟩ := by
        simp only [cellIn, V2, if_neg hnl]
      rw [this, cellIn_world, hq]
      simp [hb1]
    · obtain ⟨u, hb1, hb2⟩ := hd.get _ _ (flat_get els hl i e j c h1 h2)
      simpa [hb1] using hdr hb2
theorem rsAV_ok {G : Gh} {rs : List RV} {vs : List Value} (h : All2 (fun r v => Wr G (rvAV r) v) rs vs) : Ar G (rsAV rs) (tupV vs) := by
  have hm : ∀ {rs : List RV} {vs : List Value}, All2 (fun r v => Wr G (rvAV r) v) rs vs → All2 (Wr G) (rs.map rvAV) vs := fun h => h.map_left
  match rs, vs, h with
  | [], [], _ => exact ⟨[], rfl, .nil⟩
  | [r], [v], .cons h1 _ =>
    show Ar G (rvAV r) v
    cases r <;> exact h1
  | r :: r' :: rs, v :: v' :: vs, h => exact ⟨v :: v' :: vs, rfl, hm h⟩
theorem viewOk_of {cx : Cx} {G : Gh} {h : List LB} {w : World} (s : SatH cx G h w) (hΓ : cx.pm.Γ = Γ) : ViewOk Γ ⟨fun b => w.heap[b]?, G.V.I⟩ w :=
  ⟨fun _ _ h => h, fun b hb => by obtain ⟨⟨o, h1⟩, _⟩ := s.imm b hb; exact ⟨o, s.view b o h1⟩, fun p hp => by
    obtain ⟨⟨ad, u, e, hc⟩, cc, tt, fr, hh, hz⟩ := s.glob p (hΓ ▸ hp)
    exact ⟨⟨ad, u, e, fun j c hj => ⟨cellIn_le (fun o => s.view _ o) (hc j c hj).1, (hc j c hj).2.mono s.le⟩⟩, cc, tt, fr, s.view _ _ hh, hz⟩⟩
variable {pm : Pm} {ops : Array Oper} {rest : List Oper} {st : St} {K : St → Prop} {dst : Option Tmp} {ty : TypeId} {p : String} {af : Array Edge} {gd : Option (Nat × Bool)} {h : List LB} {ρ : Operand → AV}
theorem args_ok {cx : Cx} {G : Gh} {w : World} {a : Act} (s : SatH cx G h w) (hp : cx.pm = pm) : ∀ (as : List Operand) (args' : List AV), All2 (ArgOk pm h) (as.map ρ) args' → (∀ x ∈ as, Ar G (ρ x) (a.eval x)) → All2 (Ar ⟨⟨fun b => w.heap[b]?, G.V.I⟩, []⟩) args' (as.map a.eval)
  | [], args', hh, _ => by cases hh; exact .nil
  | x :: as, args', hh, hx => by
    cases hh with
    | cons h1 h2 => exact .cons (h1 cx G w _ hp s (hx x (by simp))) (args_ok s hp as _ h2 fun y hy => hx y (by simp [hy]))
theorem q_callfn {t : Operand} {as : List Operand} {ts : Array TypeId} {args' : List AV} {rs : List RV} {F : List AV → List RV → Prop} (ht : ρ t = .c (.fn (FnSpec P pm.Γ F))) (hF : F args' rs) (ha : All2 (ArgOk pm h) (as.map ρ) args') :
    Qt P pm h ⟨dst, .call { callee := .value t, args := as.toArray, argTypes := ts }, ty, p, af, gd⟩ ρ (rsAV rs) := by
  intro cx G w a hp s ho next Q hn
  have hargs := args_ok (a := a) s hp as args' ha fun x hx => ho x (by simp [Op.operands, Call.operands, hx])
  have hv := ho t (by simp [Op.operands, Call.operands])
  rw [ht] at hv
  obtain ⟨f, caps, e, hcall, hsp⟩ := hv.2 _ s.le
  have hr : (execOp a.eval ⟨dst, .call { callee := .value t, args := as.toArray, argTypes := ts }, ty, p, af, gd⟩).run P w = .ok (.enter f ((as.map a.eval).toArray ++ caps)) w := by
    simp [execOp, resolve, Deferred.ofValue, e, invoke, run_callFunc hcall]
  unfold Oper.wp
  rw [hr]
  refine (hsp args' rs hF _ w _ (Vw.Le.refl _) (viewOk_of s (by rw [hp])) hargs).mono fun e w' hafter => ?_
  obtain ⟨G', vs, rfl, hG, s', hrs⟩ := after_all s hafter
  exact hn _ _ G' hG s' (rsAV_ok hrs)
theorem AXl.call_own {f : FuncId} {x : Operand} {as : List Operand} {ts : Array TypeId} {args' : List AV} {te : TypeId} {sz : Nat} {els : List (List D)} (hx : ev pm.Γ st.env x = .c (.clo f [])) (hc : AFn P pm.Γ f args' [.fresh te sz els]) (ha : All2 (ArgOk pm st.heap) (as.map (ev pm.Γ st.env)) args') (hd : dstOk pm.N dst)
    (hk : AXl P pm ops rest (St.put ⟨st.env, st.heap ++ [.row te sz els 0]⟩ dst (.c (.own st.heap.length 0))) K) :
    AXl P pm ops (⟨dst, .call { callee := .value x, args := as.toArray, argTypes := ts }, ty, p, af, none⟩ :: rest) st K := by
  intro cx G a w Q hp s hQ
  refine wpList_plain rfl fun K' hK' => ?_
  have hargs := args_ok (a := a) s.h hp as args' ha fun x _ => hp ▸ s.ev x
  have hxv : Ar G (.c (.clo f [])) (a.eval x) := by rw [← hx, ← hp]; exact s.ev x
  obtain ⟨bs, hxe, hbs⟩ := hxv
  cases hbs
  have hr : (execOp a.eval ⟨dst, .call { callee := .value x, args := as.toArray, argTypes := ts }, ty, p, af, none⟩).run P w = .ok (.enter f (as.map a.eval).toArray) w := by
    simp [execOp, resolve, Deferred.ofValue, hxe, invoke, run_callFunc hc.call]
  unfold Oper.wp
  rw [hr]
  refine (hc.run _ w _ (viewOk_of s.h (by rw [hp])) hargs).mono fun e w' hafter => ?_
  obtain ⟨V', vs, rfl, hle, hview, himm, hrs, hb⟩ := hafter
  cases hrs with
  | @cons _ v _ vs hrow ht =>
  cases ht
  obtain ⟨xs, how, hob, hd2, hl⟩ := hrow
  have s0 := s.h
  let V2 : Vw := ⟨fun b => if b < w.heap.size then G.V.H b else V'.H b, fun b => G.V.I b ∨ (w.heap.size ≤ b ∧ V'.I b)⟩
  have hV : G.V.Le V2 := ⟨fun b o ho => by
    have := heap_lt (s0.view b o ho)
    simp only [V2, if_pos this, ho], fun b hb => .inl hb⟩
  have hG : GLe G.g.length G ⟨V2, G.g⟩ := ⟨hV, fun i v n _ e => ⟨v, n, e, Nat.le_refl _, fun _ => rfl, fun _ => ⟨rfl, rfl⟩⟩⟩
  have s1 := s0.later hb
  have hsat : SatH cx ⟨V2, G.g⟩ st.heap w' := by
    refine ⟨s1.len, fun i b e hi he => ?_, s1.sep, fun b o ho => ?_, fun b hb' => ?_, s1.below, s1.ext.trans (hG.all _), fun q hq => (s1.glob q hq).grow hG, s1.sz⟩
    · refine Lr.mono' hG ?_ (s1.ent i b e hi he)
      intro k hlv hk
      have := (s0.ent i b e hi he).blk hlv hk
      simp only [V2, if_pos this.2.1]
      exact this.2.2
    · simp only [V2] at ho
      split at ho
      · exact s1.view b o ho
      · exact hview b o ho
    · rcases hb' with hb' | hb'
      · obtain ⟨⟨o, h1⟩, h2⟩ := s1.imm b hb'
        exact ⟨⟨o, hV.H b o h1⟩, h2⟩
      · have hnl : ¬ b < w.heap.size := by omega
        obtain ⟨⟨o, h1⟩, _⟩ := himm b hb'.2
        refine ⟨⟨o, ?_⟩, .inr (Nat.le_trans s0.below.size hb'.1)⟩
        simp only [V2, if_neg hnl]
        exact h1
  have hdr : ∀ {x : D} {v : Value}, Dr V' x v → Dr V2 x v := fun hd => hd.move (fun b hb' => by
      obtain ⟨⟨o, h1⟩, h2⟩ := himm b hb'
      rcases h2 with h2 | h2
      · exact .inl h2
      · exact .inr ⟨h2, hb'⟩) (fun b o hb' ho => by
      simp only [V2]
      split
      · next hlt =>
        rcases (himm b hb').2 with h2 | h2
        · obtain ⟨⟨o', h1⟩, _⟩ := s0.imm b h2
          have e1 := s0.view b o' h1
          have e2 := hview b o ho
          rw [hb.block b hlt, e1] at e2
          rw [h1]; exact e2
        · omega
      · exact ho)
  have hf := row_form how
  have how' : w'.ownsRow cx.w0.heap.size te sz v els.length xs := by
    obtain ⟨hxl, h1 | ⟨g, cap, cur, e, hg, r⟩⟩ := how
    · exact ⟨hxl, .inl h1⟩
    · exact ⟨hxl, .inr ⟨g, cap, cur, e, Nat.le_trans s0.below.size hg, r⟩⟩
  have hbase : ∀ k, blkOf v = some k → w.heap.size ≤ k := fun k hk => by
    obtain ⟨hxl, ⟨e, _⟩ | ⟨g, cap, cur, e, hg, r⟩⟩ := how
    · rw [e] at hk; cases hk
    · rw [e] at hk; cases hk; exact hg
  have s2 := hsat.push v 0 (.row te sz els 0) ⟨rfl, xs, how', fun b hb' => by
      have hk := hf.2.2.1 b hb'
      have := hbase b hk
      have hnl : ¬ b < w.heap.size := by omega
      simp only [V2, if_neg hnl]
      exact hob b hb', hd2.imp fun _ _ hdd => hdr hdd, hl⟩ (fun k hk i b e hi hlv he hk' => by
      have h1 := ((s0.ent i b e hi he).blk hlv hk').2.1
      have h2 := hbase k hk
      omega)
  refine hK' _ _ (hk cx ⟨V2, G.g ++ [(v, 0)]⟩ _ w' Q hp ?_ hQ)
  have s3 := s.step hG hsat
  exact s3.pushed s2 (α := .c (.own st.heap.length 0)) ⟨hf.2.2.2, v, 0, get_last _ _ s0.len.symm, Nat.le_refl _, fun _ => rfl⟩ (hp ▸ hd)
/-! ### a call walked in place -/
def AV.flat : AV → Bool
  | .tup _ => false
  | _ => true
theorem AV.flat_wr {G : Gh} {α : AV} {v : Value} (h : α.flat = true) (hr : Ar G α v) : Wr G α v := by
  cases α <;> first | exact hr | (cases h)
def inRes (P : Program) (st : St) : List ResultVar → Option AV
  | [r] => resAV P st r
  | rs => match resAVs P st rs with
    | some αs => if αs.all AV.flat = true ∧ αs.length ≠ 1 then some (.tup αs) else none
    | none => none
theorem AXl.inline {f : FuncId} {fn : Func} {c : Code} {x : Operand} {as : List Operand} {ts : Array TypeId} {caps : List Nat} (hf : P.funcs[f]? = some fn) (hname : (fn.name == "runtime.NumGoroutine") = false) (hb : fn.body = some c) (hx : ev pm.Γ st.env x = .c (.clo f caps))
    (hN : as.length + caps.length ≤ fn.ntmps) (hd : dstOk pm.N dst)
    (hk : AXc P ⟨st.heap.length, fn.ntmps, pm.Γ⟩ c ⟨envOf (as.map (ev pm.Γ st.env) ++ caps.map fun i => .c (.loc i 0)) 0, st.heap⟩ (fun e st' => (e = .ret ∨ e = .normal) ∧ ∃ α, inRes P st' fn.results.toList = some α ∧ AXl P pm ops rest (St.put ⟨st.env, st'.heap⟩ dst α) K)) :
    AXl P pm ops (⟨dst, .call { callee := .value x, args := as.toArray, argTypes := ts }, ty, p, af, none⟩ :: rest) st K := by
  intro cx G a w Q hp s hQ
  subst hp
  refine wpList_plain rfl fun K' hK' => ?_
  have hcall : CallOk P f := ⟨fn, hf, hname, by rw [hb]; rfl⟩
  obtain ⟨bs, hv, hbs⟩ := (hx ▸ s.ev x : Ar G (.c (.clo f caps)) (a.eval x))
  let vals : List Value := as.map a.eval ++ bs.map fun b => Value.pointer (some ⟨b, 0, none⟩)
  have hr : (execOp a.eval ⟨dst, .call { callee := .value x, args := as.toArray, argTypes := ts }, ty, p, af, none⟩).run P w = .ok (.enter f vals.toArray) w := by
    simp [execOp, resolve, Deferred.ofValue, hv, invoke, run_callFunc hcall, vals]
  unfold Oper.wp
  rw [hr]
  refine calls_of_wp hf hb ?_
  have hargs : All2 (Ar G) (as.map (ev cx.pm.Γ st.env) ++ caps.map fun i => .c (.loc i 0)) vals := by
    refine All2.append ?_ ?_
    · clear hk hN hr
      induction as with
      | nil => exact .nil
      | cons y as ih => exact .cons (s.ev y) ih
    · clear hk hN hr hv vals hx
      induction hbs with
      | nil => exact .nil
      | cons h1 h2 ih => obtain ⟨n, hg⟩ := h1; exact .cons ⟨_, n, hg, rfl⟩ ih
  have hl := hargs.length
  let cx' : Cx := ⟨⟨st.heap.length, fn.ntmps, cx.pm.Γ⟩, cx.w0, cx.S, G, [], cx.s0⟩
  have sat : Sat cx' G ⟨envOf (as.map (ev cx.pm.Γ st.env) ++ caps.map fun i => .c (.loc i 0)) 0, st.heap⟩ { tmps := vals.toArray ++ Array.replicate (fn.ntmps - vals.toArray.size) undef, defers := [] } w := by
    refine ⟨⟨s.h.len, s.h.ent, s.h.sep, s.h.view, s.h.imm, s.h.below, .refl _ _, s.h.glob, s.h.sz⟩, envOf_ok hargs _, ?_, rfl⟩
    · have : vals.length ≤ fn.ntmps := by rw [← hl]; simpa using hN
      simp [cx']; omega
  refine wp_mono (hk cx' G _ w rfl sat).1 ?_
  rintro e a' w' ⟨G', st', s', he, α, h1, h2⟩
  have hG : GLe G.g.length G G' := by rw [s.h.len]; exact s'.h.ext
  have hres : ∃ v, (results fn a'.tmps).run P w' = .ok v w' ∧ Ar G' α v := by
    unfold inRes at h1
    split at h1
    · next r hrr =>
      have : resAVs P st' fn.results.toList = some [α] := by rw [hrr]; simp [resAVs, h1]
      obtain ⟨vs, q1, q2⟩ := run_results s' this
      cases q2 with
      | cons h1 h2 => cases h2; exact ⟨_, q1, h1⟩
    · split at h1
      · next αs hrr =>
        split at h1
        · next hfl =>
          cases h1
          obtain ⟨vs, q1, q2⟩ := run_results s' hrr
          refine ⟨_, q1, ?_⟩
          have hlen := q2.length
          have hw : All2 (Wr G') αs vs := q2.imp' fun α v hm hr => AV.flat_wr (List.all_eq_true.1 hfl.1 α hm) hr
          refine ⟨vs, ?_, hw⟩
          match vs, hlen with
          | [], _ => rfl
          | [u], hlen => exact absurd hlen hfl.2
          | u :: u' :: r, _ => rfl
        · cases h1
      · cases h1
  obtain ⟨v, hrun, hα⟩ := hres
  have hsat' : SatH cx G' st'.heap w' := ⟨s'.h.len, s'.h.ent, s'.h.sep, s'.h.view, s'.h.imm, s'.h.below, s.h.ext.trans (hG.all _), s'.h.glob, s'.h.sz⟩
  have fin := hK' _ _ (h2 cx G' _ w' Q rfl ((s.step hG hsat').put hα hd) hQ)
  rcases he with rfl | rfl
  · exact ⟨s'.defers, v, hrun, fin⟩
  · exact ⟨s'.defers, v, hrun, fin⟩
end Go.Ax

/-
  Guarded operations; a region that draws its order: walked once, in the order of the text. No condition.
-/
namespace Go.Ax
open Go Go.RowKit
variable {P : Program} {pm : Pm} {ops : Array Oper} {rest : List Oper} {st : St} {K : St → Prop} {h : List LB}
def wantedA (ops : Array Oper) (o : Oper) (ρ : Env) : Option Bool :=
  match o.guard with
  | none => some true
  | some (j, want) => match (ops[j]?).bind (·.dst) with
    | some d => match lk d ρ with
      | .c (.d (.bool b)) => some (b == want)
      | .tup [] => some false
      | _ => none
    | none => none
abbrev U : AV := .tup []
theorem U_ok {G : Gh} : Ar G U undef := ⟨[], rfl, .nil⟩
theorem ar_undef {G : Gh} {v : Value} (h : Ar G (.tup []) v) : v = undef := by
  obtain ⟨us, rfl, hu⟩ := h
  cases hu; rfl
theorem wanted_of {G : Gh} {o : Oper} {ρ : Env} {a : Act} {b : Bool} (hw : wantedA ops o ρ = some b) (hd : ∀ j want d, o.guard = some (j, want) → (ops[j]?).bind (·.dst) = some d → d < a.tmps.size ∧ Ar G (lk d ρ) (a.tmps.getD d undef)) :
    Region.wanted o (yielded ops a.tmps) = b := by
  unfold wantedA at hw
  unfold Region.wanted
  split at hw
  · next e => cases hw; simp [e]
  · next j want e =>
    split at hw
    · next d hdd =>
      split at hw
      · next c hlk =>
        cases hw
        obtain ⟨h1, h2⟩ := hd j want d e hdd
        rw [hlk] at h2
        have hv := ar_bool h2
        have : a.tmps[d]? = some (.bool c) := by
          rw [Array.getElem?_eq_getElem h1]
          rw [← hv]
          simp [Array.getD, h1]
        simp only [e, yielded, hdd, Option.bind_some, this]
        rw [Bool.eq_iff_iff]
        simp
      · next hlk =>
        cases hw
        obtain ⟨h1, h2⟩ := hd j want d e hdd
        rw [hlk] at h2
        have hv := ar_undef h2
        have : a.tmps[d]? = some undef := by
          rw [Array.getElem?_eq_getElem h1]
          rw [← hv]
          simp [Array.getD, h1]
        simp [e, yielded, hdd, this, undef]
      · cases hw
    · cases hw
theorem Sat.guard {cx : Cx} {G : Gh} {a : Act} {w : World} (s : Sat cx G st a w) {o : Oper} {b : Bool} (hw : wantedA ops o st.env = some b) (hN : ∀ j want d, o.guard = some (j, want) → (ops[j]?).bind (·.dst) = some d → d < cx.pm.N) : Region.wanted o (yielded ops a.tmps) = b :=
  wanted_of hw fun j want d h1 h2 => ⟨by rw [s.N]; exact hN j want d h1 h2, s.ev (.tmp d)⟩
def gdOk (ops : Array Oper) (N : Nat) (o : Oper) : Bool :=
  match o.guard with
  | none => true
  | some (j, _) => match (ops[j]?).bind (·.dst) with
    | some d => decide (d < N)
    | none => true
theorem gdOk_spec {N : Nat} {o : Oper} (h : gdOk ops N o = true) : ∀ j want d, o.guard = some (j, want) → (ops[j]?).bind (·.dst) = some d → d < N := by
  intro j want d h1 h2
  unfold gdOk at h
  rw [h1] at h
  simp only [h2] at h
  exact of_decide_eq_true h
theorem AXl.skip_guard {o : Oper} (hd : dstOk pm.N o.dst) (hw : wantedA ops o st.env = some false) (hg : gdOk ops pm.N o = true) (hk : AXl P pm ops rest (st.put o.dst U) K) : AXl P pm ops (o :: rest) st K := by
  intro cx G a w Q hp s hQ
  refine wpList_step fun K' hK' => ?_
  rw [if_neg (by rw [s.guard hw (hp ▸ gdOk_spec hg)]; simp)]
  refine hK' _ _ ?_
  exact hk cx G _ w Q hp (s.put U_ok (hp ▸ hd)) hQ
theorem AXl.split (d : Nat) (b : Bool) (hb : lk d st.env = .c (.d (.bool b))) (ht : b = true → AXl P pm ops rest ⟨pute d (.c (.d (.bool true))) st.env, st.heap⟩ K) (hf : b = false → AXl P pm ops rest ⟨pute d (.c (.d (.bool false))) st.env, st.heap⟩ K) : AXl P pm ops rest st K := by
  intro cx G a w Q hp s hQ
  have key : ∀ c : Bool, b = c → Sat cx G ⟨pute d (.c (.d (.bool c))) st.env, st.heap⟩ a w := by
    intro c hc
    subst hc
    refine ⟨s.h, fun t => ?_, s.N, s.defers⟩
    rw [lk_put]
    split
    · next e => subst e; rw [← hb]; exact s.ev (.tmp d)
    · exact s.env t
  cases b with
  | true => exact ht rfl cx G a w Q hp (key true rfl) hQ
  | false => exact hf rfl cx G a w Q hp (key false rfl) hQ
/-! ### a region that draws its order -/
def putE (dst : Option Nat) (α : AV) (ρ : Env) : Env :=
  match dst with
  | none => ρ
  | some t => pute t (α) ρ
inductive Run (P : Program) (pm : Pm) (h : List LB) (ops : Array Oper) : List Oper → Env → Env → Prop where
  | nil (ρ : Env) : Run P pm h ops [] ρ ρ
  | op (o : Oper) (rest : List Oper) (ρ ρ' : Env) (r : AV) (hw : wantedA ops o ρ = some true) (hq : Qt P pm h o (ev pm.Γ ρ) r) (hr : Run P pm h ops rest (putE o.dst r ρ) ρ') : Run P pm h ops (o :: rest) ρ ρ'
  | skip (o : Oper) (rest : List Oper) (ρ ρ' : Env) (hw : wantedA ops o ρ = some false) (hr : Run P pm h ops rest (putE o.dst U ρ) ρ') : Run P pm h ops (o :: rest) ρ ρ'
  | same (rest : List Oper) (ρ ρ₁ ρ' : Env) (hs : ∀ t, lk t ρ₁ = lk t ρ) (hr : Run P pm h ops rest ρ₁ ρ') : Run P pm h ops rest ρ ρ'
def AXd (P : Program) (pm : Pm) (h : List LB) (ops : Array Oper) (pre : List Oper) (ρ : Env) (Kd : Env → Prop) : Prop := ∃ ρ', Run P pm h ops pre ρ ρ' ∧ Kd ρ'
theorem AXd.nil {ρ : Env} {Kd : Env → Prop} (hk : Kd ρ) : AXd P pm h ops [] ρ Kd := ⟨ρ, .nil ρ, hk⟩
theorem AXd.op {o : Oper} {ρ : Env} {Kd : Env → Prop} {r : AV} (hw : wantedA ops o ρ = some true) (hq : Qt P pm h o (ev pm.Γ ρ) r) (hk : AXd P pm h ops rest (putE o.dst r ρ) Kd) : AXd P pm h ops (o :: rest) ρ Kd := by
  obtain ⟨ρ', h1, h2⟩ := hk
  exact ⟨ρ', .op o rest ρ ρ' r hw hq h1, h2⟩
theorem AXd.skip {o : Oper} {ρ : Env} {Kd : Env → Prop} (hw : wantedA ops o ρ = some false) (hk : AXd P pm h ops rest (putE o.dst U ρ) Kd) : AXd P pm h ops (o :: rest) ρ Kd := by
  obtain ⟨ρ', h1, h2⟩ := hk
  exact ⟨ρ', .skip o rest ρ ρ' hw h1, h2⟩
theorem AXd.split {ρ : Env} {Kd : Env → Prop} (d : Nat) (b : Bool) (hb : lk d ρ = .c (.d (.bool b))) (ht : b = true → AXd P pm h ops rest (pute d (.c (.d (.bool true))) ρ) Kd) (hf : b = false → AXd P pm h ops rest (pute d (.c (.d (.bool false))) ρ) Kd) : AXd P pm h ops rest ρ Kd := by
  have key : ∀ c : Bool, b = c → AXd P pm h ops rest (pute d (.c (.d (.bool c))) ρ) Kd → AXd P pm h ops rest ρ Kd := by
    rintro c rfl ⟨ρ', h1, h2⟩
    refine ⟨ρ', .same _ ρ _ ρ' (fun t => ?_) h1, h2⟩
    rw [lk_put]
    split
    · next e => rw [← e, hb]
    · rfl
  cases b with
  | true => exact key true rfl (ht rfl)
  | false => exact key false rfl (hf rfl)
def dsts (l : List Oper) : List Nat := l.filterMap (·.dst)
theorem lk_putE {t : Nat} {dst : Option Nat} {α : AV} {ρ : Env} (h : dst ≠ some t) : lk t (putE dst α ρ) = lk t ρ := by
  cases dst with
  | none => rfl
  | some k => simp only [putE]; rw [lk_put, if_neg (fun e => h (by rw [e]))]
theorem Run.out {l : List Oper} {ρ ρ' : Env} (hr : Run P pm h ops l ρ ρ') : ∀ t, t ∉ dsts l → lk t ρ' = lk t ρ := by
  induction hr with
  | nil ρ => intro t _; rfl
  | op o rest ρ ρ' r hw hq hr ih =>
    intro t ht
    simp only [dsts, List.filterMap_cons] at ht
    cases e : o.dst with
    | none => rw [e] at ht; rw [ih t ht, e]; rfl
    | some k =>
      rw [e] at ht
      simp only [List.mem_cons, not_or] at ht
      rw [ih t ht.2, e, lk_putE (by simpa using fun e' => ht.1 e'.symm)]
  | skip o rest ρ ρ' hw hr ih =>
    intro t ht
    simp only [dsts, List.filterMap_cons] at ht
    cases e : o.dst with
    | none => rw [e] at ht; rw [ih t ht, e]; rfl
    | some k =>
      rw [e] at ht
      simp only [List.mem_cons, not_or] at ht
      rw [ih t ht.2, e, lk_putE (by simpa using fun e' => ht.1 e'.symm)]
  | same rest ρ ρ₁ ρ' hs hr ih => intro t ht; rw [ih t ht, hs]
theorem Run.at {l : List Oper} {ρ ρ' : Env} (hr : Run P pm h ops l ρ ρ') (hnd : (dsts l).Nodup) : ∀ (i : Nat) (o : Oper), l[i]? = some o →
    ∃ ρi, (∀ t, t ∉ dsts (l.take i) → lk t ρi = lk t ρ) ∧ (∀ t, t ∉ dsts (l.drop i) → lk t ρ' = lk t ρi) ∧
      ((wantedA ops o ρi = some true ∧ ∃ r, Qt P pm h o (ev pm.Γ ρi) r ∧ ∀ d, o.dst = some d → lk d ρ' = r) ∨ (wantedA ops o ρi = some false ∧ ∀ d, o.dst = some d → lk d ρ' = U)) := by
  induction hr with
  | nil ρ => intro i o hi; simp at hi
  | op o rest ρ ρ' r hw hq hr ih =>
    intro i o' hi
    have hnd' : (dsts rest).Nodup := by
      simp only [dsts, List.filterMap_cons] at hnd
      split at hnd
      · exact hnd
      · exact (List.nodup_cons.1 hnd).2
    cases i with
    | zero =>
      simp at hi
      subst hi
      refine ⟨ρ, fun t _ => rfl, fun t ht => (Run.op o rest ρ ρ' r hw hq hr).out t (by simpa using ht), .inl ⟨hw, r, hq, fun d hd => ?_⟩⟩
      have : d ∉ dsts rest := by
        simp only [dsts, List.filterMap_cons, hd] at hnd
        exact (List.nodup_cons.1 hnd).1
      rw [hr.out d this, hd]
      simp [putE, lk_put]
    | succ i =>
      obtain ⟨ρi, h1, h2, h3⟩ := ih hnd' i o' (by simpa using hi)
      refine ⟨ρi, fun t ht => ?_, fun t ht => h2 t (by simpa using ht), h3⟩
      simp only [List.take_succ_cons, dsts, List.filterMap_cons] at ht
      cases e : o.dst with
      | none => rw [e] at ht; rw [h1 t ht, e]; rfl
      | some k =>
        rw [e] at ht
        simp only [List.mem_cons, not_or] at ht
        rw [h1 t ht.2, e, lk_putE (by simpa using fun e' => ht.1 e'.symm)]
  | skip o rest ρ ρ' hw hr ih =>
    intro i o' hi
    have hnd' : (dsts rest).Nodup := by
      simp only [dsts, List.filterMap_cons] at hnd
      split at hnd
      · exact hnd
      · exact (List.nodup_cons.1 hnd).2
    cases i with
    | zero =>
      simp at hi
      subst hi
      refine ⟨ρ, fun t _ => rfl, fun t ht => (Run.skip o rest ρ ρ' hw hr).out t (by simpa using ht), .inr ⟨hw, fun d hd => ?_⟩⟩
      have : d ∉ dsts rest := by
        simp only [dsts, List.filterMap_cons, hd] at hnd
        exact (List.nodup_cons.1 hnd).1
      rw [hr.out d this, hd]
      simp [putE, lk_put]
    | succ i =>
      obtain ⟨ρi, h1, h2, h3⟩ := ih hnd' i o' (by simpa using hi)
      refine ⟨ρi, fun t ht => ?_, fun t ht => h2 t (by simpa using ht), h3⟩
      simp only [List.take_succ_cons, dsts, List.filterMap_cons] at ht
      cases e : o.dst with
      | none => rw [e] at ht; rw [h1 t ht, e]; rfl
      | some k =>
        rw [e] at ht
        simp only [List.mem_cons, not_or] at ht
        rw [h1 t ht.2, e, lk_putE (by simpa using fun e' => ht.1 e'.symm)]
  | same rest ρ ρ₁ ρ' hs hr ih =>
    intro i o hi
    obtain ⟨ρi, h1, h2, h3⟩ := ih hnd i o hi
    exact ⟨ρi, fun t ht => by rw [h1 t ht, hs], h2, h3⟩
end Go.Ax
