/-
  Calls: by contract, through a function value, and walked in place. No condition.
-/
import Derived.Test.YtimehiamdikinaaAxM
set_option linter.all false
namespace Go.Ax
open Go Go.RowKit

variable {P : Program} {Γ : List (Nat × List D)}

def rvAV : RV → AV
  | .d x => .c (.d x)
  | .agg ds => .agg (ds.map C.d)
  | .fresh _ sz els => .c (.d (.lst sz els))
def rsAV : List RV → AV
  | [r] => rvAV r
  | rs => .tup (rs.map rvAV)

/-- Behind a call all that it made stays. -/
theorem after_all {cx : Cx} {G : Gh} {h : List LB} {w w' : World} (s : SatH cx G h w) {rs : List RV} {e : Ending} (ha : After ⟨fun b => w.heap[b]?, G.V.I⟩ w rs e w') :
    ∃ (G' : Gh) (vs : List Value), e = .returned (tupV vs) ∧ GLe G.g.length G G' ∧ SatH cx G' h w' ∧ All2 (fun r v => Wr G' (rvAV r) v) rs vs := by
  obtain ⟨V', vs, rfl, hle, hview, himm, hrs, hb⟩ := ha
  let V2 : Vw := ⟨fun b => if b < w.heap.size then G.V.H b else w'.heap[b]?, fun b => G.V.I b ∨ (w.heap.size ≤ b ∧ b < w'.heap.size)⟩
  have hV : G.V.Le V2 := ⟨fun b o ho => by
    have := heap_lt (s.view b o ho)
    simp only [V2, if_pos this, ho], fun b hb => .inl hb⟩
  have hG : GLe G.g.length G ⟨V2, G.g⟩ := ⟨hV, fun i v n _ e => ⟨v, n, e, Nat.le_refl _, fun _ => rfl, fun _ => ⟨rfl, rfl⟩⟩⟩
  have s1 := s.later hb
  have hsat : SatH cx ⟨V2, G.g⟩ h w' := by
    refine ⟨s1.len, fun i b e hi he => ?_, s1.sep, fun b o ho => ?_, fun b hb' => ?_, s1.below, s1.ext.trans (hG.all _), fun q hq => (s1.glob q hq).grow hG⟩
    · refine Lr.mono' hG ?_ (s1.ent i b e hi he)
      intro k hlv hk
      have := (s.ent i b e hi he).blk hlv hk
      simp only [V2, if_pos this.2.1]
      exact this.2.2
    · simp only [V2] at ho
      split at ho
      · exact s1.view b o ho
      · exact ho
    · rcases hb' with hb' | hb'
      · obtain ⟨⟨o, h1⟩, h2⟩ := s1.imm b hb'
        exact ⟨⟨o, hV.H b o h1⟩, h2⟩
      · have hnl : ¬ b < w.heap.size := by omega
        refine ⟨⟨w'.heap[b]'hb'.2, ?_⟩, .inr (Nat.le_trans s.below.size hb'.1)⟩
        simp only [V2, if_neg hnl]
        exact Array.getElem?_eq_getElem hb'.2
  have hdr : ∀ {x : D} {v : Value}, Dr V' x v → Dr V2 x v := fun hd => hd.move (fun b hb' => by
      obtain ⟨⟨o, h1⟩, h2⟩ := himm b hb'
      exact h2.imp id fun h => ⟨h, heap_lt (hview b o h1)⟩) (fun b o hb' ho => by
      simp only [V2]
      split
      · next hlt =>
        rcases (himm b hb').2 with h2 | h2
        · obtain ⟨⟨o', h1⟩, _⟩ := s.imm b h2
          have e1 := s.view b o' h1
          have e2 := hview b o ho
          rw [hb.block b hlt, e1] at e2
          rw [h1]; exact e2
        · omega
      · exact hview b o ho)
  refine ⟨⟨V2, G.g⟩, vs, rfl, hG, hsat, hrs.imp fun r v hr => ?_⟩
  cases r with
  | d x => exact hdr hr
  | agg ds =>
    obtain ⟨us, rfl, hus⟩ := hr
    exact ⟨us, rfl, All2.map_left (f := C.d) (R := Cr _) (hus.imp fun _ _ hd => hdr hd)⟩
  | fresh t sz els =>
    obtain ⟨xs, how, _, hd, hl⟩ := hr
    obtain ⟨A, cap, rfl, hc, hm⟩ := own_form how
    show Dr V2 _ _
    refine .lst sz els A cap (fun i j => xs.getD (i * sz + j) undef) hc hm hl (fun hn => ?_) (fun i e j c h1 h2 => ?_)
    · have hpos : 0 < els.length := List.length_pos_iff.2 hn
      obtain ⟨g, cap', hv', hbg, _, _, hcell⟩ := own_cells how hpos
      injection hv' with hA _ _
      subst hA
      have hglt : g < w'.heap.size := by
        obtain ⟨_, ⟨e, _⟩ | ⟨g', cap'', cur, e, _, hh, _⟩⟩ := how
        · cases e
        · cases e; exact heap_lt hh
      refine ⟨⟨g, 0, none⟩, rfl, .inr ⟨hbg, hglt⟩, fun i e j c h1 h2 => ?_⟩
      obtain ⟨u, hb1, hb2⟩ := hd.get _ _ (flat_get els hl i e j c h1 h2)
      have hq := hcell _ u hb1
      rw [add_plain, Nat.zero_add]
      have hnl : ¬ g < w.heap.size := by omega
      have : cellIn V2.H ⟨g, i * sz + j, none⟩ = cellIn (fun b => w'.heap[b]?) ⟨g, i * sz + j, none⟩ := by
        simp only [cellIn, V2, if_neg hnl]
      rw [this, cellIn_world, hq]
      simp [hb1]
    · obtain ⟨u, hb1, hb2⟩ := hd.get _ _ (flat_get els hl i e j c h1 h2)
      simpa [hb1] using hdr hb2

theorem rsAV_ok {G : Gh} {rs : List RV} {vs : List Value} (h : All2 (fun r v => Wr G (rvAV r) v) rs vs) : Ar G (rsAV rs) (tupV vs) := by
  have hm : ∀ {rs : List RV} {vs : List Value}, All2 (fun r v => Wr G (rvAV r) v) rs vs → All2 (Wr G) (rs.map rvAV) vs := fun h => h.map_left
  match rs, vs, h with
  | [], [], _ => exact ⟨[], rfl, .nil⟩
  | [r], [v], .cons h1 _ =>
    show Ar G (rvAV r) v
    cases r <;> exact h1
  | r :: r' :: rs, v :: v' :: vs, h => exact ⟨v :: v' :: vs, rfl, hm h⟩

theorem viewOk_of {cx : Cx} {G : Gh} {h : List LB} {w : World} (s : SatH cx G h w) (hΓ : cx.pm.Γ = Γ) : ViewOk Γ ⟨fun b => w.heap[b]?, G.V.I⟩ w :=
  ⟨fun _ _ h => h, fun b hb => by obtain ⟨⟨o, h1⟩, _⟩ := s.imm b hb; exact ⟨o, s.view b o h1⟩, fun p hp => by
    obtain ⟨ad, u, e, hc⟩ := s.glob p (hΓ ▸ hp)
    exact ⟨ad, u, e, fun j c hj => ⟨cellIn_le (fun o => s.view _ o) (hc j c hj).1, (hc j c hj).2.mono s.le⟩⟩⟩

variable {pm : Pm} {ops : Array Oper} {rest : List Oper} {st : St} {K : St → Prop} {dst : Option Tmp} {ty : TypeId} {p : String} {af : Array Edge} {gd : Option (Nat × Bool)} {h : List LB} {ρ : Operand → AV}

theorem args_ok {cx : Cx} {G : Gh} {w : World} {a : Act} (s : SatH cx G h w) (hp : cx.pm = pm) : ∀ (as : List Operand) (args' : List AV), All2 (ArgOk pm h) (as.map ρ) args' → (∀ x ∈ as, Ar G (ρ x) (a.eval x)) → All2 (Ar ⟨⟨fun b => w.heap[b]?, G.V.I⟩, []⟩) args' (as.map a.eval)
  | [], args', hh, _ => by cases hh; exact .nil
  | x :: as, args', hh, hx => by
    cases hh with
    | cons h1 h2 => exact .cons (h1 cx G w _ hp s (hx x (by simp))) (args_ok s hp as _ h2 fun y hy => hx y (by simp [hy]))

/-- A call by its contract; what it hands over is taken as still. -/
theorem q_call {f : FuncId} {as : List Operand} {ts : Array TypeId} {args' : List AV} {rs : List RV} (hc : AFn P pm.Γ f args' rs) (ha : All2 (ArgOk pm h) (as.map ρ) args') :
    Qt P pm h ⟨dst, .call { callee := .value (.func f), args := as.toArray, argTypes := ts }, ty, p, af, gd⟩ ρ (rsAV rs) := by
  intro cx G w a hp s ho next Q hn
  have hargs := args_ok (a := a) s hp as args' ha fun x hx => ho x (by simp [Op.operands, Call.operands, hx])
  have hr : (execOp a.eval ⟨dst, .call { callee := .value (.func f), args := as.toArray, argTypes := ts }, ty, p, af, gd⟩).run P w = .ok (.enter f (as.map a.eval).toArray) w := by
    simp [execOp, resolve, Deferred.ofValue, Act.eval, invoke, run_callFunc hc.call]
  unfold Oper.wp
  rw [hr]
  refine (hc.run _ w _ (viewOk_of s (by rw [hp])) hargs).mono fun e w' hafter => ?_
  obtain ⟨G', vs, rfl, hG, s', hrs⟩ := after_all s hafter
  exact hn _ _ G' hG s' (rsAV_ok hrs)

/-- A call through a function value that came in. -/
theorem q_callfn {t : Operand} {as : List Operand} {ts : Array TypeId} {args' : List AV} {rs : List RV} {F : List AV → List RV → Prop} (ht : ρ t = .c (.fn (FnSpec P pm.Γ F))) (hF : F args' rs) (ha : All2 (ArgOk pm h) (as.map ρ) args') :
    Qt P pm h ⟨dst, .call { callee := .value t, args := as.toArray, argTypes := ts }, ty, p, af, gd⟩ ρ (rsAV rs) := by
  intro cx G w a hp s ho next Q hn
  have hargs := args_ok (a := a) s hp as args' ha fun x hx => ho x (by simp [Op.operands, Call.operands, hx])
  have hv := ho t (by simp [Op.operands, Call.operands])
  rw [ht] at hv
  obtain ⟨f, caps, e, hcall, hsp⟩ := hv.2 _ s.le
  have hr : (execOp a.eval ⟨dst, .call { callee := .value t, args := as.toArray, argTypes := ts }, ty, p, af, gd⟩).run P w = .ok (.enter f ((as.map a.eval).toArray ++ caps)) w := by
    simp [execOp, resolve, Deferred.ofValue, e, invoke, run_callFunc hcall]
  unfold Oper.wp
  rw [hr]
  refine (hsp args' rs hF _ w _ (Vw.Le.refl _) (viewOk_of s (by rw [hp])) hargs).mono fun e w' hafter => ?_
  obtain ⟨G', vs, rfl, hG, s', hrs⟩ := after_all s hafter
  exact hn _ _ G' hG s' (rsAV_ok hrs)

/-- A call whose one result is a row that is handed over: the caller's own from now on. -/
theorem AXl.call_own {f : FuncId} {x : Operand} {as : List Operand} {ts : Array TypeId} {args' : List AV} {te : TypeId} {sz : Nat} {els : List (List D)} (hx : ev pm.Γ st.env x = .c (.clo f [])) (hc : AFn P pm.Γ f args' [.fresh te sz els]) (ha : All2 (ArgOk pm st.heap) (as.map (ev pm.Γ st.env)) args') (hd : dstOk pm.N dst)
    (hk : AXl P pm ops rest (St.put ⟨st.env, st.heap ++ [.row te sz els 0]⟩ dst (.c (.own st.heap.length 0))) K) :
    AXl P pm ops (⟨dst, .call { callee := .value x, args := as.toArray, argTypes := ts }, ty, p, af, none⟩ :: rest) st K := by
  intro cx G a w Q hp s hQ
  refine wpList_plain rfl fun K' hK' => ?_
  have hargs := args_ok (a := a) s.h hp as args' ha fun x _ => hp ▸ s.ev x
  have hxv : Ar G (.c (.clo f [])) (a.eval x) := by rw [← hx, ← hp]; exact s.ev x
  obtain ⟨bs, hxe, hbs⟩ := hxv
  cases hbs
  have hr : (execOp a.eval ⟨dst, .call { callee := .value x, args := as.toArray, argTypes := ts }, ty, p, af, none⟩).run P w = .ok (.enter f (as.map a.eval).toArray) w := by
    simp [execOp, resolve, Deferred.ofValue, hxe, invoke, run_callFunc hc.call]
  unfold Oper.wp
  rw [hr]
  refine (hc.run _ w _ (viewOk_of s.h (by rw [hp])) hargs).mono fun e w' hafter => ?_
  obtain ⟨V', vs, rfl, hle, hview, himm, hrs, hb⟩ := hafter
  cases hrs with
  | @cons _ v _ vs hrow ht =>
  cases ht
  obtain ⟨xs, how, hob, hd2, hl⟩ := hrow
  have s0 := s.h
  let V2 : Vw := ⟨fun b => if b < w.heap.size then G.V.H b else V'.H b, fun b => G.V.I b ∨ (w.heap.size ≤ b ∧ V'.I b)⟩
  have hV : G.V.Le V2 := ⟨fun b o ho => by
    have := heap_lt (s0.view b o ho)
    simp only [V2, if_pos this, ho], fun b hb => .inl hb⟩
  have hG : GLe G.g.length G ⟨V2, G.g⟩ := ⟨hV, fun i v n _ e => ⟨v, n, e, Nat.le_refl _, fun _ => rfl, fun _ => ⟨rfl, rfl⟩⟩⟩
  have s1 := s0.later hb
  have hsat : SatH cx ⟨V2, G.g⟩ st.heap w' := by
    refine ⟨s1.len, fun i b e hi he => ?_, s1.sep, fun b o ho => ?_, fun b hb' => ?_, s1.below, s1.ext.trans (hG.all _), fun q hq => (s1.glob q hq).grow hG⟩
    · refine Lr.mono' hG ?_ (s1.ent i b e hi he)
      intro k hlv hk
      have := (s0.ent i b e hi he).blk hlv hk
      simp only [V2, if_pos this.2.1]
      exact this.2.2
    · simp only [V2] at ho
      split at ho
      · exact s1.view b o ho
      · exact hview b o ho
    · rcases hb' with hb' | hb'
      · obtain ⟨⟨o, h1⟩, h2⟩ := s1.imm b hb'
        exact ⟨⟨o, hV.H b o h1⟩, h2⟩
      · have hnl : ¬ b < w.heap.size := by omega
        obtain ⟨⟨o, h1⟩, _⟩ := himm b hb'.2
        refine ⟨⟨o, ?_⟩, .inr (Nat.le_trans s0.below.size hb'.1)⟩
        simp only [V2, if_neg hnl]
        exact h1
  have hdr : ∀ {x : D} {v : Value}, Dr V' x v → Dr V2 x v := fun hd => hd.move (fun b hb' => by
      obtain ⟨⟨o, h1⟩, h2⟩ := himm b hb'
      rcases h2 with h2 | h2
      · exact .inl h2
      · exact .inr ⟨h2, hb'⟩) (fun b o hb' ho => by
      simp only [V2]
      split
      · next hlt =>
        rcases (himm b hb').2 with h2 | h2
        · obtain ⟨⟨o', h1⟩, _⟩ := s0.imm b h2
          have e1 := s0.view b o' h1
          have e2 := hview b o ho
          rw [hb.block b hlt, e1] at e2
          rw [h1]; exact e2
        · omega
      · exact ho)
  have hf := row_form how
  have how' : w'.ownsRow cx.w0.heap.size te sz v els.length xs := by
    obtain ⟨hxl, h1 | ⟨g, cap, cur, e, hg, r⟩⟩ := how
    · exact ⟨hxl, .inl h1⟩
    · exact ⟨hxl, .inr ⟨g, cap, cur, e, Nat.le_trans s0.below.size hg, r⟩⟩
  have hbase : ∀ k, blkOf v = some k → w.heap.size ≤ k := fun k hk => by
    obtain ⟨hxl, ⟨e, _⟩ | ⟨g, cap, cur, e, hg, r⟩⟩ := how
    · rw [e] at hk; cases hk
    · rw [e] at hk; cases hk; exact hg
  have s2 := hsat.push v 0 (.row te sz els 0) ⟨rfl, xs, how', fun b hb' => by
      have hk := hf.2.2.1 b hb'
      have := hbase b hk
      have hnl : ¬ b < w.heap.size := by omega
      simp only [V2, if_neg hnl]
      exact hob b hb', hd2.imp fun _ _ hdd => hdr hdd, hl⟩ (fun k hk i b e hi hlv he hk' => by
      have h1 := ((s0.ent i b e hi he).blk hlv hk').2.1
      have h2 := hbase k hk
      omega)
  refine hK' _ _ (hk cx ⟨V2, G.g ++ [(v, 0)]⟩ _ w' Q hp ?_ hQ)
  have s3 := s.step hG hsat
  exact s3.pushed s2 (α := .c (.own st.heap.length 0)) ⟨hf.2.2.2, v, 0, get_last _ _ s0.len.symm, Nat.le_refl _, fun _ => rfl⟩ (hp ▸ hd)

/-! ### a call walked in place -/
def AV.flat : AV → Bool
  | .tup _ => false
  | _ => true
theorem AV.flat_wr {G : Gh} {α : AV} {v : Value} (h : α.flat = true) (hr : Ar G α v) : Wr G α v := by
  cases α <;> first | exact hr | (cases h)

/-- What a walk in place leaves: the result's reading. -/
def inRes (P : Program) (st : St) : List ResultVar → Option AV
  | [r] => resAV P st r
  | rs => match resAVs P st rs with
    | some αs => if αs.all AV.flat = true ∧ αs.length ≠ 1 then some (.tup αs) else none
    | none => none

theorem AXl.inline {f : FuncId} {fn : Func} {c : Code} {x : Operand} {as : List Operand} {ts : Array TypeId} {caps : List Nat} (hf : P.funcs[f]? = some fn) (hname : (fn.name == "runtime.NumGoroutine") = false) (hb : fn.body = some c) (hx : ev pm.Γ st.env x = .c (.clo f caps))
    (hN : as.length + caps.length ≤ fn.ntmps) (hd : dstOk pm.N dst)
    (hk : AXc P ⟨st.heap.length, fn.ntmps, pm.Γ⟩ c ⟨envOf (as.map (ev pm.Γ st.env) ++ caps.map fun i => .c (.loc i 0)) 0, st.heap⟩ (fun e st' => (e = .ret ∨ e = .normal) ∧ ∃ α, inRes P st' fn.results.toList = some α ∧ AXl P pm ops rest (St.put ⟨st.env, st'.heap⟩ dst α) K)) :
    AXl P pm ops (⟨dst, .call { callee := .value x, args := as.toArray, argTypes := ts }, ty, p, af, none⟩ :: rest) st K := by
  intro cx G a w Q hp s hQ
  subst hp
  refine wpList_plain rfl fun K' hK' => ?_
  have hcall : CallOk P f := ⟨fn, hf, hname, by rw [hb]; rfl⟩
  obtain ⟨bs, hv, hbs⟩ := (hx ▸ s.ev x : Ar G (.c (.clo f caps)) (a.eval x))
  let vals : List Value := as.map a.eval ++ bs.map fun b => Value.pointer (some ⟨b, 0, none⟩)
  have hr : (execOp a.eval ⟨dst, .call { callee := .value x, args := as.toArray, argTypes := ts }, ty, p, af, none⟩).run P w = .ok (.enter f vals.toArray) w := by
    simp [execOp, resolve, Deferred.ofValue, hv, invoke, run_callFunc hcall, vals]
  unfold Oper.wp
  rw [hr]
  refine calls_of_wp hf hb ?_
  have hargs : All2 (Ar G) (as.map (ev cx.pm.Γ st.env) ++ caps.map fun i => .c (.loc i 0)) vals := by
    refine All2.append ?_ ?_
    · clear hk hN hr
      induction as with
      | nil => exact .nil
      | cons y as ih => exact .cons (s.ev y) ih
    · clear hk hN hr hv vals hx
      induction hbs with
      | nil => exact .nil
      | cons h1 h2 ih => obtain ⟨n, hg⟩ := h1; exact .cons ⟨_, n, hg, rfl⟩ ih
  have hl := hargs.length
  let cx' : Cx := ⟨⟨st.heap.length, fn.ntmps, cx.pm.Γ⟩, cx.w0, cx.S, G⟩
  have sat : Sat cx' G ⟨envOf (as.map (ev cx.pm.Γ st.env) ++ caps.map fun i => .c (.loc i 0)) 0, st.heap⟩ { tmps := vals.toArray ++ Array.replicate (fn.ntmps - vals.toArray.size) undef, defers := [] } w := by
    refine ⟨⟨s.h.len, s.h.ent, s.h.sep, s.h.view, s.h.imm, s.h.below, .refl _ _, s.h.glob⟩, envOf_ok hargs _, ?_, rfl⟩
    · have : vals.length ≤ fn.ntmps := by rw [← hl]; simpa using hN
      simp [cx']; omega
  refine wp_mono (hk cx' G _ w rfl sat) ?_
  rintro e a' w' ⟨G', st', s', he, α, h1, h2⟩
  have hG : GLe G.g.length G G' := by rw [s.h.len]; exact s'.h.ext
  have hres : ∃ v, (results fn a'.tmps).run P w' = .ok v w' ∧ Ar G' α v := by
    unfold inRes at h1
    split at h1
    · next r hrr =>
      have : resAVs P st' fn.results.toList = some [α] := by rw [hrr]; simp [resAVs, h1]
      obtain ⟨vs, q1, q2⟩ := run_results s' this
      cases q2 with
      | cons h1 h2 => cases h2; exact ⟨_, q1, h1⟩
    · split at h1
      · next αs hrr =>
        split at h1
        · next hfl =>
          cases h1
          obtain ⟨vs, q1, q2⟩ := run_results s' hrr
          refine ⟨_, q1, ?_⟩
          have hlen := q2.length
          have hw : All2 (Wr G') αs vs := q2.imp' fun α v hm hr => AV.flat_wr (List.all_eq_true.1 hfl.1 α hm) hr
          refine ⟨vs, ?_, hw⟩
          match vs, hlen with
          | [], _ => rfl
          | [u], hlen => exact absurd hlen hfl.2
          | u :: u' :: r, _ => rfl
        · cases h1
      · cases h1
  obtain ⟨v, hrun, hα⟩ := hres
  have hsat' : SatH cx G' st'.heap w' := ⟨s'.h.len, s'.h.ent, s'.h.sep, s'.h.view, s'.h.imm, s'.h.below, s.h.ext.trans (hG.all _), s'.h.glob⟩
  have fin := hK' _ _ (h2 cx G' _ w' Q rfl ((s.step hG hsat').put hα hd) hQ)
  rcases he with rfl | rfl
  · exact ⟨s'.defers, v, hrun, fin⟩
  · exact ⟨s'.defers, v, hrun, fin⟩
end Go.Ax
