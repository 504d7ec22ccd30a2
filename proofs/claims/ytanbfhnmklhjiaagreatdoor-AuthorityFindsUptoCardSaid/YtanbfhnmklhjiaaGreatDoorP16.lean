/- Part of a proof about this program; no condition of its own. -/
import Derived.Test.YtanbfhnmklhjiaaGreatDoorP15
import Derived.Scope
set_option linter.all false
/-
  What is to be shown of code, reckoned: lists of operations, regions that draw, code; and that it suffices. No condition.
-/
namespace Go.Ax
open Go Go.RowKit
def vcl (P : Program) (pm : Pm) (E : List Nat) (l : List Oper) : List Oper → St → (St → Prop) → Prop
  | [], st, K => K st
  | o :: rest, st, K => vgd l o.guard st (fun st => vrun P pm E o st fun st' => vcl P pm E l rest st' K) (fun st => vcl P pm E l rest (st.put o.dst U) K)
def pureO (E : List Nat) (o : Oper) : Bool :=
  match o.op with
  | .alloc _ => false
  | .box _ _ => false
  | .store _ _ _ => false
  | .makeSlice _ _ _ => false
  | .makeMap _ _ => false
  | .mapEntry _ _ _ => false
  | .entryStore _ _ _ _ => false
  | .mapUpdate _ _ _ _ => false
  | .range _ _ => false
  | .next _ _ => false
  | .buildSlice _ n _ => !isOwn E n o.dst
  | .call { callee := .builtin b, args := _, argTypes := _ } => match b with
    | .len => true
    | .min => true
    | .max => true
    | _ => false
  | .call { callee := .value _, args := _, argTypes := _ } => !mem? E o.dst
  | _ => true
def vcd (P : Program) (pm : Pm) (E : List Nat) (l : List Oper) (h : List LB) : List Oper → Env → (St → Prop) → Prop
  | [], ρ, K => K ⟨ρ, h⟩
  | o :: rest, ρ, K => bif pureO E o then
      vgd l o.guard ⟨ρ, h⟩ (fun st => vq P h pm o (ev pm.Γ st.env) fun r => vcd P pm E l h rest (putE o.dst r st.env) K) (fun st => vcd P pm E l h rest (putE o.dst U st.env) K)
    else vcl P pm E l (o :: rest) ⟨ρ, h⟩ K
def opsOk (l : List Oper) (N : Nat) : Bool := l.all fun o => gdOk l.toArray N o && (match o.dst with | some d => decide (d < N) | none => true)
def drawN (E : List Nat) (l : List Oper) : Nat := (l.takeWhile (pureO E)).length
def codeOk (E : List Nat) (N : Nat) : Code → Bool
  | .region id ops d => opsOk ops.toList N && (if d then mem? E (some (1000000 + id)) || drawOk ops.toList (drawN E ops.toList) N else true)
  | .seq a b => codeOk E N a && codeOk E N b
  | .cond _ a b => codeOk E N a && codeOk E N b
  | .block _ a => codeOk E N a
  | .loop a => codeOk E N a
  | .scope a => codeOk E N a
  | _ => true
def ScopeQ (Q : Exit → St → Prop) : Exit → St → Prop
  | .goto _, _ => False
  | e, st => Q e st
def vcnd (α : AV) (X Y : Prop) : Prop :=
  match α with
  | .c (.d (.bool b)) => (b = true → X) ∧ (b = false → Y)
  | _ => False
def LoopV (P : Program) (pm : Pm) (E : List Nat) (b : Code) (st : St) (Q : Exit → St → Prop) (_ : Tok Q) : Prop := codeOk E pm.N b = true → AXc P pm (.loop b) st Q
def RegV (P : Program) (pm : Pm) (id : Nat) (ops : List Oper) (st : St) (Q : Exit → St → Prop) (_ : Tok Q) : Prop := opsOk ops pm.N = true → AXc P pm (.region id ops.toArray true) st Q
def vc (P : Program) (pm : Pm) (E : List Nat) : Code → St → (Exit → St → Prop) → Prop
  | .skip, st, Q => Q .normal st
  | .label _, st, Q => Q .normal st
  | .ret, st, Q => Q .ret st
  | .exit id, st, Q => Q (.exit id) st
  | .seq x y, st, Q => vc P pm E x st (Ethen (fun st' => vc P pm E y st' Q) Q)
  | .cond c x y, st, Q => vcnd (ev pm.Γ st.env c) (vc P pm E x st Q) (vc P pm E y st Q)
  | .block id c, st, Q => vc P pm E c st (EinBlock id Q)
  | .region id ops d, st, Q => bif d then (bif mem? E (some (1000000 + id)) then RegV P pm id ops.toList st Q ⟨⟩ else vcd P pm E ops.toList st.heap ops.toList st.env (Q .normal)) else vcl P pm E ops.toList ops.toList st (Q .normal)
  | .loop b, st, Q => LoopV P pm E b st Q ⟨⟩
  | .scope c, st, Q => vc P pm E c st (ScopeQ Q)
  | _, _, _ => False
section
variable {P : Program} {pm : Pm} {E : List Nat}
theorem opsOk_at {l : List Oper} {N : Nat} (h : opsOk l N = true) {o : Oper} (ho : o ∈ l) : gdOk l.toArray N o = true ∧ dstOk N o.dst := by
  unfold opsOk at h
  have := List.all_eq_true.1 h o ho
  simp only [Bool.and_eq_true] at this
  refine ⟨this.1, ?_⟩
  cases hd : o.dst with
  | none => trivial
  | some d => rw [hd] at this; exact (of_decide_eq_true this.2 : d < N)
theorem vcl_ok {l : List Oper} (hok : opsOk l pm.N = true) : ∀ (r : List Oper), (∀ o ∈ r, o ∈ l) → ∀ (st : St) (K : St → Prop), vcl P pm E l r st K → AXl P pm l.toArray r st K
  | [], _, st, K, h => AXl.nil h
  | o :: rest, hm, st, K, h => by
    obtain ⟨h1, h2⟩ := opsOk_at hok (hm o (by simp))
    have ih := vcl_ok hok rest (fun o ho => hm o (by simp [ho]))
    refine vgd_ok h2 h1 (fun st hst => ?_) (fun st hst => ih _ _ hst) h
    intro ops rest' K' hK'
    exact vrun_ok h2 hst ops rest' K' fun st' hst' => hK' st' (ih _ _ hst')
theorem vgd_okd {l : List Oper} {o : Oper} {rest : List Oper} {h : List LB} {ρ : Env} {Kd : Env → Prop} {yes no : St → Prop} (hheap : ∀ ρ, yes ⟨ρ, h⟩ → ∃ r, Qt P pm h o (ev pm.Γ ρ) r ∧ AXd P pm h l.toArray rest (putE o.dst r ρ) Kd)
    (hn : ∀ ρ, no ⟨ρ, h⟩ → AXd P pm h l.toArray rest (putE o.dst U ρ) Kd) (hh : vgd l o.guard ⟨ρ, h⟩ yes no) : AXd P pm h l.toArray (o :: rest) ρ Kd := by
  unfold vgd at hh
  split at hh
  · next hgd =>
    obtain ⟨r, hq, hk⟩ := hheap _ hh
    exact AXd.op (by unfold wantedA; rw [hgd]) hq hk
  · next j want hgd =>
    unfold vgj at hh
    split at hh
    · next d hgs =>
      rw [gslot_eq] at hgs
      have hgs' : (l.toArray[j]?).bind (·.dst) = some d := by simpa using hgs
      have hwant : ∀ (b : Bool) (ρ : Env), lk d ρ = oB b → wantedA l.toArray o ρ = some (b == want) := fun b ρ hl => by
        unfold wantedA
        rw [hgd]
        simp only [hgs', hl]
      have hput : ∀ b : Bool, lk d (pute d (oB b) ρ) = oB b := fun b => by simp [lk_put]
      unfold vgs at hh
      split at hh
      · next b hb =>
        obtain ⟨h1, h2⟩ := hh
        have ht : ∀ c : Bool, b = c → AXd P pm h l.toArray (o :: rest) (pute d (oB c) ρ) Kd := by
          intro c hc
          by_cases hcw : c = want
          · subst hcw
            obtain ⟨r, hq, hk⟩ := hheap _ (h1 hc)
            exact AXd.op (by rw [hwant c _ (hput c)]; simp) hq hk
          · have hcn : c = !want := by revert hcw; cases c <;> cases want <;> simp
            refine AXd.skip (by rw [hwant c _ (hput c)]; simp [hcw]) ?_
            have := hn _ (h2 (hc.trans hcn))
            rwa [← hcn] at this
        exact AXd.split d b hb (ht true) (ht false)
      · next hb =>
        refine AXd.skip ?_ (hn _ hh)
        unfold wantedA
        rw [hgd]
        simp only [hgs', hb]
      · exact hh.elim
    · exact hh.elim
theorem vcd_ok {l : List Oper} {h : List LB} (hok : opsOk l pm.N = true) : ∀ (r : List Oper), (∀ o ∈ r, o ∈ l) → ∀ (ρ : Env) (K : St → Prop), vcd P pm E l h r ρ K →
    AXd P pm h l.toArray (r.takeWhile (pureO E)) ρ fun ρ' => AXl P pm l.toArray (r.dropWhile (pureO E)) ⟨ρ', h⟩ K
  | [], _, ρ, K, hh => AXd.nil (AXl.nil hh)
  | o :: rest, hm, ρ, K, hh => by
    have ih := vcd_ok (h := h) hok rest (fun o ho => hm o (by simp [ho]))
    unfold vcd at hh
    cases hp : pureO E o with
    | true =>
      rw [hp] at hh
      simp only [cond_true] at hh
      rw [List.takeWhile_cons_of_pos hp, List.dropWhile_cons_of_pos hp]
      refine vgd_okd (fun ρ hy => ?_) (fun ρ hn => ih _ _ hn) hh
      obtain ⟨r, hq, hk⟩ := vq_ok hy
      exact ⟨r, hq, ih _ _ hk⟩
    | false =>
      rw [hp] at hh
      simp only [cond_false] at hh
      rw [List.takeWhile_cons_of_neg (by simp [hp]), List.dropWhile_cons_of_neg (by simp [hp])]
      exact AXd.nil (vcl_ok hok _ hm _ _ hh)
theorem AXc.scope {c : Code} {st : St} {Q : Exit → St → Prop} (h : AXc P pm c st (ScopeQ Q)) : AXc P pm (.scope c) st Q := by
  intro cx G a w hp s
  refine wp2_scope_straight (wp2_mono (h cx G a w hp s) ?_)
  rintro e a' w' ⟨G', st', s', q⟩
  cases e with
  | goto l => exact q.elim
  | _ => exact ⟨G', st', s', q⟩
theorem vc_ok (hm : P.follows .mixedOrders = true) : ∀ (c : Code) (st : St) (Q : Exit → St → Prop), codeOk E pm.N c = true → vc P pm E c st Q → AXc P pm c st Q
  | .skip, st, Q, _, h => AXc.skip h
  | .label _, st, Q, _, h => AXc.label h
  | .ret, st, Q, _, h => AXc.ret h
  | .exit id, st, Q, _, h => AXc.exit h
  | .seq x y, st, Q, hok, h => by
    simp only [codeOk, Bool.and_eq_true] at hok
    refine AXc.seq fun K hK => ?_
    refine (vc_ok hm x st _ hok.1 h).mono fun e s he => ?_
    cases e with
    | normal => exact hK s (vc_ok hm y s Q hok.2 he)
    | _ => exact he
  | .cond c x y, st, Q, hok, h => by
    simp only [codeOk, Bool.and_eq_true] at hok
    unfold vc vcnd at h
    split at h
    · next b hb => exact AXc.cond hb (fun e => vc_ok hm x st Q hok.1 (h.1 e)) (fun e => vc_ok hm y st Q hok.2 (h.2 e))
    · exact h.elim
  | .block id c, st, Q, hok, h => AXc.block (vc_ok hm c st _ hok h)
  | .region id ops d, st, Q, hok, h => by
    obtain ⟨l⟩ := ops
    unfold codeOk at hok
    simp only [Bool.and_eq_true] at hok
    unfold vc at h
    cases d with
    | true =>
      simp only [cond_true] at h
      simp only [if_true] at hok
      cases hE : mem? E (some (1000000 + id)) with
      | true => rw [hE] at h; exact h hok.1
      | false =>
      rw [hE] at h hok
      simp only [cond_false, Bool.false_or] at h hok
      have h1 := vcd_ok (P := P) (pm := pm) hok.1 l (fun _ h => h) _ _ h
      have e1 : l.take (drawN E l) = l.takeWhile (pureO E) := by
        unfold drawN
        exact List.prefix_iff_eq_take.1 (List.takeWhile_prefix _) |>.symm
      have e2 : l.drop (drawN E l) = l.dropWhile (pureO E) := by
        have h1 := List.take_append_drop (drawN E l) l
        rw [e1] at h1
        have h2 := List.takeWhile_append_dropWhile (p := pureO E) (l := l)
        exact List.append_cancel_left (h1.trans h2.symm)
      refine AXc.draw hm (drawN E l) hok.2 ?_
      rw [e1, e2]
      exact h1
    | false =>
      simp only [cond_false] at h
      exact AXc.region (vcl_ok hok.1 l (fun _ h => h) _ _ h)
  | .loop b, st, Q, hok, h => h hok
  | .rangeFunc .., _, _, _, h => h.elim
  | .scope c, st, Q, hok, h => AXc.scope (vc_ok hm c st _ hok h)
  | .goto .., _, _, _, h => h.elim
  | .refuse .., _, _, _, h => h.elim
def finV (P : Program) (res : List ResultVar) (fr : Option Nat) (rs : List RV) (st : St) : Prop :=
  match resAVs P st res with
  | some αs => match rvsOf fr st.heap αs with
    | some rs' => rs' = rs
    | none => False
  | none => False
def FinV (P : Program) (res : List ResultVar) (fr : Option Nat) (rs : List RV) : Exit → St → Prop
  | .ret, st => finV P res fr rs st
  | .normal, st => finV P res fr rs st
  | _, _ => False
def EthenT (K : St → Prop) (Q : Exit → St → Prop) (_ : Tok K) (_ : Tok Q) : Exit → St → Prop := Ethen K Q
def ScopeT (Q : Exit → St → Prop) (_ : Tok Q) : Exit → St → Prop := ScopeQ Q
def EinBlockT (i : Nat) (Q : Exit → St → Prop) (_ : Tok Q) : Exit → St → Prop := EinBlock i Q
/-! ### forgetting, reckoned -/
def preH : List LB → List LB → Prop
  | _, [] => True
  | [], _ :: _ => False
  | b :: r, b' :: r' => b = b' ∧ preH r r'
def lowL (n : Nat) : List AV → Prop
  | [] => True
  | α :: r => α.low n ∧ lowL n r
def lowEs (n : Nat) : Env → Prop
  | [] => True
  | c :: r => lowL n c ∧ lowEs n r
def frz (h : List LB) (n : Nat) : AV → AV → Prop
  | .c (.d (.lst sz els)), .c (.own i ver) => n ≤ i ∧ (match h[i]? with | some (.row _ sz' els' v) => (v = ver ∧ sz' = sz) ∧ els' = els | _ => False)
  | .c (.d (.lst _ els)), .c (.d (.raw (.slice none 0 0))) => els = []
  | _, _ => False
def subL (h : List LB) (n : Nat) : List AV → List AV → Prop
  | [], _ => True
  | a :: r, [] => a = .any ∧ subL h n r []
  | a :: r, b :: s => (a = .any ∨ a = b ∨ frz h n a b) ∧ subL h n r s
def subV (h : List LB) (n : Nat) : Env → Env → Prop
  | [], _ => True
  | c :: r, [] => subL h n c [] ∧ subV h n r []
  | c :: r, d :: s => subL h n c d ∧ subV h n r s
def lowCs (n : Nat) : List C → Prop
  | [] => True
  | c :: r => c.low n ∧ lowCs n r
def lowHs (n : Nat) : List LB → Prop
  | [] => True
  | .box _ cs :: r => lowCs n cs ∧ lowHs n r
  | .opn _ _ _ _ cs _ :: r => lowCs n cs ∧ lowHs n r
  | _ :: r => lowHs n r
def fitsV (pm : Pm) (st st' : St) : Prop := subV st.heap st'.heap.length st'.env st.env ∧ preH st.heap st'.heap ∧ pm.n0 ≤ st'.heap.length ∧ lowEs st'.heap.length st'.env ∧ lowHs st'.heap.length st'.heap
theorem preH_ok : ∀ (h h' : List LB), preH h h' → h'.length ≤ h.length ∧ h' = h.take h'.length
  | h, [], _ => by simp
  | [], _ :: _, hh => hh.elim
  | b :: r, b' :: r', hh => by
    obtain ⟨h1, h2⟩ := hh
    obtain ⟨h3, h4⟩ := preH_ok r r' h2
    refine ⟨by simpa using h3, ?_⟩
    simp only [List.length_cons, List.take_succ_cons]
    rw [← h4, h1]
theorem low_any (n : Nat) : AV.low n .any := trivial
theorem lowL_ok {n : Nat} : ∀ (l : List AV), lowL n l → ∀ t, (g1 l t).low n
  | [], _, t => low_any n
  | α :: r, h, 0 => h.1
  | α :: r, h, t + 1 => lowL_ok r h.2 t
theorem lowEs_ok' {n : Nat} : ∀ (e : Env), lowEs n e → ∀ k t, (g1 (g2 e k) t).low n
  | [], _, k, t => low_any n
  | c :: r, h, 0, t => lowL_ok c h.1 t
  | c :: r, h, k + 1, t => lowEs_ok' r h.2 k t
theorem lowEs_ok {n : Nat} (e : Env) (h : lowEs n e) (t : Nat) : (lk t e).low n := lowEs_ok' e h _ _
def subR (h : List LB) (n : Nat) (a b : AV) : Prop := a = .any ∨ a = b ∨ frz h n a b
theorem subL_ok {h : List LB} {n : Nat} : ∀ (l m : List AV), subL h n l m → ∀ t, subR h n (g1 l t) (g1 m t)
  | [], _, _, t => .inl rfl
  | a :: r, [], hh, 0 => .inl hh.1
  | a :: r, [], hh, t + 1 => by
    have := subL_ok r [] hh.2 t
    simpa [g1] using this
  | a :: r, b :: s, hh, 0 => hh.1
  | a :: r, b :: s, hh, t + 1 => subL_ok r s hh.2 t
theorem subV_ok' {h : List LB} {n : Nat} : ∀ (e f : Env), subV h n e f → ∀ k t, subR h n (g1 (g2 e k) t) (g1 (g2 f k) t)
  | [], _, _, k, t => .inl rfl
  | c :: r, [], hh, 0, t => subL_ok c [] hh.1 t
  | c :: r, [], hh, k + 1, t => by
    have := subV_ok' r [] hh.2 k t
    simpa [g1, g2] using this
  | c :: r, d :: s, hh, 0, t => subL_ok c d hh.1 t
  | c :: r, d :: s, hh, k + 1, t => subV_ok' r s hh.2 k t
theorem subV_ok {h : List LB} {n : Nat} {e f : Env} (hh : subV h n e f) (t : Nat) : subR h n (lk t e) (lk t f) := subV_ok' e f hh _ _
theorem lowCs_ok {n : Nat} : ∀ (l : List C), lowCs n l → ∀ c, c ∈ l → c.low n
  | [], _, p, hp => by cases hp
  | c :: r, h, p, hp => by
    cases hp with
    | head => exact h.1
    | tail _ hm => exact lowCs_ok r h.2 p hm
theorem lowHs_ok {n : Nat} : ∀ (l : List LB), lowHs n l → ∀ b, b ∈ l → b.low n
  | [], _, p, hp => by cases hp
  | b :: r, h, p, hp => by
    cases b with
    | box t cs =>
      cases hp with
      | head => exact lowCs_ok cs h.1
      | tail _ hm => exact lowHs_ok r h.2 p hm
    | row t sz els ver =>
      cases hp with
      | head => trivial
      | tail _ hm => exact lowHs_ok r h p hm
    | dead =>
      cases hp with
      | head => trivial
      | tail _ hm => exact lowHs_ok r h p hm
    | mp _ _ =>
      cases hp with
      | head => trivial
      | tail _ hm => exact lowHs_ok r h p hm
    | it _ _ =>
      cases hp with
      | head => trivial
      | tail _ hm => exact lowHs_ok r h p hm
    | sit _ _ =>
      cases hp with
      | head => trivial
      | tail _ hm => exact lowHs_ok r h p hm
    | opn _ _ _ _ cs _ =>
      cases hp with
      | head => exact lowCs_ok cs h.1
      | tail _ hm => exact lowHs_ok r h.2 p hm
theorem freezeFrom {cx : Cx} {w : World} (n : Nat) {G : Gh} {h : List LB} (s : SatH cx G h w) : ∀ (m : Nat), ∃ (V' : Vw) (h' : List LB), GLe G.g.length G ⟨V', G.g⟩ ∧ SatH cx ⟨V', G.g⟩ h' w ∧ (∀ i, i < n ∨ n + m ≤ i → h'[i]? = h[i]?) ∧
    ∀ (i : Nat) (t : TypeId) (sz ver : Nat) (els : List (List D)) (v : Value), n ≤ i → i < n + m → h[i]? = some (.row t sz els ver) → Cr G (.own i ver) v → Dr V' (.lst sz els) v
  | 0 => ⟨G.V, h, .refl _ _, s, fun _ _ => rfl, fun i _ _ _ _ _ h1 h2 => by omega⟩
  | m + 1 => by
    obtain ⟨V1, h1, hG1, s1, hs1, hd1⟩ := freezeFrom n s m
    have hsame := hs1 (n + m) (.inr (Nat.le_refl _))
    by_cases hr : ∃ t sz ver els, h[n + m]? = some (.row t sz els ver)
    · obtain ⟨t, sz, ver, els, hi⟩ := hr
      obtain ⟨V2, hG2, s2, hd2⟩ := freeze_core s1 (hsame.trans hi)
      refine ⟨V2, h1.set (n + m) .dead, hG1.trans hG2, s2, fun i hi' => by rw [List.getElem?_set_ne (by omega)]; exact hs1 i (by omega), fun i t' sz' ver' els' v h2 h3 h4 h5 => ?_⟩
      by_cases him : i = n + m
      · subst him
        rw [hi] at h4
        cases h4
        exact hd2 v (Cr.mono hG1 h5.low h5)
      · exact (hd1 i t' sz' ver' els' v h2 (by omega) h4 h5).mono hG2.V
    · refine ⟨V1, h1, hG1, s1, fun i hi' => hs1 i (by omega), fun i t' sz' ver' els' v h2 h3 h4 h5 => ?_⟩
      by_cases him : i = n + m
      · subst him
        exact absurd ⟨_, _, _, _, h4⟩ hr
      · exact hd1 i t' sz' ver' els' v h2 (by omega) h4 h5
def Fw (pm : Pm) (st st' : St) : Prop := ∀ (cx : Cx) (G : Gh) (a : Act) (w : World), cx.pm = pm → Sat cx G st a w → ∃ G', Sat cx G' st' a w
theorem fitsV_ok {st st' : St} (h : fitsV pm st st') : Fw pm st st' := by
  intro cx G a w hp s
  obtain ⟨h1, h2, h3, h4, h5⟩ := h
  obtain ⟨h6, h7⟩ := preH_ok _ _ h2
  obtain ⟨V', hh, hG, s1, hs, hd⟩ := freezeFrom st'.heap.length s.h st.heap.length
  -- the frame with the rows that are left behind read as data
  have sat1 : Sat cx ⟨V', G.g⟩ ⟨st'.env, hh⟩ a w := by
    refine ⟨s1, fun t => ?_, s.N, s.defers⟩
    have hr := s.env t
    rcases subV_ok h1 t with e | e | e
    · show Ar _ (lk t st'.env) _
      rw [e]; trivial
    · show Ar _ (lk t st'.env) _
      rw [e]; exact hr.grow hG
    · show Ar _ (lk t st'.env) _
      generalize lk t st'.env = x at e
      generalize lk t st.env = y at e hr
      unfold frz at e
      split at e
      · next sz els i ver =>
        obtain ⟨hn, e⟩ := e
        split at e
        · next tt sz' els' v' hi =>
          obtain ⟨⟨rfl, rfl⟩, rfl⟩ := e
          have hlt := getElem?_lt hi
          exact hd i tt sz' v' els' _ hn (by omega) hi hr
        · exact e.elim
      · next els =>
        subst e
        have := ar_raw hr
        rw [this]
        exact Dr.lst _ [] none 0 (fun _ _ => undef) (by simp) (by simp) (by simp) (by simp) (by simp)
      · exact e.elim
  have hpre : st'.heap = hh.take st'.heap.length := by
    apply List.ext_getElem?
    intro i
    rw [List.getElem?_take]
    split
    · next hlt => rw [hs i (.inl hlt), h7, List.getElem?_take, if_pos (by simpa using by omega)]
    · next hge => exact List.getElem?_eq_none (by omega)
  have hlen : st'.heap.length ≤ hh.length := by
    rw [← s1.len]
    have := s.h.len
    show _ ≤ G.g.length
    omega
  exact ⟨_, sat1.fits (st' := st') ⟨fun t => .inr rfl, hlen, hpre, by rw [hp]; exact h3, lowEs_ok _ h4, lowHs_ok _ h5⟩⟩
theorem AXc.loopW {body : Code} {st : St} {Q : Exit → St → Prop} {S : Type} (enc : S → St) (I : S → Prop) (μ : S → Nat) (s0 : S) (h0 : I s0) (f0 : Fw pm st (enc s0))
    (round : ∀ s, I s → AXc P pm body (enc s) (Ethen (fun st' => ∃ s', I s' ∧ μ s' < μ s ∧ Fw pm st' (enc s')) Q)) : AXc P pm (.loop body) st Q := by
  intro cx G a w hp hs
  obtain ⟨G₀, s₀⟩ := f0 cx G a w hp hs
  refine wp2_loop (fun s a w => I s ∧ ∃ G, Sat cx G (enc s) a w) μ (s0 := s0) ⟨h0, _, s₀⟩ fun s a w ⟨hI, G, hsat⟩ => wp2_mono (round s hI cx G a w hp hsat) fun e a w ⟨G₁, st₁, s₁, q⟩ => ?_
  cases e with
  | normal =>
    obtain ⟨s', hI', hlt, hf⟩ := q
    obtain ⟨G₂, s₂⟩ := hf cx G₁ a w hp s₁
    exact ⟨s', hlt, hI', _, s₂⟩
  | _ => exact ⟨G₁, st₁, s₁, q⟩
theorem LoopV.nilrow {b : Code} {st : St} {Q : Exit → St → Prop} {t : Tok Q} (k : Nat) (te : TypeId) (sz : Nat) (h : LoopV P pm E b ⟨pute k (.c (.own st.heap.length 0)) st.env, st.heap ++ [.row te sz [] 0]⟩ Q ⟨⟩) (hk : lk k st.env = .c (.d (.raw (.slice none 0 0))) := by rfl) : LoopV P pm E b st Q t :=
  fun hok => AXc.nilrow k te sz hk (h hok)
def frame (keep : List Nat) (env : Env) : List (Nat × AV) → Env
  | [] => match keep with
    | [] => []
    | t :: r => pute t (lk t env) (frame r env [])
  | (t, α) :: vs => pute t α (frame keep env vs)
termination_by vs => (keep.length, vs.length)
theorem LoopV.of {b : Code} {st : St} {Q : Exit → St → Prop} {S : Type} (hm : P.follows .mixedOrders = true) (keep : List Nat) (vars : S → List (Nat × AV)) (heap : S → List LB) (I : S → Prop) (μ : S → Nat) (s0 : S) (h0 : I s0) (f0 : fitsV pm st ⟨frame keep st.env (vars s0), heap s0⟩)
    (round : ∀ s, I s → ap (vc P pm E b ⟨frame keep st.env (vars s), heap s⟩) (EthenT (fun st' => ∃ s', (I s' ∧ μ s' < μ s) ∧ fitsV pm st' ⟨frame keep st.env (vars s'), heap s'⟩) Q ⟨⟩ ⟨⟩) ⟨⟩) : LoopV P pm E b st Q ⟨⟩ :=
  fun hok => AXc.loopW (fun s => ⟨frame keep st.env (vars s), heap s⟩) I μ s0 h0 (fitsV_ok f0) fun s hs => (vc_ok hm b _ _ hok (round s hs)).mono fun e s hs => by
    cases e with
    | normal => obtain ⟨s', ⟨h1, h2⟩, h3⟩ := hs; exact ⟨s', h1, h2, fitsV_ok h3⟩
    | _ => exact hs
end
end Go.Ax
