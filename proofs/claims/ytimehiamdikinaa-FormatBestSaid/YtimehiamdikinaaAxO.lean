/-
  Guarded operations; a region that draws its order: walked once, in the order of the text. No condition.
-/
import Derived.Test.YtimehiamdikinaaAxN
set_option linter.all false
namespace Go.Ax
open Go Go.RowKit

variable {P : Program} {pm : Pm} {ops : Array Oper} {rest : List Oper} {st : St} {K : St → Prop} {h : List LB}

/-- Is the operation wanted, as far as the state tells? -/
def wantedA (ops : Array Oper) (o : Oper) (ρ : Env) : Option Bool :=
  match o.guard with
  | none => some true
  | some (j, want) => match (ops[j]?).bind (·.dst) with
    | some d => match lk d ρ with
      | .c (.d (.bool b)) => some (b == want)
      | .tup [] => some false
      | _ => none
    | none => none

/-- A slot of an operation that was left out. -/
abbrev U : AV := .tup []
theorem U_ok {G : Gh} : Ar G U undef := ⟨[], rfl, .nil⟩
theorem ar_undef {G : Gh} {v : Value} (h : Ar G (.tup []) v) : v = undef := by
  obtain ⟨us, rfl, hu⟩ := h
  cases hu; rfl
theorem wanted_of {G : Gh} {o : Oper} {ρ : Env} {a : Act} {b : Bool} (hw : wantedA ops o ρ = some b) (hd : ∀ j want d, o.guard = some (j, want) → (ops[j]?).bind (·.dst) = some d → d < a.tmps.size ∧ Ar G (lk d ρ) (a.tmps.getD d undef)) :
    Region.wanted o (yielded ops a.tmps) = b := by
  unfold wantedA at hw
  unfold Region.wanted
  split at hw
  · next e => cases hw; simp [e]
  · next j want e =>
    split at hw
    · next d hdd =>
      split at hw
      · next c hlk =>
        cases hw
        obtain ⟨h1, h2⟩ := hd j want d e hdd
        rw [hlk] at h2
        have hv := ar_bool h2
        have : a.tmps[d]? = some (.bool c) := by
          rw [Array.getElem?_eq_getElem h1]
          rw [← hv]
          simp [Array.getD, h1]
        simp only [e, yielded, hdd, Option.bind_some, this]
        rw [Bool.eq_iff_iff]
        simp
      · next hlk =>
        cases hw
        obtain ⟨h1, h2⟩ := hd j want d e hdd
        rw [hlk] at h2
        have hv := ar_undef h2
        have : a.tmps[d]? = some undef := by
          rw [Array.getElem?_eq_getElem h1]
          rw [← hv]
          simp [Array.getD, h1]
        simp [e, yielded, hdd, this, undef]
      · cases hw
    · cases hw

theorem Sat.guard {cx : Cx} {G : Gh} {a : Act} {w : World} (s : Sat cx G st a w) {o : Oper} {b : Bool} (hw : wantedA ops o st.env = some b) (hN : ∀ j want d, o.guard = some (j, want) → (ops[j]?).bind (·.dst) = some d → d < cx.pm.N) : Region.wanted o (yielded ops a.tmps) = b :=
  wanted_of hw fun j want d h1 h2 => ⟨by rw [s.N]; exact hN j want d h1 h2, s.ev (.tmp d)⟩

def gdOk (ops : Array Oper) (N : Nat) (o : Oper) : Bool :=
  match o.guard with
  | none => true
  | some (j, _) => match (ops[j]?).bind (·.dst) with
    | some d => decide (d < N)
    | none => true
theorem gdOk_spec {N : Nat} {o : Oper} (h : gdOk ops N o = true) : ∀ j want d, o.guard = some (j, want) → (ops[j]?).bind (·.dst) = some d → d < N := by
  intro j want d h1 h2
  unfold gdOk at h
  rw [h1] at h
  simp only [h2] at h
  exact of_decide_eq_true h

theorem AXl.qt_guard {o : Oper} {r : AV} (hd : dstOk pm.N o.dst) (hw : wantedA ops o st.env = some true) (hg : gdOk ops pm.N o = true) (hq : Qt P pm st.heap o (ev pm.Γ st.env) r) (hk : AXl P pm ops rest (st.put o.dst r) K) : AXl P pm ops (o :: rest) st K := by
  intro cx G a w Q hp s hQ
  refine wpList_step fun K' hK' => ?_
  rw [if_pos (s.guard hw (hp ▸ gdOk_spec hg))]
  refine hq cx G w a hp s.h (fun x _ => hp ▸ s.ev x) _ _ fun v w' G' hG sh hv => hK' _ _ ?_
  exact hk cx G' _ w' Q hp ((s.step hG sh).put hv (hp ▸ hd)) hQ

theorem AXl.skip_guard {o : Oper} (hd : dstOk pm.N o.dst) (hw : wantedA ops o st.env = some false) (hg : gdOk ops pm.N o = true) (hk : AXl P pm ops rest (st.put o.dst U) K) : AXl P pm ops (o :: rest) st K := by
  intro cx G a w Q hp s hQ
  refine wpList_step fun K' hK' => ?_
  rw [if_neg (by rw [s.guard hw (hp ▸ gdOk_spec hg)]; simp)]
  refine hK' _ _ ?_
  exact hk cx G _ w Q hp (s.put U_ok (hp ▸ hd)) hQ

/-- A test's slot, its value parted: in each part the slot holds the value written out. -/
theorem AXl.split (d : Nat) (b : Bool) (hb : lk d st.env = .c (.d (.bool b))) (ht : b = true → AXl P pm ops rest ⟨pute d (.c (.d (.bool true))) st.env, st.heap⟩ K) (hf : b = false → AXl P pm ops rest ⟨pute d (.c (.d (.bool false))) st.env, st.heap⟩ K) : AXl P pm ops rest st K := by
  intro cx G a w Q hp s hQ
  have key : ∀ c : Bool, b = c → Sat cx G ⟨pute d (.c (.d (.bool c))) st.env, st.heap⟩ a w := by
    intro c hc
    subst hc
    refine ⟨s.h, fun t => ?_, s.N, s.defers⟩
    rw [lk_put]
    split
    · next e => subst e; rw [← hb]; exact s.ev (.tmp d)
    · exact s.env t
  cases b with
  | true => exact ht rfl cx G a w Q hp (key true rfl) hQ
  | false => exact hf rfl cx G a w Q hp (key false rfl) hQ

/-! ### a region that draws its order -/
def putE (dst : Option Nat) (α : AV) (ρ : Env) : Env :=
  match dst with
  | none => ρ
  | some t => pute t (α) ρ

inductive Run (P : Program) (pm : Pm) (h : List LB) (ops : Array Oper) : List Oper → Env → Env → Prop where
  | nil (ρ : Env) : Run P pm h ops [] ρ ρ
  | op (o : Oper) (rest : List Oper) (ρ ρ' : Env) (r : AV) (hw : wantedA ops o ρ = some true) (hq : Qt P pm h o (ev pm.Γ ρ) r) (hr : Run P pm h ops rest (putE o.dst r ρ) ρ') : Run P pm h ops (o :: rest) ρ ρ'
  | skip (o : Oper) (rest : List Oper) (ρ ρ' : Env) (hw : wantedA ops o ρ = some false) (hr : Run P pm h ops rest (putE o.dst U ρ) ρ') : Run P pm h ops (o :: rest) ρ ρ'
  | same (rest : List Oper) (ρ ρ₁ ρ' : Env) (hs : ∀ t, lk t ρ₁ = lk t ρ) (hr : Run P pm h ops rest ρ₁ ρ') : Run P pm h ops rest ρ ρ'

def AXd (P : Program) (pm : Pm) (h : List LB) (ops : Array Oper) (pre : List Oper) (ρ : Env) (Kd : Env → Prop) : Prop := ∃ ρ', Run P pm h ops pre ρ ρ' ∧ Kd ρ'

theorem AXd.nil {ρ : Env} {Kd : Env → Prop} (hk : Kd ρ) : AXd P pm h ops [] ρ Kd := ⟨ρ, .nil ρ, hk⟩
theorem AXd.op {o : Oper} {ρ : Env} {Kd : Env → Prop} {r : AV} (hw : wantedA ops o ρ = some true) (hq : Qt P pm h o (ev pm.Γ ρ) r) (hk : AXd P pm h ops rest (putE o.dst r ρ) Kd) : AXd P pm h ops (o :: rest) ρ Kd := by
  obtain ⟨ρ', h1, h2⟩ := hk
  exact ⟨ρ', .op o rest ρ ρ' r hw hq h1, h2⟩
theorem AXd.skip {o : Oper} {ρ : Env} {Kd : Env → Prop} (hw : wantedA ops o ρ = some false) (hk : AXd P pm h ops rest (putE o.dst U ρ) Kd) : AXd P pm h ops (o :: rest) ρ Kd := by
  obtain ⟨ρ', h1, h2⟩ := hk
  exact ⟨ρ', .skip o rest ρ ρ' hw h1, h2⟩
theorem AXd.split {ρ : Env} {Kd : Env → Prop} (d : Nat) (b : Bool) (hb : lk d ρ = .c (.d (.bool b))) (ht : b = true → AXd P pm h ops rest (pute d (.c (.d (.bool true))) ρ) Kd) (hf : b = false → AXd P pm h ops rest (pute d (.c (.d (.bool false))) ρ) Kd) : AXd P pm h ops rest ρ Kd := by
  have key : ∀ c : Bool, b = c → AXd P pm h ops rest (pute d (.c (.d (.bool c))) ρ) Kd → AXd P pm h ops rest ρ Kd := by
    rintro c rfl ⟨ρ', h1, h2⟩
    refine ⟨ρ', .same _ ρ _ ρ' (fun t => ?_) h1, h2⟩
    rw [lk_put]
    split
    · next e => rw [← e, hb]
    · rfl
  cases b with
  | true => exact key true rfl (ht rfl)
  | false => exact key false rfl (hf rfl)

/-- Slots that a list of operations writes. -/
def dsts (l : List Oper) : List Nat := l.filterMap (·.dst)

theorem lk_putE {t : Nat} {dst : Option Nat} {α : AV} {ρ : Env} (h : dst ≠ some t) : lk t (putE dst α ρ) = lk t ρ := by
  cases dst with
  | none => rfl
  | some k => simp only [putE]; rw [lk_put, if_neg (fun e => h (by rw [e]))]

theorem Run.out {l : List Oper} {ρ ρ' : Env} (hr : Run P pm h ops l ρ ρ') : ∀ t, t ∉ dsts l → lk t ρ' = lk t ρ := by
  induction hr with
  | nil ρ => intro t _; rfl
  | op o rest ρ ρ' r hw hq hr ih =>
    intro t ht
    simp only [dsts, List.filterMap_cons] at ht
    cases e : o.dst with
    | none => rw [e] at ht; rw [ih t ht, e]; rfl
    | some k =>
      rw [e] at ht
      simp only [List.mem_cons, not_or] at ht
      rw [ih t ht.2, e, lk_putE (by simpa using fun e' => ht.1 e'.symm)]
  | skip o rest ρ ρ' hw hr ih =>
    intro t ht
    simp only [dsts, List.filterMap_cons] at ht
    cases e : o.dst with
    | none => rw [e] at ht; rw [ih t ht, e]; rfl
    | some k =>
      rw [e] at ht
      simp only [List.mem_cons, not_or] at ht
      rw [ih t ht.2, e, lk_putE (by simpa using fun e' => ht.1 e'.symm)]
  | same rest ρ ρ₁ ρ' hs hr ih => intro t ht; rw [ih t ht, hs]

/-- What the walk says of operation number i. -/
theorem Run.at {l : List Oper} {ρ ρ' : Env} (hr : Run P pm h ops l ρ ρ') (hnd : (dsts l).Nodup) : ∀ (i : Nat) (o : Oper), l[i]? = some o →
    ∃ ρi, (∀ t, t ∉ dsts (l.take i) → lk t ρi = lk t ρ) ∧ (∀ t, t ∉ dsts (l.drop i) → lk t ρ' = lk t ρi) ∧
      ((wantedA ops o ρi = some true ∧ ∃ r, Qt P pm h o (ev pm.Γ ρi) r ∧ ∀ d, o.dst = some d → lk d ρ' = r) ∨ (wantedA ops o ρi = some false ∧ ∀ d, o.dst = some d → lk d ρ' = U)) := by
  induction hr with
  | nil ρ => intro i o hi; simp at hi
  | op o rest ρ ρ' r hw hq hr ih =>
    intro i o' hi
    have hnd' : (dsts rest).Nodup := by
      simp only [dsts, List.filterMap_cons] at hnd
      split at hnd
      · exact hnd
      · exact (List.nodup_cons.1 hnd).2
    cases i with
    | zero =>
      simp at hi
      subst hi
      refine ⟨ρ, fun t _ => rfl, fun t ht => (Run.op o rest ρ ρ' r hw hq hr).out t (by simpa using ht), .inl ⟨hw, r, hq, fun d hd => ?_⟩⟩
      have : d ∉ dsts rest := by
        simp only [dsts, List.filterMap_cons, hd] at hnd
        exact (List.nodup_cons.1 hnd).1
      rw [hr.out d this, hd]
      simp [putE, lk_put]
    | succ i =>
      obtain ⟨ρi, h1, h2, h3⟩ := ih hnd' i o' (by simpa using hi)
      refine ⟨ρi, fun t ht => ?_, fun t ht => h2 t (by simpa using ht), h3⟩
      simp only [List.take_succ_cons, dsts, List.filterMap_cons] at ht
      cases e : o.dst with
      | none => rw [e] at ht; rw [h1 t ht, e]; rfl
      | some k =>
        rw [e] at ht
        simp only [List.mem_cons, not_or] at ht
        rw [h1 t ht.2, e, lk_putE (by simpa using fun e' => ht.1 e'.symm)]
  | skip o rest ρ ρ' hw hr ih =>
    intro i o' hi
    have hnd' : (dsts rest).Nodup := by
      simp only [dsts, List.filterMap_cons] at hnd
      split at hnd
      · exact hnd
      · exact (List.nodup_cons.1 hnd).2
    cases i with
    | zero =>
      simp at hi
      subst hi
      refine ⟨ρ, fun t _ => rfl, fun t ht => (Run.skip o rest ρ ρ' hw hr).out t (by simpa using ht), .inr ⟨hw, fun d hd => ?_⟩⟩
      have : d ∉ dsts rest := by
        simp only [dsts, List.filterMap_cons, hd] at hnd
        exact (List.nodup_cons.1 hnd).1
      rw [hr.out d this, hd]
      simp [putE, lk_put]
    | succ i =>
      obtain ⟨ρi, h1, h2, h3⟩ := ih hnd' i o' (by simpa using hi)
      refine ⟨ρi, fun t ht => ?_, fun t ht => h2 t (by simpa using ht), h3⟩
      simp only [List.take_succ_cons, dsts, List.filterMap_cons] at ht
      cases e : o.dst with
      | none => rw [e] at ht; rw [h1 t ht, e]; rfl
      | some k =>
        rw [e] at ht
        simp only [List.mem_cons, not_or] at ht
        rw [h1 t ht.2, e, lk_putE (by simpa using fun e' => ht.1 e'.symm)]
  | same rest ρ ρ₁ ρ' hs hr ih =>
    intro i o hi
    obtain ⟨ρi, h1, h2, h3⟩ := ih hnd i o hi
    exact ⟨ρi, fun t ht => by rw [h1 t ht, hs], h2, h3⟩
end Go.Ax
