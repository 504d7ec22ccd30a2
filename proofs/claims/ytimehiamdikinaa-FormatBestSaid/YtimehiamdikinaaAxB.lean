/-
  The abstract state held against a world; the rules for code, one for each form of code. No condition.
-/
import Derived.Test.YtimehiamdikinaaAxA
set_option linter.all false
namespace Go.Ax
open Go Go.RowKit

inductive LB where
  | box (t : TypeId) (cs : List C)
  | row (t : TypeId) (sz : Nat) (els : List (List D)) (ver : Nat)
  | dead

def LB.live : LB → Prop
  | .dead => False
  | _ => True

def blkOf : Value → Option Nat
  | .pointer (some a) => some a.block
  | .slice (some a) _ _ => some a.block
  | _ => none

def Lr (G : Gh) (w : World) (base : Nat) : LB → Value × Nat → Prop
  | .dead, _ => True
  | .box t cs, e => e.2 = 0 ∧ ∃ (b : Nat) (vs : List Value), e.1 = .pointer (some ⟨b, 0, none⟩) ∧ base ≤ b ∧ G.V.H b = none ∧ w.heap[b]? = some (.cells vs.toArray t (0, 0)) ∧ All2 (Cr G) cs vs
  | .row t sz els ver, e => e.2 = ver ∧ ∃ xs, w.ownsRow base t sz e.1 els.length xs ∧ (∀ b, e.1.ownBlock = some b → G.V.H b = none) ∧ All2 (Dr G.V) els.flatten xs ∧ ∀ x ∈ els, x.length = sz

structure Pm where
  n0 : Nat
  N : Nat
  Γ : List (Nat × List D)

structure Cx where
  pm : Pm
  w0 : World
  S : Nat → Prop
  G0 : Gh

structure SatH (cx : Cx) (G : Gh) (h : List LB) (w : World) : Prop where
  len : G.g.length = h.length
  ent : ∀ (i : Nat) (b : LB) (e : Value × Nat), h[i]? = some b → G.g[i]? = some e → Lr G w cx.w0.heap.size b e
  sep : ∀ (i j : Nat) (bi bj : LB) (ei ej : Value × Nat) (k : Nat), h[i]? = some bi → h[j]? = some bj → bi.live → bj.live → G.g[i]? = some ei → G.g[j]? = some ej → blkOf ei.1 = some k → blkOf ej.1 = some k → i = j
  view : ∀ b o, G.V.H b = some o → w.heap[b]? = some o
  imm : ∀ b, G.V.I b → (∃ o, G.V.H b = some o) ∧ (cx.S b ∨ cx.w0.heap.size ≤ b)
  below : Below cx.w0.heap.size cx.w0 w
  ext : GLe cx.pm.n0 cx.G0 G
  glob : ∀ p, p ∈ cx.pm.Γ → Cr G (.ptr p.2) (.pointer (some ⟨p.1, 0, none⟩))

/-- The slots, eight to a row. -/
abbrev Env := List (List AV)
structure St where
  env : Env
  heap : List LB

def g1 : List AV → Nat → AV
  | [], _ => .any
  | a :: _, 0 => a
  | _ :: r, n + 1 => g1 r n
def g2 : Env → Nat → List AV
  | [], _ => []
  | c :: _, 0 => c
  | _ :: r, n + 1 => g2 r n
def s1 : List AV → Nat → AV → List AV
  | [], 0, α => [α]
  | [], n + 1, α => .any :: s1 [] n α
  | _ :: r, 0, α => α :: r
  | a :: r, n + 1, α => a :: s1 r n α
def s2 : Env → Nat → List AV → Env
  | [], 0, c => [c]
  | [], n + 1, c => [] :: s2 [] n c
  | _ :: r, 0, c => c :: r
  | d :: r, n + 1, c => d :: s2 r n c
/-- What a slot holds; and a slot given. -/
def lk (t : Nat) (e : Env) : AV := g1 (g2 e (t / 8)) (t % 8)
def pute (t : Nat) (α : AV) (e : Env) : Env := s2 e (t / 8) (s1 (g2 e (t / 8)) (t % 8) α)
def St.put (st : St) (dst : Option Nat) (α : AV) : St :=
  match dst with
  | none => st
  | some t => ⟨pute t α st.env, st.heap⟩

def cAV : Value → AV
  | .int k n => .c (.d (.int k n))
  | .bool b => .c (.d (.bool b))
  | .string s => .c (.d (.str s.data.toList))
  | .slice none 0 0 => .c (.d (.raw (.slice none 0 0)))
  | _ => .any

def lkG (g : Nat) : List (Nat × List D) → AV
  | [] => .any
  | (k, cs) :: r => if k = g then .c (.ptr cs) else lkG g r

def ev (Γ : List (Nat × List D)) (env : Env) : Operand → AV
  | .tmp t => lk t env
  | .const v => cAV v
  | .global g => lkG g Γ
  | .func f => .c (.clo f [])

structure Sat (cx : Cx) (G : Gh) (st : St) (a : Act) (w : World) : Prop where
  h : SatH cx G st.heap w
  env : ∀ t, Ar G (lk t st.env) (a.tmps.getD t undef)
  N : a.tmps.size = cx.pm.N
  defers : a.defers = []

theorem g1_s1 : ∀ (l : List AV) (k t : Nat) (α : AV), g1 (s1 l k α) t = if k = t then α else g1 l t
  | [], 0, 0, α => by simp [s1, g1]
  | [], 0, t + 1, α => by simp [s1, g1]
  | [], k + 1, 0, α => by simp [s1, g1]
  | [], k + 1, t + 1, α => by simp [s1, g1, g1_s1 [] k t α]
  | a :: r, 0, 0, α => by simp [s1, g1]
  | a :: r, 0, t + 1, α => by simp [s1, g1]
  | a :: r, k + 1, 0, α => by simp [s1, g1]
  | a :: r, k + 1, t + 1, α => by simp [s1, g1, g1_s1 r k t α]
theorem g2_s2 : ∀ (e : Env) (k t : Nat) (c : List AV), g2 (s2 e k c) t = if k = t then c else g2 e t
  | [], 0, 0, α => by simp [s2, g2]
  | [], 0, t + 1, α => by simp [s2, g2]
  | [], k + 1, 0, α => by simp [s2, g2]
  | [], k + 1, t + 1, α => by simp [s2, g2, g2_s2 [] k t α]
  | a :: r, 0, 0, α => by simp [s2, g2]
  | a :: r, 0, t + 1, α => by simp [s2, g2]
  | a :: r, k + 1, 0, α => by simp [s2, g2]
  | a :: r, k + 1, t + 1, α => by simp [s2, g2, g2_s2 r k t α]
theorem lk_put {t k : Nat} {α : AV} {ρ : Env} : lk t (pute k α ρ) = if k = t then α else lk t ρ := by
  unfold lk pute
  rw [g2_s2]
  by_cases h1 : k / 8 = t / 8
  · rw [if_pos h1, g1_s1]
    by_cases h2 : k % 8 = t % 8
    · rw [if_pos h2, if_pos (by omega)]
    · rw [if_neg h2, if_neg (by omega), h1]
  · rw [if_neg h1, if_neg (by omega)]

theorem byteArray_eta (s : ByteArray) : (⟨s.data.toList.toArray⟩ : ByteArray) = s := by cases s; simp

theorem cAV_ok (G : Gh) (v : Value) : Ar G (cAV v) v := by
  unfold cAV
  split
  · exact Dr.int _ _
  · exact Dr.bool _
  · next s => exact (byteArray_eta s) ▸ (Dr.str (V := G.V) s.data.toList)
  · exact Dr.raw _ rfl
  · trivial

theorem lkG_ok {cx : Cx} {G : Gh} {g : Nat} : ∀ (Γ : List (Nat × List D)), (∀ p, p ∈ Γ → Cr G (.ptr p.2) (.pointer (some ⟨p.1, 0, none⟩))) → Ar G (lkG g Γ) (.pointer (some ⟨g, 0, none⟩))
  | [], _ => trivial
  | (k, cs) :: r, h => by
    by_cases hk : k = g
    · subst hk; simp only [lkG, if_true]; exact h (k, cs) (by simp)
    · simp only [lkG, hk, if_false]; exact lkG_ok (cx := cx) r fun p hp => h p (by simp [hp])

theorem Sat.ev {cx : Cx} {G : Gh} {st : St} {a : Act} {w : World} (s : Sat cx G st a w) (x : Operand) : Ar G (ev cx.pm.Γ st.env x) (a.eval x) := by
  cases x with
  | tmp t =>
    exact s.env t
  | const v => exact cAV_ok G v
  | global g => exact lkG_ok (cx := cx) _ s.h.glob
  | func f => exact ⟨[], rfl, .nil⟩

def dstOk (N : Nat) : Option Nat → Prop
  | none => True
  | some t => t < N

theorem Sat.put {cx : Cx} {G : Gh} {st : St} {a : Act} {w : World} (s : Sat cx G st a w) {dst : Option Nat} {α : AV} {v : Value} (hr : Ar G α v) (hd : dstOk cx.pm.N dst) : Sat cx G (st.put dst α) (a.put dst v) w := by
  cases dst with
  | none => exact s
  | some t =>
    refine ⟨s.h, fun k => ?_, by simpa [Act.put] using s.N, s.defers⟩
    have hN : t < a.tmps.size := by rw [s.N]; exact hd
    simp only [Act.put, St.put]
    rw [lk_put]
    by_cases htk : t = k
    · subst htk
      have : (a.tmps.setIfInBounds t v).getD t undef = v := by simp [Array.getD, hN]
      rw [this, if_pos rfl]; exact hr
    · have : (a.tmps.setIfInBounds t v).getD k undef = a.tmps.getD k undef := by
        simp only [Array.getD_eq_getD_getElem?, Array.getElem?_setIfInBounds]
        rw [if_neg (by omega)]
      rw [this, if_neg htk]; exact s.env k

theorem GLe.all {G G' : Gh} (h : GLe G.g.length G G') (m : Nat) : GLe m G G' := ⟨h.V, fun i v n _ e => h.g i v n (getElem?_lt e) e⟩

/-- The world and the local memory move on; the frame stays. -/
theorem Sat.step {cx : Cx} {G G' : Gh} {st : St} {h' : List LB} {a : Act} {w w' : World} (s : Sat cx G st a w) (hG : GLe G.g.length G G') (hh : SatH cx G' h' w') : Sat cx G' ⟨st.env, h'⟩ a w' :=
  ⟨hh, fun t => (s.env t).grow hG, s.N, s.defers⟩

def Post (cx : Cx) (Q : Exit → St → Prop) : Exit → Act → World → Prop := fun e a w => ∃ G st, Sat cx G st a w ∧ Q e st

variable {P : Program}

def AXc (P : Program) (pm : Pm) (c : Code) (st : St) (Q : Exit → St → Prop) : Prop :=
  ∀ (cx : Cx) (G : Gh) (a : Act) (w : World), cx.pm = pm → Sat cx G st a w → c.wp P (Post cx Q) a w

def AXl (P : Program) (pm : Pm) (ops : Array Oper) (rest : List Oper) (st : St) (K : St → Prop) : Prop :=
  ∀ (cx : Cx) (G : Gh) (a : Act) (w : World) (Q : Exit → Act → World → Prop), cx.pm = pm → Sat cx G st a w →
    (∀ G' st' a' w', Sat cx G' st' a' w' → K st' → Q .normal a' w') → wpList P ops Q rest a w

def Ethen (K : St → Prop) (Q : Exit → St → Prop) : Exit → St → Prop
  | .normal, st => K st
  | e, st => Q e st
def EinBlock (id : Nat) (Q : Exit → St → Prop) : Exit → St → Prop
  | .exit id', st => if id' = id then Q .normal st else Q (.exit id') st
  | e, st => Q e st

theorem AXc.mono {pm : Pm} {c : Code} {st : St} {Q Q' : Exit → St → Prop} (h : AXc P pm c st Q) (hq : ∀ e s, Q e s → Q' e s) : AXc P pm c st Q' :=
  fun cx G a w hp s => wp_mono (h cx G a w hp s) fun e a w ⟨G', st', s', q⟩ => ⟨G', st', s', hq _ _ q⟩

theorem AXc.seq {pm : Pm} {x y : Code} {st : St} {Q : Exit → St → Prop} (h : ∀ K : St → Prop, (∀ st', AXc P pm y st' Q → K st') → AXc P pm x st (Ethen K Q)) : AXc P pm (.seq x y) st Q := by
  intro cx G a w hp s
  refine wp_seq (wp_mono (h (fun st' => AXc P pm y st' Q) (fun _ h => h) cx G a w hp s) ?_)
  rintro e a' w' ⟨G', st', s', q⟩
  cases e with
  | normal => exact q cx G' a' w' hp s'
  | _ => exact ⟨G', st', s', q⟩

theorem AXc.cond {pm : Pm} {c : Operand} {x y : Code} {st : St} {Q : Exit → St → Prop} {b : Bool} (hc : ev pm.Γ st.env c = .c (.d (.bool b))) (ht : b = true → AXc P pm x st Q) (hf : b = false → AXc P pm y st Q) : AXc P pm (.cond c x y) st Q := by
  intro cx G a w hp s
  have h := s.ev c
  rw [hp, hc] at h
  have hv : a.eval c = .bool b := by
    generalize a.eval c = v at h
    cases h; rfl
  exact wp_cond_split hv (fun e => ht e cx G a w hp s) (fun e => hf e cx G a w hp s)

theorem AXc.block {pm : Pm} {id : Nat} {c : Code} {st : St} {Q : Exit → St → Prop} (h : AXc P pm c st (EinBlock id Q)) : AXc P pm (.block id c) st Q := by
  intro cx G a w hp s
  refine wp_block (wp_mono (h cx G a w hp s) ?_)
  rintro e a' w' ⟨G', st', s', q⟩
  cases e with
  | exit id' =>
    by_cases hid : id' = id
    · simp only [Exit.inBlock, hid, if_true]
      simp only [EinBlock, hid, if_true] at q
      exact ⟨G', st', s', q⟩
    · simp only [Exit.inBlock, hid, if_false]
      simp only [EinBlock, hid, if_false] at q
      exact ⟨G', st', s', q⟩
  | _ => exact ⟨G', st', s', q⟩

theorem AXc.skip {pm : Pm} {st : St} {Q : Exit → St → Prop} (h : Q .normal st) : AXc P pm .skip st Q := fun _ G _ _ _ s => wp_skip ⟨G, st, s, h⟩
theorem AXc.label {pm : Pm} {st : St} {l : Nat} {Q : Exit → St → Prop} (h : Q .normal st) : AXc P pm (.label l) st Q := fun _ G _ _ _ s => wp_label ⟨G, st, s, h⟩
theorem AXc.exit {pm : Pm} {st : St} {id : Nat} {Q : Exit → St → Prop} (h : Q (.exit id) st) : AXc P pm (.exit id) st Q := fun _ G _ _ _ s => wp_exit ⟨G, st, s, h⟩
theorem AXc.ret {pm : Pm} {st : St} {Q : Exit → St → Prop} (h : Q .ret st) : AXc P pm .ret st Q := fun _ G _ _ _ s => wp_ret ⟨G, st, s, h⟩

theorem AXc.region {pm : Pm} {id : Nat} {l : List Oper} {st : St} {Q : Exit → St → Prop} (h : AXl P pm l.toArray l st (Q .normal)) : AXc P pm (.region id l.toArray false) st Q :=
  fun cx G a w hp s => wp_region_lit (h cx G a w _ hp s fun G' st' _ _ s' k => ⟨G', st', s', k⟩)

theorem AXl.nil {pm : Pm} {ops : Array Oper} {st : St} {K : St → Prop} (h : K st) : AXl P pm ops [] st K :=
  fun _ G _ _ _ _ s hQ => hQ G st _ _ s h

/-! ### Forgetting -/

def subE (env' env : Env) : Prop := ∀ t, lk t env' = .any ∨ lk t env' = lk t env

theorem subE_ok {cx : Cx} {G : Gh} {st : St} {a : Act} {w : World} (s : Sat cx G st a w) : ∀ env', subE env' st.env → ∀ t, Ar G (lk t env') (a.tmps.getD t undef) := by
  intro env' h t
  rcases h t with h | h
  · rw [h]; trivial
  · rw [h]; exact s.ev (.tmp t)

theorem AXc.weaken {pm : Pm} {c : Code} {st : St} {Q : Exit → St → Prop} (env : Env) (hs : subE env st.env) (h : AXc P pm c ⟨env, st.heap⟩ Q) : AXc P pm c st Q :=
  fun cx G a w hp s => h cx G a w hp ⟨s.h, subE_ok s env hs, s.N, s.defers⟩

def LB.low (m : Nat) : LB → Prop
  | .box _ cs => ∀ c ∈ cs, c.low m
  | _ => True

/-- What may be forgotten: slots, and the last local entries where nothing that is kept refers to them. -/
structure Fits (pm : Pm) (st st' : St) : Prop where
  env : subE st'.env st.env
  len : st'.heap.length ≤ st.heap.length
  heap : st'.heap = st.heap.take st'.heap.length
  n0 : pm.n0 ≤ st'.heap.length
  lowE : ∀ t, (lk t st'.env).low st'.heap.length
  lowH : ∀ b, b ∈ st'.heap → b.low st'.heap.length

theorem gle_take {G : Gh} {m k : Nat} (h : m ≤ k) : GLe m G ⟨G.V, G.g.take k⟩ :=
  ⟨.refl _, fun i v n hi e => ⟨v, n, by simp [List.getElem?_take, show i < k by omega, e], Nat.le_refl _, fun _ => rfl, fun _ => ⟨rfl, rfl⟩⟩⟩

theorem Lr.mono {G G' : Gh} {w : World} {base m : Nat} {b : LB} {e : Value × Nat} (hG : GLe m G G') (hH : ∀ b, G.V.H b = none → G'.V.H b = none) (hl : b.low m) (h : Lr G w base b e) : Lr G' w base b e := by
  cases b with
  | dead => trivial
  | box t cs =>
    obtain ⟨h1, b, vs, h2, h3, h4, h5, h6⟩ := h
    exact ⟨h1, b, vs, h2, h3, hH _ h4, h5, h6.imp' fun c v hm hc => hc.mono hG (hl c hm)⟩
  | row t sz els ver =>
    obtain ⟨h1, xs, h2, h3, h4, h5⟩ := h
    exact ⟨h1, xs, h2, fun b hb => hH _ (h3 b hb), h4.imp fun _ _ hd => hd.mono hG.V, h5⟩

theorem Lr.low {G : Gh} {w : World} {base : Nat} {b : LB} {e : Value × Nat} (h : Lr G w base b e) : b.low G.g.length := by
  cases b with
  | box t cs => obtain ⟨_, b, vs, _, _, _, _, h6⟩ := h; exact All2.low h6
  | _ => trivial

/-- The same where what stays has grown, the entry's own block apart. -/
theorem Lr.mono' {G G' : Gh} {w : World} {base : Nat} {b : LB} {e : Value × Nat} (hG : GLe G.g.length G G') (hH : ∀ k, b.live → blkOf e.1 = some k → G'.V.H k = none) (h : Lr G w base b e) : Lr G' w base b e := by
  have hlow := h.low
  cases b with
  | dead => trivial
  | box t cs =>
    obtain ⟨h1, b, vs, h2, h3, h4, h5, h6⟩ := h
    exact ⟨h1, b, vs, h2, h3, hH b trivial (by rw [h2]; rfl), h5, h6.imp' fun c v hm hc => hc.mono hG (hlow c hm)⟩
  | row t sz els ver =>
    obtain ⟨h1, xs, h2, h3, h4, h5⟩ := h
    refine ⟨h1, xs, h2, fun b hb => hH b trivial ?_, h4.imp fun _ _ hd => hd.mono hG.V, h5⟩
    obtain ⟨_, ⟨e2, _⟩ | ⟨g, cap, cur, e2, _⟩⟩ := h2
    · rw [e2] at hb; cases hb
    · rw [e2] at hb ⊢; exact hb

theorem Sat.fits {cx : Cx} {G : Gh} {st st' : St} {a : Act} {w : World} (s : Sat cx G st a w) (f : Fits cx.pm st st') : Sat cx ⟨G.V, G.g.take st'.heap.length⟩ st' a w := by
  have hg : GLe st'.heap.length G ⟨G.V, G.g.take st'.heap.length⟩ := gle_take (Nat.le_refl _)
  have hl : (G.g.take st'.heap.length).length = st'.heap.length := by rw [List.length_take, s.h.len]; have := f.len; omega
  have hh : ∀ i b, st'.heap[i]? = some b → st.heap[i]? = some b := fun i b hb => by
    have hi := getElem?_lt hb
    rw [f.heap, List.getElem?_take, if_pos hi] at hb
    exact hb
  have hgg : ∀ i e, (G.g.take st'.heap.length)[i]? = some e → G.g[i]? = some e := fun i e he => by
    rw [List.getElem?_take] at he
    split at he
    · exact he
    · cases he
  refine ⟨⟨hl, fun i b e hb he => ?_, ?_, s.h.view, s.h.imm, s.h.below, s.h.ext.trans (gle_take f.n0), fun p hp => (s.h.glob p hp).mono hg trivial⟩, fun t => ?_, s.N, s.defers⟩
  · exact (s.h.ent i b e (hh i b hb) (hgg i e he)).mono hg (fun _ h => h) (f.lowH b (List.mem_of_getElem? hb))
  · intro i j bi bj ei ej k h1 h2 h3 h4 h5 h6 h7 h8
    exact s.h.sep i j bi bj ei ej k (hh _ _ h1) (hh _ _ h2) h3 h4 (hgg _ _ h5) (hgg _ _ h6) h7 h8
  · exact (subE_ok s _ f.env t).mono hg (f.lowE t)

theorem AXc.forget {pm : Pm} {c : Code} {st : St} {Q : Exit → St → Prop} (st' : St) (f : Fits pm st st') (h : AXc P pm c st' Q) : AXc P pm c st Q :=
  fun cx G a w hp s => h cx _ a w hp (s.fits (hp ▸ f))

/-- A loop: what holds at the head is a state of a family. -/
theorem AXc.loop {pm : Pm} {body : Code} {st : St} {Q : Exit → St → Prop} {S : Type} (enc : S → St) (I : S → Prop) (μ : S → Nat) (s0 : S) (h0 : I s0) (f0 : Fits pm st (enc s0))
    (round : ∀ s, I s → AXc P pm body (enc s) (Ethen (fun st' => ∃ s', I s' ∧ μ s' < μ s ∧ Fits pm st' (enc s')) Q)) : AXc P pm (.loop body) st Q := by
  intro cx G a w hp hs b k cs
  have key : ∀ n s, I s → μ s = n → ∀ G a w, Sat cx G (enc s) a w →
      ∃ e a' w', Post cx Q e a' w' ∧ Arrives P (lone (b.at a (.code body :: .inLoop body :: k)) cs w) b k cs e a' w' := by
    intro n
    induction n using Nat.strongRecOn with
    | _ n ih =>
      intro s hI hn G a w hsat
      obtain ⟨e, a₁, w₁, ⟨G₁, st₁, s₁, q⟩, harr⟩ := round s hI cx G a w hp hsat b (.inLoop body :: k) cs
      cases e with
      | normal =>
        obtain ⟨s', hI', hlt, hf⟩ := q
        obtain ⟨e₂, a₂, w₂, hq₂, harr₂⟩ := ih (μ s') (hn ▸ hlt) s' hI' rfl _ a₁ w₁ (s₁.fits (hp ▸ hf))
        exact ⟨e₂, a₂, w₂, hq₂, .of_steps (Steps.trans harr (.one step_inLoop)) harr₂⟩
      | exit id => exact ⟨_, a₁, w₁, ⟨G₁, st₁, s₁, q⟩, .pass (x := .inLoop body) rfl (fun _ _ => .inl (by simp)) harr⟩
      | goto l => exact ⟨_, a₁, w₁, ⟨G₁, st₁, s₁, q⟩, .pass (x := .inLoop body) rfl (fun _ _ => .inl (by simp)) harr⟩
      | ret => exact ⟨_, a₁, w₁, ⟨G₁, st₁, s₁, q⟩, .pass (x := .inLoop body) rfl (fun _ _ => .inl (by simp)) harr⟩
      | panic ch => exact ⟨_, a₁, w₁, ⟨G₁, st₁, s₁, q⟩, .pass (x := .inLoop body) rfl (fun _ _ => .inl (by simp)) harr⟩
      | outgrown => exact ⟨_, a₁, w₁, ⟨G₁, st₁, s₁, q⟩, .pass (x := .inLoop body) rfl (fun _ _ => .inl (by simp)) harr⟩
  obtain ⟨e, a', w', hq, harr⟩ := key _ s0 h0 rfl _ a w (hs.fits (hp ▸ f0))
  exact ⟨e, a', w', hq, .of_steps (.one step_loop) harr⟩
end Go.Ax
