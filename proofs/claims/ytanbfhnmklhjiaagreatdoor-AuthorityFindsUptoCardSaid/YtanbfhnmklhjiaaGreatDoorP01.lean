/- Part of a proof about this program; no condition of its own. -/
import Derived.Test.YtanbfhnmklhjiaaGreatDoorP00
set_option linter.all false
/-
  The abstract state held against a world; the rules for code, one for each form of code. No condition.
-/
namespace Go.Ax
open Go Go.RowKit
inductive LB where
  | box (t : TypeId) (cs : List C)
  | row (t : TypeId) (sz : Nat) (els : List (List D)) (ver : Nat)
  | dead
  | mp (sh : List Kc) (m : Mp)
  | it (todo : Mp) (last : Option (List KD × Int))
  | sit (s : List UInt8) (pos : Nat)
  | opn (t : TypeId) (sz : Nat) (els : List (List D)) (kk : Nat) (cs : List C) (ver : Nat)
def LB.live : LB → Prop
  | .dead => False
  | _ => True
def blkOf : Value → Option Nat
  | .pointer (some a) => some a.block
  | .slice (some a) _ _ => some a.block
  | .map (some b) => some b
  | _ => none
def ItRep (H : Nat → Option Obj) (o : Obj) (todo : Mp) (last : Option (List KD × Int)) : Prop :=
  (o = .mapIter none 0 #[] 0 ∧ todo = [] ∧ last = none) ∨
  ∃ (b : Nat) (es : Array MapEntry) (clock : Nat) (seen : Array Nat), o = .mapIter (some b) clock seen clock ∧ H b = some (.map es clock) ∧ MapKept.Stamped es clock ∧
    ((leftOf es seen).toList.map fun e => (e.key, e.val)) = todo.map (fun kv => (keyV kv.1, Value.int .i64 kv.2)) ∧
    ∀ kv, last = some kv → ∃ e, e ∈ es.toList ∧ seen.back? = some e.born ∧ e.key = keyV kv.1 ∧ e.val = .int .i64 kv.2
theorem ItRep.mono' {H H' : Nat → Option Obj} {o : Obj} {todo : Mp} {last : Option (List KD × Int)} (h : ItRep H o todo last) (hV : ∀ b o, H b = some o → H' b = some o) : ItRep H' o todo last := by
  rcases h with h | ⟨b, es, clock, seen, h1, h2, h3⟩
  · exact .inl h
  · exact .inr ⟨b, es, clock, seen, h1, hV _ _ h2, h3⟩
theorem ItRep.mono {V V' : Vw} {o : Obj} {todo : Mp} {last : Option (List KD × Int)} (h : ItRep V.H o todo last) (hV : V.Le V') : ItRep V'.H o todo last := h.mono' hV.H
def opnC (els : List (List D)) (kk : Nat) (cs : List C) : List C := ((els.take kk).flatten.map C.d) ++ cs ++ (els.drop (kk + 1)).flatten.map C.d
def Lr (G : Gh) (w : World) (base : Nat) : LB → Value × Nat → Prop
  | .dead, _ => True
  | .box t cs, e => e.2 = 0 ∧ ∃ (b : Nat) (vs : List Value), e.1 = .pointer (some ⟨b, 0, none⟩) ∧ base ≤ b ∧ G.V.H b = none ∧ w.heap[b]? = some (.cells vs.toArray t (0, 0)) ∧ All2 (Cr G) cs vs
  | .row t sz els ver, e => e.2 = ver ∧ ∃ xs, w.ownsRow base t sz e.1 els.length xs ∧ (∀ b, e.1.ownBlock = some b → G.V.H b = none) ∧ All2 (Dr G.V) els.flatten xs ∧ ∀ x ∈ els, x.length = sz
  | .mp sh m, e => e.2 = 0 ∧ ∃ (b : Nat) (es : Array MapEntry) (clock : Nat), e.1 = .map (some b) ∧ base ≤ b ∧ G.V.H b = none ∧ w.heap[b]? = some (.map es clock) ∧ MapRep sh m es clock
  | .it todo last, e => e.2 = 0 ∧ ∃ (b : Nat) (o : Obj), e.1 = .pointer (some ⟨b, 0, none⟩) ∧ base ≤ b ∧ G.V.H b = none ∧ w.heap[b]? = some o ∧ ItRep G.V.H o todo last
  | .sit s pos, e => e.2 = 0 ∧ ∃ b : Nat, e.1 = .pointer (some ⟨b, 0, none⟩) ∧ base ≤ b ∧ G.V.H b = none ∧ w.heap[b]? = some (.stringIter ⟨s.toArray⟩ pos)
  | .opn t sz els kk cs ver, e => e.2 = ver ∧ (kk < els.length ∧ cs.length = sz) ∧ ∃ xs, w.ownsRow base t sz e.1 els.length xs ∧ (∀ b, e.1.ownBlock = some b → G.V.H b = none) ∧ All2 (Cr G) (opnC els kk cs) xs ∧ ∀ x ∈ els, x.length = sz
structure Pm where
  n0 : Nat
  N : Nat
  Γ : List (Nat × List D)
structure Cx where
  pm : Pm
  w0 : World
  S : Nat → Prop
  G0 : Gh
  df : List Deferred
  s0 : Nat
structure SatH (cx : Cx) (G : Gh) (h : List LB) (w : World) : Prop where
  len : G.g.length = h.length
  ent : ∀ (i : Nat) (b : LB) (e : Value × Nat), h[i]? = some b → G.g[i]? = some e → Lr G w cx.w0.heap.size b e
  sep : ∀ (i j : Nat) (bi bj : LB) (ei ej : Value × Nat) (k : Nat), h[i]? = some bi → h[j]? = some bj → bi.live → bj.live → G.g[i]? = some ei → G.g[j]? = some ej → blkOf ei.1 = some k → blkOf ej.1 = some k → i = j
  view : ∀ b o, G.V.H b = some o → w.heap[b]? = some o
  imm : ∀ b, G.V.I b → (∃ o, G.V.H b = some o) ∧ (cx.S b ∨ cx.w0.heap.size ≤ b)
  below : Below cx.w0.heap.size cx.w0 w
  ext : GLe cx.pm.n0 cx.G0 G
  glob : ∀ p, p ∈ cx.pm.Γ → Gp G p
  sz : cx.s0 ≤ w.heap.size
abbrev Env := List (List AV)
structure St where
  env : Env
  heap : List LB
def g1 : List AV → Nat → AV
  | [], _ => .any
  | a :: _, 0 => a
  | _ :: r, n + 1 => g1 r n
def g2 : Env → Nat → List AV
  | [], _ => []
  | c :: _, 0 => c
  | _ :: r, n + 1 => g2 r n
def s1 : List AV → Nat → AV → List AV
  | [], 0, α => [α]
  | [], n + 1, α => .any :: s1 [] n α
  | _ :: r, 0, α => α :: r
  | a :: r, n + 1, α => a :: s1 r n α
def s2 : Env → Nat → List AV → Env
  | [], 0, c => [c]
  | [], n + 1, c => [] :: s2 [] n c
  | _ :: r, 0, c => c :: r
  | d :: r, n + 1, c => d :: s2 r n c
def lk (t : Nat) (e : Env) : AV := g1 (g2 e (t / 8)) (t % 8)
def pute (t : Nat) (α : AV) (e : Env) : Env := s2 e (t / 8) (s1 (g2 e (t / 8)) (t % 8) α)
def St.put (st : St) (dst : Option Nat) (α : AV) : St :=
  match dst with
  | none => st
  | some t => ⟨pute t α st.env, st.heap⟩
def cAV : Value → AV
  | .int k n => .c (.d (.int k n))
  | .bool b => .c (.d (.bool b))
  | .string s => .c (.d (.str s.data.toList))
  | .slice none 0 0 => .c (.d (.raw (.slice none 0 0)))
  | .map none => .c (.d (.raw (.map none)))
  | _ => .any
def lkG (g : Nat) : List (Nat × List D) → AV
  | [] => .any
  | (k, cs) :: r => if k = g then .c (.ptr cs) else lkG g r
def ev (Γ : List (Nat × List D)) (env : Env) : Operand → AV
  | .tmp t => lk t env
  | .const v => cAV v
  | .global g => lkG g Γ
  | .func f => .c (.clo f [])
structure Sat (cx : Cx) (G : Gh) (st : St) (a : Act) (w : World) : Prop where
  h : SatH cx G st.heap w
  env : ∀ t, Ar G (lk t st.env) (a.tmps.getD t undef)
  N : a.tmps.size = cx.pm.N
  defers : a.defers = cx.df
theorem g1_s1 : ∀ (l : List AV) (k t : Nat) (α : AV), g1 (s1 l k α) t = if k = t then α else g1 l t
  | [], 0, 0, α => by simp [s1, g1]
  | [], 0, t + 1, α => by simp [s1, g1]
  | [], k + 1, 0, α => by simp [s1, g1]
  | [], k + 1, t + 1, α => by simp [s1, g1, g1_s1 [] k t α]
  | a :: r, 0, 0, α => by simp [s1, g1]
  | a :: r, 0, t + 1, α => by simp [s1, g1]
  | a :: r, k + 1, 0, α => by simp [s1, g1]
  | a :: r, k + 1, t + 1, α => by simp [s1, g1, g1_s1 r k t α]
theorem g2_s2 : ∀ (e : Env) (k t : Nat) (c : List AV), g2 (s2 e k c) t = if k = t then c else g2 e t
  | [], 0, 0, α => by simp [s2, g2]
  | [], 0, t + 1, α => by simp [s2, g2]
  | [], k + 1, 0, α => by simp [s2, g2]
  | [], k + 1, t + 1, α => by simp [s2, g2, g2_s2 [] k t α]
  | a :: r, 0, 0, α => by simp [s2, g2]
  | a :: r, 0, t + 1, α => by simp [s2, g2]
  | a :: r, k + 1, 0, α => by simp [s2, g2]
  | a :: r, k + 1, t + 1, α => by simp [s2, g2, g2_s2 r k t α]
theorem lk_put {t k : Nat} {α : AV} {ρ : Env} : lk t (pute k α ρ) = if k = t then α else lk t ρ := by
  unfold lk pute
  rw [g2_s2]
  by_cases h1 : k / 8 = t / 8
  · rw [if_pos h1, g1_s1]
    by_cases h2 : k % 8 = t % 8
    · rw [if_pos h2, if_pos (by omega)]
    · rw [if_neg h2, if_neg (by omega), h1]
  · rw [if_neg h1, if_neg (by omega)]
theorem byteArray_eta (s : ByteArray) : (⟨s.data.toList.toArray⟩ : ByteArray) = s := by cases s; simp
theorem cAV_ok (G : Gh) (v : Value) : Ar G (cAV v) v := by
  unfold cAV
  split
  · exact Dr.int _ _
  · exact Dr.bool _
  · next s => exact (byteArray_eta s) ▸ (Dr.str (V := G.V) s.data.toList)
  · exact Dr.raw _ rfl
  · exact Dr.raw _ rfl
  · trivial
theorem lkG_ok {cx : Cx} {G : Gh} {g : Nat} : ∀ (Γ : List (Nat × List D)), (∀ p, p ∈ Γ → Gp G p) → Ar G (lkG g Γ) (.pointer (some ⟨g, 0, none⟩))
  | [], _ => trivial
  | (k, cs) :: r, h => by
    by_cases hk : k = g
    · subst hk; simp only [lkG, if_true]; exact (h (k, cs) (by simp)).1
    · simp only [lkG, hk, if_false]; exact lkG_ok (cx := cx) r fun p hp => h p (by simp [hp])
theorem Sat.ev {cx : Cx} {G : Gh} {st : St} {a : Act} {w : World} (s : Sat cx G st a w) (x : Operand) : Ar G (ev cx.pm.Γ st.env x) (a.eval x) := by
  cases x with
  | tmp t =>
    exact s.env t
  | const v => exact cAV_ok G v
  | global g => exact lkG_ok (cx := cx) _ s.h.glob
  | func f => exact ⟨[], rfl, .nil⟩
def dstOk (N : Nat) : Option Nat → Prop
  | none => True
  | some t => t < N
theorem Sat.put {cx : Cx} {G : Gh} {st : St} {a : Act} {w : World} (s : Sat cx G st a w) {dst : Option Nat} {α : AV} {v : Value} (hr : Ar G α v) (hd : dstOk cx.pm.N dst) : Sat cx G (st.put dst α) (a.put dst v) w := by
  cases dst with
  | none => exact s
  | some t =>
    refine ⟨s.h, fun k => ?_, by simpa [Act.put] using s.N, s.defers⟩
    have hN : t < a.tmps.size := by rw [s.N]; exact hd
    simp only [Act.put, St.put]
    rw [lk_put]
    by_cases htk : t = k
    · subst htk
      have : (a.tmps.setIfInBounds t v).getD t undef = v := by simp [Array.getD, hN]
      rw [this, if_pos rfl]; exact hr
    · have : (a.tmps.setIfInBounds t v).getD k undef = a.tmps.getD k undef := by
        simp only [Array.getD_eq_getD_getElem?, Array.getElem?_setIfInBounds]
        rw [if_neg (by omega)]
      rw [this, if_neg htk]; exact s.env k
theorem GLe.all {G G' : Gh} (h : GLe G.g.length G G') (m : Nat) : GLe m G G' := ⟨h.V, fun i v n _ e => h.g i v n (getElem?_lt e) e⟩
theorem Sat.step {cx : Cx} {G G' : Gh} {st : St} {h' : List LB} {a : Act} {w w' : World} (s : Sat cx G st a w) (hG : GLe G.g.length G G') (hh : SatH cx G' h' w') : Sat cx G' ⟨st.env, h'⟩ a w' :=
  ⟨hh, fun t => (s.env t).grow hG, s.N, s.defers⟩
def Post (cx : Cx) (Q : Exit → St → Prop) : Exit → Act → World → Prop := fun e a w => ∃ G st, Sat cx G st a w ∧ Q e st
variable {P : Program}
def AXc (P : Program) (pm : Pm) (c : Code) (st : St) (Q : Exit → St → Prop) : Prop :=
  ∀ (cx : Cx) (G : Gh) (a : Act) (w : World), cx.pm = pm → Sat cx G st a w → wp2 P c (Post cx Q) a w
def AXl (P : Program) (pm : Pm) (ops : Array Oper) (rest : List Oper) (st : St) (K : St → Prop) : Prop :=
  ∀ (cx : Cx) (G : Gh) (a : Act) (w : World) (Q : Exit → Act → World → Prop), cx.pm = pm → Sat cx G st a w →
    (∀ G' st' a' w', Sat cx G' st' a' w' → K st' → Q .normal a' w') → wpList P ops Q rest a w
def Ethen (K : St → Prop) (Q : Exit → St → Prop) : Exit → St → Prop
  | .normal, st => K st
  | e, st => Q e st
def EinBlock (id : Nat) (Q : Exit → St → Prop) : Exit → St → Prop
  | .exit id', st => if id' = id then Q .normal st else Q (.exit id') st
  | e, st => Q e st
theorem AXc.mono {pm : Pm} {c : Code} {st : St} {Q Q' : Exit → St → Prop} (h : AXc P pm c st Q) (hq : ∀ e s, Q e s → Q' e s) : AXc P pm c st Q' :=
  fun cx G a w hp s => wp2_mono (h cx G a w hp s) fun e a w ⟨G', st', s', q⟩ => ⟨G', st', s', hq _ _ q⟩
theorem AXc.seq {pm : Pm} {x y : Code} {st : St} {Q : Exit → St → Prop} (h : ∀ K : St → Prop, (∀ st', AXc P pm y st' Q → K st') → AXc P pm x st (Ethen K Q)) : AXc P pm (.seq x y) st Q := by
  intro cx G a w hp s
  refine wp2_seq (wp2_mono (h (fun st' => AXc P pm y st' Q) (fun _ h => h) cx G a w hp s) ?_)
  rintro e a' w' ⟨G', st', s', q⟩
  cases e with
  | normal => exact q cx G' a' w' hp s'
  | _ => exact ⟨G', st', s', q⟩
theorem AXc.cond {pm : Pm} {c : Operand} {x y : Code} {st : St} {Q : Exit → St → Prop} {b : Bool} (hc : ev pm.Γ st.env c = .c (.d (.bool b))) (ht : b = true → AXc P pm x st Q) (hf : b = false → AXc P pm y st Q) : AXc P pm (.cond c x y) st Q := by
  intro cx G a w hp s
  have h := s.ev c
  rw [hp, hc] at h
  have hv : a.eval c = .bool b := by
    generalize a.eval c = v at h
    cases h; rfl
  exact wp2_cond_split hv (fun e => ht e cx G a w hp s) (fun e => hf e cx G a w hp s)
theorem AXc.block {pm : Pm} {id : Nat} {c : Code} {st : St} {Q : Exit → St → Prop} (h : AXc P pm c st (EinBlock id Q)) : AXc P pm (.block id c) st Q := by
  intro cx G a w hp s
  refine wp2_block (wp2_mono (h cx G a w hp s) ?_)
  rintro e a' w' ⟨G', st', s', q⟩
  cases e with
  | exit id' =>
    by_cases hid : id' = id
    · simp only [Exit.inBlock, hid, if_true]
      simp only [EinBlock, hid, if_true] at q
      exact ⟨G', st', s', q⟩
    · simp only [Exit.inBlock, hid, if_false]
      simp only [EinBlock, hid, if_false] at q
      exact ⟨G', st', s', q⟩
  | _ => exact ⟨G', st', s', q⟩
theorem AXc.skip {pm : Pm} {st : St} {Q : Exit → St → Prop} (h : Q .normal st) : AXc P pm .skip st Q := fun _ G _ _ _ s => wp2_skip ⟨G, st, s, h⟩
theorem AXc.label {pm : Pm} {st : St} {l : Nat} {Q : Exit → St → Prop} (h : Q .normal st) : AXc P pm (.label l) st Q := fun _ G _ _ _ s => wp2_label ⟨G, st, s, h⟩
theorem AXc.exit {pm : Pm} {st : St} {id : Nat} {Q : Exit → St → Prop} (h : Q (.exit id) st) : AXc P pm (.exit id) st Q := fun _ G _ _ _ s => wp2_exit ⟨G, st, s, h⟩
theorem AXc.ret {pm : Pm} {st : St} {Q : Exit → St → Prop} (h : Q .ret st) : AXc P pm .ret st Q := fun _ G _ _ _ s => wp2_ret ⟨G, st, s, h⟩
theorem AXc.region {pm : Pm} {id : Nat} {l : List Oper} {st : St} {Q : Exit → St → Prop} (h : AXl P pm l.toArray l st (Q .normal)) : AXc P pm (.region id l.toArray false) st Q :=
  fun cx G a w hp s => wp2_region_lit (h cx G a w _ hp s fun G' st' _ _ s' k => ⟨G', st', s', k⟩)
theorem AXl.nil {pm : Pm} {ops : Array Oper} {st : St} {K : St → Prop} (h : K st) : AXl P pm ops [] st K :=
  fun _ G _ _ _ _ s hQ => hQ G st _ _ s h
/-! ### Forgetting -/
def subE (env' env : Env) : Prop := ∀ t, lk t env' = .any ∨ lk t env' = lk t env
theorem subE_ok {cx : Cx} {G : Gh} {st : St} {a : Act} {w : World} (s : Sat cx G st a w) : ∀ env', subE env' st.env → ∀ t, Ar G (lk t env') (a.tmps.getD t undef) := by
  intro env' h t
  rcases h t with h | h
  · rw [h]; trivial
  · rw [h]; exact s.ev (.tmp t)
def LB.low (m : Nat) : LB → Prop
  | .box _ cs => ∀ c ∈ cs, c.low m
  | .opn _ _ _ _ cs _ => ∀ c ∈ cs, c.low m
  | _ => True
theorem opnC_low {m : Nat} {els : List (List D)} {kk : Nat} {cs : List C} (h : ∀ c ∈ cs, c.low m) : ∀ c ∈ opnC els kk cs, c.low m := fun c hc => by
  unfold opnC at hc
  rcases List.mem_append.1 hc with hc | hc
  · rcases List.mem_append.1 hc with hc | hc
    · obtain ⟨d, _, rfl⟩ := List.mem_map.1 hc; trivial
    · exact h c hc
  · obtain ⟨d, _, rfl⟩ := List.mem_map.1 hc; trivial
theorem opnC_mem {els : List (List D)} {kk : Nat} {cs : List C} {c : C} (h : c ∈ cs) : c ∈ opnC els kk cs := by unfold opnC; simp [h]
structure Fits (pm : Pm) (st st' : St) : Prop where
  env : subE st'.env st.env
  len : st'.heap.length ≤ st.heap.length
  heap : st'.heap = st.heap.take st'.heap.length
  n0 : pm.n0 ≤ st'.heap.length
  lowE : ∀ t, (lk t st'.env).low st'.heap.length
  lowH : ∀ b, b ∈ st'.heap → b.low st'.heap.length
theorem gle_take {G : Gh} {m k : Nat} (h : m ≤ k) : GLe m G ⟨G.V, G.g.take k⟩ :=
  ⟨.refl _, fun i v n hi e => ⟨v, n, by simp [List.getElem?_take, show i < k by omega, e], Nat.le_refl _, fun _ => rfl, fun _ => ⟨rfl, rfl⟩⟩⟩
theorem Lr.mono {G G' : Gh} {w : World} {base m : Nat} {b : LB} {e : Value × Nat} (hG : GLe m G G') (hH : ∀ b, G.V.H b = none → G'.V.H b = none) (hl : b.low m) (h : Lr G w base b e) : Lr G' w base b e := by
  cases b with
  | dead => trivial
  | box t cs =>
    obtain ⟨h1, b, vs, h2, h3, h4, h5, h6⟩ := h
    exact ⟨h1, b, vs, h2, h3, hH _ h4, h5, h6.imp' fun c v hm hc => hc.mono hG (hl c hm)⟩
  | row t sz els ver =>
    obtain ⟨h1, xs, h2, h3, h4, h5⟩ := h
    exact ⟨h1, xs, h2, fun b hb => hH _ (h3 b hb), h4.imp fun _ _ hd => hd.mono hG.V, h5⟩
  | mp sh m =>
    obtain ⟨h1, b, es, clock, h2, h3, h4, h5, h6⟩ := h
    exact ⟨h1, b, es, clock, h2, h3, hH b h4, h5, h6⟩
  | it todo last =>
    obtain ⟨h1, b, o, h2, h3, h4, h5, h6⟩ := h
    exact ⟨h1, b, o, h2, h3, hH b h4, h5, h6.mono hG.V⟩
  | sit s pos =>
    obtain ⟨h1, b, h2, h3, h4, h5⟩ := h
    exact ⟨h1, b, h2, h3, hH b h4, h5⟩
  | opn t sz els kk cs ver =>
    obtain ⟨h1, h0, xs, h2, h3, h4, h5⟩ := h
    exact ⟨h1, h0, xs, h2, fun b hb => hH _ (h3 b hb), h4.imp' fun c v hm hc => hc.mono hG (opnC_low hl c hm), h5⟩
theorem Lr.low {G : Gh} {w : World} {base : Nat} {b : LB} {e : Value × Nat} (h : Lr G w base b e) : b.low G.g.length := by
  cases b with
  | box t cs => obtain ⟨_, b, vs, _, _, _, _, h6⟩ := h; exact All2.low h6
  | opn t sz els kk cs ver => obtain ⟨_, _, xs, _, _, h6, _⟩ := h; exact fun c hc => All2.low h6 c (opnC_mem hc)
  | _ => trivial
theorem Lr.mono' {G G' : Gh} {w : World} {base : Nat} {b : LB} {e : Value × Nat} (hG : GLe G.g.length G G') (hH : ∀ k, b.live → blkOf e.1 = some k → G'.V.H k = none) (h : Lr G w base b e) : Lr G' w base b e := by
  have hlow := h.low
  cases b with
  | dead => trivial
  | box t cs =>
    obtain ⟨h1, b, vs, h2, h3, h4, h5, h6⟩ := h
    exact ⟨h1, b, vs, h2, h3, hH b trivial (by rw [h2]; rfl), h5, h6.imp' fun c v hm hc => hc.mono hG (hlow c hm)⟩
  | row t sz els ver =>
    obtain ⟨h1, xs, h2, h3, h4, h5⟩ := h
    refine ⟨h1, xs, h2, fun b hb => hH b trivial ?_, h4.imp fun _ _ hd => hd.mono hG.V, h5⟩
    obtain ⟨_, ⟨e2, _⟩ | ⟨g, cap, cur, e2, _⟩⟩ := h2
    · rw [e2] at hb; cases hb
    · rw [e2] at hb ⊢; exact hb
  | mp sh m =>
    obtain ⟨h1, b, es, clock, h2, h3, h4, h5, h6⟩ := h
    exact ⟨h1, b, es, clock, h2, h3, hH b trivial (by rw [h2]; rfl), h5, h6⟩
  | it todo last =>
    obtain ⟨h1, b, o, h2, h3, h4, h5, h6⟩ := h
    exact ⟨h1, b, o, h2, h3, hH b trivial (by rw [h2]; rfl), h5, h6.mono hG.V⟩
  | sit s pos =>
    obtain ⟨h1, b, h2, h3, h4, h5⟩ := h
    exact ⟨h1, b, h2, h3, hH b trivial (by rw [h2]; rfl), h5⟩
  | opn t sz els kk cs ver =>
    obtain ⟨h1, h0, xs, h2, h3, h4, h5⟩ := h
    refine ⟨h1, h0, xs, h2, fun b hb => hH b trivial ?_, h4.imp' fun c v hm hc => hc.mono hG (opnC_low hlow c hm), h5⟩
    obtain ⟨_, ⟨e2, _⟩ | ⟨g, cap, cur, e2, _⟩⟩ := h2
    · rw [e2] at hb; cases hb
    · rw [e2] at hb ⊢; exact hb
theorem Sat.fits {cx : Cx} {G : Gh} {st st' : St} {a : Act} {w : World} (s : Sat cx G st a w) (f : Fits cx.pm st st') : Sat cx ⟨G.V, G.g.take st'.heap.length⟩ st' a w := by
  have hg : GLe st'.heap.length G ⟨G.V, G.g.take st'.heap.length⟩ := gle_take (Nat.le_refl _)
  have hl : (G.g.take st'.heap.length).length = st'.heap.length := by rw [List.length_take, s.h.len]; have := f.len; omega
  have hh : ∀ i b, st'.heap[i]? = some b → st.heap[i]? = some b := fun i b hb => by
    have hi := getElem?_lt hb
    rw [f.heap, List.getElem?_take, if_pos hi] at hb
    exact hb
  have hgg : ∀ i e, (G.g.take st'.heap.length)[i]? = some e → G.g[i]? = some e := fun i e he => by
    rw [List.getElem?_take] at he
    split at he
    · exact he
    · cases he
  refine ⟨⟨hl, fun i b e hb he => ?_, ?_, s.h.view, s.h.imm, s.h.below, s.h.ext.trans (gle_take f.n0), fun p hp => (s.h.glob p hp).mono hg trivial, s.h.sz⟩, fun t => ?_, s.N, s.defers⟩
  · exact (s.h.ent i b e (hh i b hb) (hgg i e he)).mono hg (fun _ h => h) (f.lowH b (List.mem_of_getElem? hb))
  · intro i j bi bj ei ej k h1 h2 h3 h4 h5 h6 h7 h8
    exact s.h.sep i j bi bj ei ej k (hh _ _ h1) (hh _ _ h2) h3 h4 (hgg _ _ h5) (hgg _ _ h6) h7 h8
  · exact (subE_ok s _ f.env t).mono hg (f.lowE t)
theorem AXc.loop {pm : Pm} {body : Code} {st : St} {Q : Exit → St → Prop} {S : Type} (enc : S → St) (I : S → Prop) (μ : S → Nat) (s0 : S) (h0 : I s0) (f0 : Fits pm st (enc s0))
    (round : ∀ s, I s → AXc P pm body (enc s) (Ethen (fun st' => ∃ s', I s' ∧ μ s' < μ s ∧ Fits pm st' (enc s')) Q)) : AXc P pm (.loop body) st Q := by
  intro cx G a w hp hs
  refine wp2_loop (fun s a w => I s ∧ ∃ G, Sat cx G (enc s) a w) μ (s0 := s0) ⟨h0, _, hs.fits (hp ▸ f0)⟩ fun s a w ⟨hI, G, hsat⟩ => wp2_mono (round s hI cx G a w hp hsat) fun e a w ⟨G₁, st₁, s₁, q⟩ => ?_
  cases e with
  | normal =>
    obtain ⟨s', hI', hlt, hf⟩ := q
    exact ⟨s', hlt, hI', _, s₁.fits (hp ▸ hf)⟩
  | _ => exact ⟨G₁, st₁, s₁, q⟩
end Go.Ax

/-
  The operations that leave memory alone, one rule for each; a rule is stated of the operands' readings alone. No condition.
-/
namespace Go.Ax
open Go Go.RowKit
variable {P : Program}
def Qt (P : Program) (pm : Pm) (h : List LB) (o : Oper) (ρ : Operand → AV) (r : AV) : Prop :=
  ∀ (cx : Cx) (G : Gh) (w : World) (a : Act), cx.pm = pm → SatH cx G h w → (∀ x ∈ o.op.operands.toList, Ar G (ρ x) (a.eval x)) →
    ∀ (next : Act → World → Prop) (Q : Exit → Act → World → Prop), (∀ v w' G', GLe G.g.length G G' → SatH cx G' h w' → Ar G' r v → next (a.put o.dst v) w') → o.wp P a w next Q
def Still (P : Program) (h : List LB) (o : Oper) (ρ : Operand → AV) (r : AV) : Prop :=
  ∀ (cx : Cx) (G : Gh) (w : World) (a : Act), SatH cx G h w → (∀ x ∈ o.op.operands.toList, Ar G (ρ x) (a.eval x)) →
    ∃ v, (execOp a.eval o).run P w = .ok (.value v) w ∧ Ar G r v
theorem Still.qt {pm : Pm} {h : List LB} {o : Oper} {ρ : Operand → AV} {r : AV} (hs : Still P h o ρ r) : Qt P pm h o ρ r := by
  intro cx G w a _ sh ho next Q hn
  obtain ⟨v, hr, hv⟩ := hs cx G w a sh ho
  unfold Oper.wp
  rw [hr]
  exact hn v w G (.refl _ _) sh hv
theorem AXl.qt {pm : Pm} {ops : Array Oper} {o : Oper} {rest : List Oper} {st : St} {K : St → Prop} {r : AV} (hg : o.guard = none) (hd : dstOk pm.N o.dst)
    (hq : Qt P pm st.heap o (ev pm.Γ st.env) r) (h : AXl P pm ops rest (st.put o.dst r) K) : AXl P pm ops (o :: rest) st K := by
  intro cx G a w Q hp s hQ
  refine wpList_plain hg fun K' hK' => ?_
  refine hq cx G w a hp s.h (fun x _ => hp ▸ s.ev x) _ _ fun v w' G' hG sh hv => hK' _ _ ?_
  exact h cx G' _ w' Q hp ((s.step hG sh).put hv (hp ▸ hd)) hQ
/-! ### Reading a value out of what is known of it -/
theorem ar_int {G : Gh} {k : IntKind} {n : Int} {v : Value} (h : Ar G (.c (.d (.int k n))) v) : v = .int k n := by
  generalize e : D.int k n = x at h
  have h' : Dr G.V x v := h
  cases h' <;> cases e; rfl
theorem ar_bool {G : Gh} {b : Bool} {v : Value} (h : Ar G (.c (.d (.bool b))) v) : v = .bool b := by
  generalize e : D.bool b = x at h
  have h' : Dr G.V x v := h
  cases h' <;> cases e; rfl
theorem ar_str {G : Gh} {l : List UInt8} {v : Value} (h : Ar G (.c (.d (.str l))) v) : v = .string ⟨l.toArray⟩ := by
  generalize e : D.str l = x at h
  have h' : Dr G.V x v := h
  cases h' <;> cases e; rfl
theorem ar_raw {G : Gh} {u v : Value} (h : Ar G (.c (.d (.raw u))) v) : v = u := by
  generalize e : D.raw u = x at h
  have h' : Dr G.V x v := h
  cases h' <;> cases e; rfl
theorem dr_int {V : Vw} {k : IntKind} {n : Int} {v : Value} (h : Dr V (.int k n) v) : v = .int k n := by cases h; rfl
theorem dr_bool {V : Vw} {b : Bool} {v : Value} (h : Dr V (.bool b) v) : v = .bool b := by cases h; rfl
theorem dr_str {V : Vw} {l : List UInt8} {v : Value} (h : Dr V (.str l) v) : v = .string ⟨l.toArray⟩ := by cases h; rfl
def elsOf (h : List LB) : AV → Option (Nat × List (List D))
  | .c (.d (.lst sz els)) => some (sz, els)
  | .c (.bor sz els) => some (sz, els)
  | .c (.own i ver) => match h[i]? with
    | some (.row _ sz els v) => if v = ver then some (sz, els) else none
    | _ => none
  | .c (.sub i ver sz' lo n) => match h[i]? with
    | some (.row _ sz els v) => if v = ver ∧ sz = sz' ∧ lo + n ≤ els.length then some (sz, (els.drop lo).take n) else none
    | _ => none
  | _ => none
structure SlAt (V : Vw) (w : World) (sz : Nat) (els : List (List D)) (v : Value) : Prop where
  form : ∃ (A : Option Addr) (cap : Nat) (u : Nat → Nat → Value), v = .slice A els.length cap ∧ els.length ≤ cap ∧ cap ≤ maxLen ∧ (∀ e ∈ els, e.length = sz) ∧
    (els ≠ [] → ∃ ad, A = some ad ∧ ∀ i e j c, els[i]? = some e → e[j]? = some c → w.cell? (ad.add (i * sz + j)) = some (u i j)) ∧
    ∀ i e j c, els[i]? = some e → e[j]? = some c → Dr V c (u i j)
theorem cell_of_view {G : Gh} {w : World} (view : ∀ b o, G.V.H b = some o → w.heap[b]? = some o) {a : Addr} {v : Value} (h : cellIn G.V.H a = some v) : w.cell? a = some v := by
  rw [← cellIn_world]
  exact cellIn_le (fun o => view a.block o) h
theorem flat_get {sz : Nat} : ∀ (els : List (List D)), (∀ e ∈ els, e.length = sz) → ∀ (i : Nat) (e : List D) (j : Nat) (c : D), els[i]? = some e → e[j]? = some c → els.flatten[i * sz + j]? = some c
  | [], _, i, e, j, c, h, _ => by simp at h
  | x :: r, hl, 0, e, j, c, h, hc => by
    simp at h; subst h
    have hj := getElem?_lt hc
    simp [List.flatten_cons, List.getElem?_append_left hj, hc]
  | x :: r, hl, i + 1, e, j, c, h, hc => by
    have hx : x.length = sz := hl x (by simp)
    rw [List.flatten_cons, List.getElem?_append_right (by rw [hx, Nat.add_mul]; omega), hx]
    have : (i + 1) * sz + j - sz = i * sz + j := by rw [Nat.add_mul]; omega
    rw [this]
    exact flat_get r (fun e he => hl e (by simp [he])) i e j c (by simpa using h) hc
theorem flat_len {sz : Nat} : ∀ (els : List (List D)), (∀ e ∈ els, e.length = sz) → els.flatten.length = els.length * sz
  | [], _ => by simp
  | x :: r, hl => by
    rw [List.flatten_cons, List.length_append, flat_len r (fun e he => hl e (by simp [he])), hl x (by simp), List.length_cons, Nat.add_mul]; omega
theorem own_cells {w : World} {base : Nat} {t : TypeId} {sz : Nat} {v : Value} {n : Nat} {xs : List Value} (h : w.ownsRow base t sz v n xs) (hn : 0 < n) :
    ∃ g cap, v = .slice (some ⟨g, 0, none⟩) n cap ∧ base ≤ g ∧ n ≤ cap ∧ cap ≤ maxLen ∧ ∀ (j : Nat) (u : Value), xs[j]? = some u → w.cell? ⟨g, j, none⟩ = some u := by
  obtain ⟨hl, ⟨rfl, rfl⟩ | ⟨g, cap, cur, rfl, hg, hh, hc, hm, hs, ht⟩⟩ := h
  · omega
  · refine ⟨g, cap, rfl, hg, hc, hm, fun j u hj => ?_⟩
    have hjl := getElem?_lt hj
    have : cur[j]? = some u := by
      rw [← ht, List.getElem?_take] at hj
      split at hj
      · simpa using hj
      · cases hj
    simp [World.cell?, hh, this]
theorem own_form {w : World} {base : Nat} {t : TypeId} {sz : Nat} {v : Value} {n : Nat} {xs : List Value} (h : w.ownsRow base t sz v n xs) :
    ∃ A cap, v = .slice A n cap ∧ n ≤ cap ∧ cap ≤ maxLen := by
  obtain ⟨hl, ⟨rfl, rfl⟩ | ⟨g, cap, cur, rfl, hg, hh, hc, hm, hs, ht⟩⟩ := h
  · exact ⟨none, 0, rfl, Nat.le_refl _, Nat.zero_le _⟩
  · exact ⟨_, cap, rfl, hc, hm⟩
theorem row_at {cx : Cx} {G : Gh} {h : List LB} {w : World} (s : SatH cx G h w) {i : Nat} {t : TypeId} {sz : Nat} {els : List (List D)} {ver : Nat} (hi : h[i]? = some (.row t sz els ver)) :
    ∃ v xs, G.g[i]? = some (v, ver) ∧ w.ownsRow cx.w0.heap.size t sz v els.length xs ∧ (∀ b, v.ownBlock = some b → G.V.H b = none) ∧ All2 (Dr G.V) els.flatten xs ∧ ∀ x ∈ els, x.length = sz := by
  have hlt : i < G.g.length := by rw [s.len]; exact getElem?_lt hi
  obtain ⟨⟨v, n⟩, he⟩ : ∃ e, G.g[i]? = some e := ⟨_, List.getElem?_eq_getElem hlt⟩
  obtain ⟨h1, xs, h2, h3, h4, h5⟩ := s.ent i _ _ hi he
  simp only at h1 h2 h3
  subst h1
  exact ⟨v, xs, he, h2, h3, h4, h5⟩
theorem dr_lst {V : Vw} {sz : Nat} {els : List (List D)} {v : Value} (h : Dr V (.lst sz els) v) :
    ∃ (A : Option Addr) (cap : Nat) (u : Nat → Nat → Value), v = .slice A els.length cap ∧ els.length ≤ cap ∧ cap ≤ maxLen ∧ (∀ e ∈ els, e.length = sz) ∧
      (els ≠ [] → ∃ ad, A = some ad ∧ V.I ad.block ∧ ∀ i e j c, els[i]? = some e → e[j]? = some c → cellIn V.H (ad.add (i * sz + j)) = some (u i j)) ∧
      ∀ i e j c, els[i]? = some e → e[j]? = some c → Dr V c (u i j) := by
  generalize e : D.lst sz els = x at h
  cases h with
  | lst sz' els' A cap u hc hm he ha hu =>
    injection e with e1 e2
    subst e1 e2
    exact ⟨A, cap, u, rfl, hc, hm, he, ha, hu⟩
  | _ => cases e
theorem slAt_of {cx : Cx} {G : Gh} {h : List LB} {w : World} (s : SatH cx G h w) {α : AV} {v : Value} {sz : Nat} {els : List (List D)} (hα : elsOf h α = some (sz, els)) (hv : Ar G α v) : SlAt G.V w sz els v := by
  unfold elsOf at hα
  split at hα
  · -- lst
    simp only [Option.some.injEq, Prod.mk.injEq] at hα
    obtain ⟨rfl, rfl⟩ := hα
    obtain ⟨A, cap, u, rfl, hc, hm, he, ha, hu⟩ := dr_lst hv
    refine ⟨A, cap, u, rfl, hc, hm, he, fun hn => ?_, hu⟩
    obtain ⟨ad, e, _, hcell⟩ := ha hn
    exact ⟨ad, e, fun i e j c h1 h2 => cell_of_view s.view (hcell i e j c h1 h2)⟩
  · -- bor
    simp only [Option.some.injEq, Prod.mk.injEq] at hα
    obtain ⟨rfl, rfl⟩ := hα
    obtain ⟨A, cap, u, rfl, hc, hm, he, ha, hu⟩ := hv
    refine ⟨A, cap, u, rfl, hc, hm, he, fun hn => ?_, hu⟩
    obtain ⟨ad, e, hcell⟩ := ha hn
    exact ⟨ad, e, fun i e j c h1 h2 => cell_of_view s.view (hcell i e j c h1 h2)⟩
  · -- own
    next i ver =>
    split at hα
    · next t sz' els' v' hi =>
      split at hα
      · next hver =>
        subst hver
        simp only [Option.some.injEq, Prod.mk.injEq] at hα
        obtain ⟨rfl, rfl⟩ := hα
        obtain ⟨v0, xs, hg, how, _, hd, hl⟩ := row_at s hi
        obtain ⟨_, v0', n', hg', _, hx⟩ := hv
        rw [hg] at hg'
        cases hg'
        have := hx rfl
        subst this
        obtain ⟨A, cap, hvv, hc, hm⟩ := own_form how
        refine ⟨A, cap, fun i j => xs.getD (i * sz' + j) undef, hvv, hc, hm, hl, fun hn => ?_, ?_⟩
        · have hpos : 0 < els'.length := List.length_pos_iff.2 hn
          obtain ⟨g, cap', hv', hb, _, _, hcell⟩ := own_cells how hpos
          rw [hvv] at hv'
          injection hv' with hA _ _
          refine ⟨⟨g, 0, none⟩, hA, fun i e j c h1 h2 => ?_⟩
          obtain ⟨b, hb1, hb2⟩ := hd.get _ _ (flat_get els' hl i e j c h1 h2)
          rw [add_plain, Nat.zero_add, hcell _ b hb1]
          simp [List.getD, hb1]
        · intro i e j c h1 h2
          obtain ⟨b, hb1, hb2⟩ := hd.get _ _ (flat_get els' hl i e j c h1 h2)
          simpa [List.getD, hb1] using hb2
      · cases hα
    · cases hα
  · -- sub
    next i ver sz0 lo n =>
    split at hα
    · next t sz' els' v' hi =>
      split at hα
      · next hver =>
        obtain ⟨hver, hsz, hle⟩ := hver
        subst hver
        subst hsz
        simp only [Option.some.injEq, Prod.mk.injEq] at hα
        obtain ⟨rfl, rfl⟩ := hα
        obtain ⟨v0, xs, hg, how, _, hd, hl⟩ := row_at s hi
        obtain ⟨_, v0', n', hg', _, hx⟩ := hv
        rw [hg] at hg'
        cases hg'
        obtain ⟨A, cap, rfl, hc, hm, hA, _⟩ := hx rfl
        have hlen : ((els'.drop lo).take n).length = n := by rw [List.length_take, List.length_drop]; omega
        have hget : ∀ (i : Nat) (e : List D), ((els'.drop lo).take n)[i]? = some e → els'[lo + i]? = some e := fun i e he => by
          rw [List.getElem?_take] at he
          split at he
          · rwa [List.getElem?_drop] at he
          · cases he
        refine ⟨A, cap, fun i j => xs.getD ((lo + i) * sz' + j) undef, by rw [hlen], by rw [hlen]; exact hc, hm, fun e he => hl e (List.mem_of_mem_drop (List.mem_of_mem_take he)), fun hn => ?_, ?_⟩
        · have hpos : 0 < n := by have := List.length_pos_iff.2 hn; omega
          obtain ⟨b, len0, cap0, rfl, rfl⟩ := hA hpos
          obtain ⟨g, cap', hv', hb, _, _, hcell⟩ := own_cells how (by omega)
          injection hv' with hv' _ _
          injection hv' with hv'
          injection hv' with hv' _ _
          subst hv'
          refine ⟨_, rfl, fun i e j c h1 h2 => ?_⟩
          obtain ⟨u, hb1, hb2⟩ := hd.get _ _ (flat_get els' hl _ e j c (hget i e h1) h2)
          rw [add_plain, show lo * sz' + (i * sz' + j) = (lo + i) * sz' + j from by rw [Nat.add_mul]; omega, hcell _ u hb1]
          simp [List.getD, hb1]
        · intro i e j c h1 h2
          obtain ⟨b, hb1, hb2⟩ := hd.get _ _ (flat_get els' hl _ e j c (hget i e h1) h2)
          simpa [List.getD, hb1] using hb2
      · cases hα
    · cases hα
  · cases hα
end Go.Ax
