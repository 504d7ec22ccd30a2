/- Part of a proof about this program; no condition of its own. -/
import Derived.WalkKit
import Derived.Scope
import Derived.OrdersIn
import Derived.TacticsIn
import Derived.OwnWalkIn
import Derived.RangeFuncCalls
import Derived.WalkLawsBesides
import Derived.WalkSpells
import Derived.Deep.Draws
import Derived.Maps.AppendAt
import Derived.Deep.AppendLies
import Derived.Laws.OwnMore
import Derived.Orders
import Derived.Lib.Strings
import Derived.Maps.OwnSet
import Derived.Maps.Range
set_option linter.all false
/- Code walked in a plain frame and in a round's frame at once. No condition. -/
namespace Go.Ax
open Go Go.RowKit
abbrev FR (l : Nat) : Fence := Fence.wide.inRound l
def nodO (o : Oper) : Bool := match o.op with | .defer _ => false | _ => true
/-- No deferred call, no scope. -/
def nodC : Code → Bool
  | .region _ ops _ => ops.toList.all nodO
  | .seq a b => nodC a && nodC b
  | .cond _ a b => nodC a && nodC b
  | .block _ a => nodC a
  | .loop a => nodC a
  | .skip => true
  | .label _ => true
  | .exit _ => true
  | .ret => true
  | _ => false
variable {P : Program}
theorem rows_in {row : String} {args : Array Value} {w : World} {R : Value → World → Prop} (l n : Nat) (h : Rows P row args w R) : RowsIn (FR l) n P row args w R :=
  fun c cs _ => let ⟨v, w', r, s⟩ := h c cs; ⟨v, w', r, stepsIn_wide.2 s⟩
theorem upon_in {o : Oper} {a : Act} {next : Act → World → Prop} {Q : Exit → Act → World → Prop} (l n : Nat) {r : Result Next} (h : o.upon P a next Q r) : o.uponIn (FR l) n P a next Q r := by
  cases r with
  | ok x w =>
    cases x <;> first
      | exact h
      | exact h.elim
      | (refine ⟨fun e => by simp [FR, Fence.inRound, Fence.wide] at e, ?_⟩; exact CallsIn.inRound l (callsIn_wide.2 h))
      | (refine ⟨fun e => by simp [FR, Fence.inRound, Fence.wide] at e, ?_⟩; exact rows_in l _ h)
  | halt x w => cases x <;> exact h
theorem wpO_in {o : Oper} {a : Act} {w : World} {next : Act → World → Prop} {Q : Exit → Act → World → Prop} (l n : Nat) (hn : nodO o = true) (h : o.wp P a w next Q) : o.wpIn (FR l) n P a w next Q := by
  refine ⟨fun _ _ => trivial, ?_⟩
  rw [Oper.semAt_plain (FR l) a.eval o (by intro c hc; unfold nodO at hn; rw [hc] at hn; cases hn)]
  exact upon_in l n h
theorem wpL_in {ops : Array Oper} {Q : Exit → Act → World → Prop} (hQ : ¬ LetsOut Q) (l n : Nat) : ∀ (r : List Oper), r.all nodO = true → ∀ (a : Act) (w : World), wpList P ops Q r a w → wpListIn (FR l) n P ops Q r a w
  | [], _, a, w, h => h
  | o :: r, hn, a, w, h => by
    simp only [List.all_cons, Bool.and_eq_true] at hn
    simp only [wpList, wpListIn] at h ⊢
    split at h
    · next hw =>
      rw [if_pos hw]
      rcases h with h | h
      · exact Oper.wpIn_mono (fun a w hk => wpL_in hQ l n r hn.2 a w hk) (wpO_in l n hn.1 h)
      · exact absurd h.2 hQ
    · next hw =>
      rw [if_neg hw]
      exact ⟨fun _ _ => trivial, wpL_in hQ l n r hn.2 _ _ h⟩
theorem wpA_in {ops : Array Oper} {Q : Exit → Act → World → Prop} (hQ : ¬ LetsOut Q) (hn : ops.toList.all nodO = true) (md : Region.Mode) (l n : Nat) : ∀ (fuel : Nat) (listed : Array Bool) (a : Act) (w : World), wpAny P md ops Q fuel listed a w → wpAnyIn (FR l) n P md ops Q fuel listed a w
  | 0, listed, a, w, h => h
  | fuel + 1, listed, a, w, h => by
    refine ⟨h.1, fun i hi => ?_⟩
    have h2 := h.2 i hi
    unfold wpOp at h2
    unfold wpOpIn
    cases ho : ops[i]? with
    | none => rw [ho] at h2; exact wpA_in hQ hn md l n fuel _ _ _ h2
    | some o =>
      rw [ho] at h2
      simp only at h2 ⊢
      have hno : nodO o = true := List.all_eq_true.1 hn o (by have := Array.mem_of_getElem? ho; simpa using this)
      split at h2
      · next hw =>
        rw [if_pos hw]
        rcases h2 with h2 | h2
        · exact Oper.wpIn_mono (fun a w hk => wpA_in hQ hn md l n fuel _ a w hk) (wpO_in l n hno h2)
        · exact absurd h2.2 hQ
      · next hw =>
        rw [if_neg hw]
        exact ⟨fun _ _ => trivial, wpA_in hQ hn md l n fuel _ _ _ h2⟩

/-! ### code in both frames -/
def wp2 (P : Program) (c : Code) (Q : Exit → Act → World → Prop) (a : Act) (w : World) : Prop := c.wp P Q a w ∧ (nodC c = true → ¬ LetsOut Q → ∀ l n, c.wpIn (FR l) n P Q a w)
variable {Q : Exit → Act → World → Prop} {a : Act} {w : World}
theorem wp2_mono {c : Code} {Q' : Exit → Act → World → Prop} (h : wp2 P c Q a w) (hq : ∀ e a w, Q e a w → Q' e a w) : wp2 P c Q' a w :=
  ⟨wp_mono h.1 hq, fun hn hl l n => wpIn_mono (h.2 hn (fun ⟨a, w, q⟩ => hl ⟨a, w, hq _ _ _ q⟩) l n) hq⟩
theorem wp2_skip (h : Q .normal a w) : wp2 P .skip Q a w := ⟨wp_skip h, fun _ _ _ _ => wpIn_skip h⟩
theorem wp2_label {i : Nat} (h : Q .normal a w) : wp2 P (.label i) Q a w := ⟨wp_label h, fun _ _ _ _ => wpIn_label h⟩
theorem wp2_exit {i : Nat} (h : Q (.exit i) a w) : wp2 P (.exit i) Q a w := ⟨wp_exit h, fun _ _ _ _ => wpIn_exit h⟩
theorem wp2_ret (h : Q .ret a w) : wp2 P .ret Q a w := ⟨wp_ret h, fun _ _ _ _ => wpIn_ret h⟩
theorem out_then {K : Act → World → Prop} (h : LetsOut (Exit.then K Q)) : LetsOut Q := h
theorem wp2_seq {x y : Code} (h : wp2 P x (Exit.then (wp2 P y Q) Q) a w) : wp2 P (.seq x y) Q a w := by
  refine ⟨wp_seq (wp_mono h.1 fun e a w hq => by cases e <;> first | exact hq.1 | exact hq), fun hn hl l n => ?_⟩
  simp only [nodC, Bool.and_eq_true] at hn
  exact wpIn_seq (wpIn_mono (h.2 hn.1 (fun q => hl (out_then q)) l n) fun e a w hq => by cases e <;> first | exact hq.2 hn.2 hl l n | exact hq)
theorem wp2_cond_split {c : Operand} {x y : Code} {t : Bool} (hc : a.eval c = .bool t) (ht : t = true → wp2 P x Q a w) (hf : t = false → wp2 P y Q a w) : wp2 P (.cond c x y) Q a w := by
  refine ⟨wp_cond_split hc (fun e => (ht e).1) (fun e => (hf e).1), fun hn hl l n => ?_⟩
  simp only [nodC, Bool.and_eq_true] at hn
  exact wpIn_cond_split hc (fun e => (ht e).2 hn.1 hl l n) (fun e => (hf e).2 hn.2 hl l n)
theorem wp2_block {id : Nat} {c : Code} (h : wp2 P c (Exit.inBlock id Q) a w) : wp2 P (.block id c) Q a w :=
  ⟨wp_block h.1, fun hn hl l n => wpIn_block (h.2 hn (fun q => hl q) l n)⟩
theorem wp2_region_lit {id : Nat} {ops : List Oper} (h : wpList P ops.toArray Q ops a w) : wp2 P (.region id ops.toArray false) Q a w :=
  ⟨wp_region_lit h, fun hn hl l n => wpIn_region_lit (wpL_in hl l n ops (by simpa [nodC] using hn) _ _ h)⟩
theorem wp2_region_any {id : Nat} {ops : Array Oper} (hm : P.follows .mixedOrders = true) (h : wpAny P .any ops Q ops.size (Array.replicate ops.size false) a { w with drawn := w.drawn + 1 }) : wp2 P (.region id ops true) Q a w :=
  ⟨wp_region_any hm h, fun hn hl l n => wpIn_region_any hm (wpA_in hl hn .any l n _ _ _ _ h)⟩
theorem wp2_scope_straight {c : Code} (h : wp2 P c (Exit.noGoto Q) a w) : wp2 P (.scope c) Q a w := ⟨wp_scope_straight h.1, fun hn => by cases hn⟩
/-- A loop by a family of states. -/
theorem wp2_loop {S : Type} {body : Code} (I : S → Act → World → Prop) (μ : S → Nat) {s0 : S} (h0 : I s0 a w) (round : ∀ s a w, I s a w → wp2 P body (Exit.then (fun a' w' => ∃ s', μ s' < μ s ∧ I s' a' w') Q) a w) : wp2 P (.loop body) Q a w := by
  constructor
  · intro b k cs
    have key : ∀ n s, μ s = n → ∀ a w, I s a w → ∃ e a' w', Q e a' w' ∧ Arrives P (lone (b.at a (.code body :: .inLoop body :: k)) cs w) b k cs e a' w' := by
      intro n
      induction n using Nat.strongRecOn with
      | _ n ih =>
        intro s hn a w hI
        obtain ⟨e, a₁, w₁, hq, harr⟩ := (round s a w hI).1 b (.inLoop body :: k) cs
        cases e with
        | normal =>
          obtain ⟨s', hlt, hI'⟩ := hq
          obtain ⟨e₂, a₂, w₂, hq₂, harr₂⟩ := ih (μ s') (hn ▸ hlt) s' rfl a₁ w₁ hI'
          exact ⟨e₂, a₂, w₂, hq₂, .of_steps (Steps.trans harr (.one step_inLoop)) harr₂⟩
        | exit id => exact ⟨_, a₁, w₁, hq, .pass (x := .inLoop body) rfl (fun _ _ => .inl (by simp)) harr⟩
        | goto l => exact ⟨_, a₁, w₁, hq, .pass (x := .inLoop body) rfl (fun _ _ => .inl (by simp)) harr⟩
        | ret => exact ⟨_, a₁, w₁, hq, .pass (x := .inLoop body) rfl (fun _ _ => .inl (by simp)) harr⟩
        | panic ch => exact ⟨_, a₁, w₁, hq, .pass (x := .inLoop body) rfl (fun _ _ => .inl (by simp)) harr⟩
        | outgrown => exact ⟨_, a₁, w₁, hq, .pass (x := .inLoop body) rfl (fun _ _ => .inl (by simp)) harr⟩
    obtain ⟨e, a', w', hq, harr⟩ := key _ s0 rfl a w h0
    exact ⟨e, a', w', hq, .of_steps (.one step_loop) harr⟩
  · intro hn hl l n b k cs hro hb hr
    have key : ∀ j s, μ s = j → ∀ a w, I s a w → ∃ e a' w', Q e a' w' ∧ ArrivesIn (Machine.fenced P (FR l)) P (lone (b.atR a (.code body :: .inLoop body :: k)) cs w) b k cs e a' w' := by
      intro j
      induction j using Nat.strongRecOn with
      | _ j ih =>
        intro s hj a w hI
        obtain ⟨e, a₁, w₁, hq, harr⟩ := (round s a w hI).2 hn (fun q => hl (out_then q)) l n b (.inLoop body :: k) cs hro hb hr
        cases e with
        | normal =>
          obtain ⟨s', hlt, hI'⟩ := hq
          obtain ⟨e₂, a₂, w₂, hq₂, harr₂⟩ := ih (μ s') (hj ▸ hlt) s' rfl a₁ w₁ hI'
          exact ⟨e₂, a₂, w₂, hq₂, .of_steps (StepsIn.trans harr (.one (fenced_calm hb hr rfl) stepR_inLoop)) harr₂⟩
        | exit id => exact ⟨_, a₁, w₁, hq, .pass (x := .inLoop body) rfl (fun _ _ => .inl (by simp)) harr⟩
        | goto l => exact ⟨_, a₁, w₁, hq, .pass (x := .inLoop body) rfl (fun _ _ => .inl (by simp)) harr⟩
        | ret => exact ⟨_, a₁, w₁, hq, .pass (x := .inLoop body) rfl (fun _ _ => .inl (by simp)) harr⟩
        | panic ch => exact ⟨_, a₁, w₁, hq, .pass (x := .inLoop body) rfl (fun _ _ => .inl (by simp)) harr⟩
        | outgrown => exact ⟨_, a₁, w₁, hq, .pass (x := .inLoop body) rfl (fun _ _ => .inl (by simp)) harr⟩
    obtain ⟨e, a', w', hq, harr⟩ := key _ s0 rfl a w h0
    exact ⟨e, a', w', hq, .of_steps (.one (fenced_calm hb hr rfl) stepR_loop) harr⟩
end Go.Ax

/-
  An abstract state for walks: values read deeply and carried as plain data, local memory as a list of entries, the world out of sight. This file: the definitions, and that a reading stays as the world grows. No condition.
-/
namespace Go.Ax
open Go Go.RowKit

/-- A cell of a map's key, and what kind of cell it is. -/
inductive KD where
  | int (k : IntKind) (n : Int)
  | str (l : List UInt8)
  deriving DecidableEq
inductive Kc where
  | int (k : IntKind)
  | str
def KD.v : KD → Value
  | .int k n => .int k n
  | .str l => .string ⟨l.toArray⟩
def Kfit : Kc → KD → Prop
  | .int k, .int k' n => k = k' ∧ (Lit.int k n).wf = true
  | .str, .str l => l.length ≤ maxLen
  | _, _ => False
def Kfits : List Kc → List KD → Prop
  | [], [] => True
  | s :: r, x :: xs => Kfit s x ∧ Kfits r xs
  | _, _ => False
/-- A map's key as a value: one cell, or a composite value. -/
def keyV : List KD → Value
  | [x] => x.v
  | xs => .agg (xs.map KD.v).toArray
/-- The entries of a map as plain data: in the order in which they were laid in. -/
abbrev Mp := List (List KD × Int)
structure MapRep (sh : List Kc) (m : Mp) (es : Array MapEntry) (clock : Nat) : Prop where
  st : MapKept.Stamped es clock
  clk : clock = es.size
  born : ∀ (i : Nat) (e : MapEntry), es[i]? = some e → e.born = i
  ent : es.toList.map (fun e => (e.key, e.val)) = m.map (fun kv => (keyV kv.1, Value.int .i64 kv.2))
  fit : ∀ kv ∈ m, Kfits sh kv.1

/-- A closed datum of one cell: it refers to memory that nobody writes any more. -/
inductive D where
  | mp (sh : List Kc) (m : Mp)
  | int (k : IntKind) (n : Int)
  | bool (b : Bool)
  | str (l : List UInt8)
  | raw (v : Value)
  | lst (sz : Nat) (els : List (List D))

/-- What is known of memory that stays: the blocks, and which of them may be kept in results. -/
structure Vw where
  H : Nat → Option Obj
  I : Nat → Prop

def cellIn (H : Nat → Option Obj) (a : Addr) : Option Value :=
  match H a.block with
  | some (.cells c _ _) => if a.spot.isSome then none else c[a.off]?
  | _ => none

structure Vw.Le (V V' : Vw) : Prop where
  H : ∀ b o, V.H b = some o → V'.H b = some o
  I : ∀ b, V.I b → V'.I b

theorem Vw.Le.refl (V : Vw) : V.Le V := ⟨fun _ _ h => h, fun _ h => h⟩
theorem Vw.Le.trans {A B C : Vw} (h : A.Le B) (k : B.Le C) : A.Le C := ⟨fun b o e => k.H b o (h.H b o e), fun b e => k.I b (h.I b e)⟩

theorem cellIn_le {H H' : Nat → Option Obj} {a : Addr} {v : Value} (h : ∀ o, H a.block = some o → H' a.block = some o) (hc : cellIn H a = some v) : cellIn H' a = some v := by
  unfold cellIn at *
  cases e : H a.block with
  | none => rw [e] at hc; cases hc
  | some o => rw [h o e]; rw [e] at hc; exact hc

theorem cellIn_world (w : World) (a : Addr) : cellIn (fun b => w.heap[b]?) a = w.cell? a := rfl

/-- A value reads as a closed datum. -/
inductive Dr (V : Vw) : D → Value → Prop where
  | mp (sh : List Kc) (m : Mp) (b : Nat) (es : Array MapEntry) (clock : Nat) (hi : V.I b) (hh : V.H b = some (.map es clock)) (hr : MapRep sh m es clock) : Dr V (.mp sh m) (.map (some b))
  | mpn (sh : List Kc) : Dr V (.mp sh []) (.map none)
  | int (k : IntKind) (n : Int) : Dr V (.int k n) (.int k n)
  | bool (b : Bool) : Dr V (.bool b) (.bool b)
  | str (l : List UInt8) : Dr V (.str l) (.string ⟨l.toArray⟩)
  | raw (v : Value) (h : v.oneCell' = true) : Dr V (.raw v) v
  | lst (sz : Nat) (els : List (List D)) (A : Option Addr) (cap : Nat) (u : Nat → Nat → Value) (hc : els.length ≤ cap) (hm : cap ≤ maxLen)
      (he : ∀ e ∈ els, e.length = sz)
      (ha : els ≠ [] → ∃ ad, A = some ad ∧ V.I ad.block ∧ ∀ i e j c, els[i]? = some e → e[j]? = some c → cellIn V.H (ad.add (i * sz + j)) = some (u i j))
      (hu : ∀ i e j c, els[i]? = some e → e[j]? = some c → Dr V c (u i j)) : Dr V (.lst sz els) (.slice A els.length cap)

theorem Dr.one {V : Vw} {x : D} {v : Value} (h : Dr V x v) : v.oneCell' = true := by
  cases h <;> first | rfl | assumption

theorem Dr.mono {V V' : Vw} (hV : V.Le V') {x : D} {v : Value} (h : Dr V x v) : Dr V' x v := by
  induction h with
  | mp sh m b es clock hi hh hr => exact .mp sh m b es clock (hV.I _ hi) (hV.H _ _ hh) hr
  | mpn sh => exact .mpn sh
  | int k n => exact .int k n
  | bool b => exact .bool b
  | str l => exact .str l
  | raw v h => exact .raw v h
  | lst sz els A cap u hc hm he ha hu ih =>
    refine .lst sz els A cap u hc hm he (fun hn => ?_) ih
    obtain ⟨ad, e, hi, hcell⟩ := ha hn
    exact ⟨ad, e, hV.I _ hi, fun i e j c h1 h2 => cellIn_le (fun o => hV.H _ o) (hcell i e j c h1 h2)⟩

/-- Two views that agree on the blocks that may be kept: a datum reads the same. -/
theorem Dr.move {V V' : Vw} (hI : ∀ b, V.I b → V'.I b) (hH : ∀ b o, V.I b → V.H b = some o → V'.H b = some o) {x : D} {v : Value} (h : Dr V x v) : Dr V' x v := by
  induction h with
  | mp sh m b es clock hi hh hr => exact .mp sh m b es clock (hI _ hi) (hH _ _ hi hh) hr
  | mpn sh => exact .mpn sh
  | int k n => exact .int k n
  | bool b => exact .bool b
  | str l => exact .str l
  | raw v h => exact .raw v h
  | lst sz els A cap u hc hm he ha hu ih =>
    refine .lst sz els A cap u hc hm he (fun hn => ?_) ih
    obtain ⟨ad, e, hi, hcell⟩ := ha hn
    exact ⟨ad, e, hI _ hi, fun i e j c h1 h2 => cellIn_le (fun o => hH _ o (by
      have : ∀ n, (ad.add n).block = ad.block := fun n => by unfold Addr.add; split <;> rfl
      rw [this]; exact hi)) (hcell i e j c h1 h2)⟩

theorem add_block (a : Addr) (n : Nat) : (a.add n).block = a.block := by unfold Addr.add; split <;> rfl
theorem add_add (a : Addr) (i j : Nat) : (a.add i).add j = a.add (i + j) := by
  unfold Addr.add
  by_cases hi : i = 0 <;> by_cases hj : j = 0 <;> simp [hi, hj, Nat.add_assoc]
theorem add_zero (a : Addr) : a.add 0 = a := rfl
theorem add_plain (b o n : Nat) : (⟨b, o, none⟩ : Addr).add n = ⟨b, o + n, none⟩ := by
  unfold Addr.add; split
  · next h => subst h; rfl
  · rfl

/-- What a slot or a cell of local memory holds. -/
inductive C where
  | d (x : D)
  | junk
  | loc (i off : Nat)
  | own (i ver : Nat)
  | sub (i ver sz lo n : Nat)
  | rowp (i ver sz k off : Nat)
  | ptr (cs : List D)
  | bor (sz : Nat) (els : List (List D))
  | clo (f : FuncId) (caps : List Nat)
  | fn (R : Vw → Value → Prop)

inductive AV where
  | any
  | c (x : C)
  | agg (cs : List C)
  | tup (vs : List AV)

/-- The ghost: what stays, and of each local entry the value that leads to it and how often it has moved. -/
structure Gh where
  V : Vw
  g : List (Value × Nat)

inductive All2 {α β : Type} (R : α → β → Prop) : List α → List β → Prop where
  | nil : All2 R [] []
  | cons {a : α} {b : β} {as : List α} {bs : List β} (h : R a b) (t : All2 R as bs) : All2 R (a :: as) (b :: bs)

section
variable {α β : Type} {R S : α → β → Prop}
theorem All2.length {as : List α} {bs : List β} (h : All2 R as bs) : as.length = bs.length := by
  induction h with
  | nil => rfl
  | cons h t ih => simp [ih]
theorem All2.imp {as : List α} {bs : List β} (h : All2 R as bs) (k : ∀ a b, R a b → S a b) : All2 S as bs := by
  induction h with
  | nil => exact .nil
  | cons h t ih => exact .cons (k _ _ h) ih
theorem All2.imp' {as : List α} {bs : List β} (h : All2 R as bs) (k : ∀ a b, a ∈ as → R a b → S a b) : All2 S as bs := by
  induction h with
  | nil => exact .nil
  | cons h t ih => exact .cons (k _ _ (by simp) h) (ih fun a b ha => k a b (by simp [ha]))
theorem All2.get {as : List α} {bs : List β} (h : All2 R as bs) : ∀ (i : Nat) (a : α), as[i]? = some a → ∃ b, bs[i]? = some b ∧ R a b := by
  induction h with
  | nil => intro i a h; simp at h
  | cons h t ih =>
    intro i a ha
    cases i with
    | zero => simp at ha; subst ha; exact ⟨_, rfl, h⟩
    | succ i => simpa using ih i a (by simpa using ha)
theorem All2.getR {as : List α} {bs : List β} (h : All2 R as bs) : ∀ (i : Nat) (b : β), bs[i]? = some b → ∃ a, as[i]? = some a ∧ R a b := by
  induction h with
  | nil => intro i a h; simp at h
  | cons h t ih =>
    intro i a ha
    cases i with
    | zero => simp at ha; subst ha; exact ⟨_, rfl, h⟩
    | succ i => simpa using ih i a (by simpa using ha)
theorem All2.set {as : List α} {bs : List β} (h : All2 R as bs) {a : α} {b : β} (hr : R a b) : ∀ i : Nat, All2 R (as.set i a) (bs.set i b) := by
  induction h with
  | nil => intro i; exact .nil
  | cons h t ih =>
    intro i
    cases i with
    | zero => exact .cons hr t
    | succ i => exact .cons h (ih i)
theorem All2.append {as as' : List α} {bs bs' : List β} (h : All2 R as bs) (h' : All2 R as' bs') : All2 R (as ++ as') (bs ++ bs') := by
  induction h with
  | nil => exact h'
  | cons h t ih => exact .cons h ih
theorem All2.drop {as : List α} {bs : List β} (h : All2 R as bs) : ∀ n : Nat, All2 R (as.drop n) (bs.drop n) := by
  induction h with
  | nil => intro n; simp; exact .nil
  | cons h t ih =>
    intro n
    cases n with
    | zero => exact .cons h t
    | succ n => exact ih n
theorem All2.take {as : List α} {bs : List β} (h : All2 R as bs) : ∀ n : Nat, All2 R (as.take n) (bs.take n) := by
  induction h with
  | nil => intro n; simp; exact .nil
  | cons h t ih =>
    intro n
    cases n with
    | zero => exact .nil
    | succ n => exact .cons h (ih n)
theorem All2.of_get {as : List α} {bs : List β} (hl : as.length = bs.length) (h : ∀ (i : Nat) a b, as[i]? = some a → bs[i]? = some b → R a b) : All2 R as bs := by
  induction as generalizing bs with
  | nil => cases bs with
    | nil => exact .nil
    | cons b bs => simp at hl
  | cons a as ih => cases bs with
    | nil => simp at hl
    | cons b bs => exact .cons (h 0 a b rfl rfl) (ih (by simpa using hl) fun i a' b' h1 h2 => h (i + 1) a' b' (by simpa using h1) (by simpa using h2))
theorem All2.map_left {γ : Type} {f : γ → α} {as : List γ} {bs : List β} (h : All2 (fun x b => R (f x) b) as bs) : All2 R (as.map f) bs := by
  induction h with
  | nil => exact .nil
  | cons h t ih => exact .cons h ih
theorem All2.of_map_left {γ : Type} {f : γ → α} {as : List γ} {bs : List β} (h : All2 R (as.map f) bs) : All2 (fun x b => R (f x) b) as bs := by
  induction as generalizing bs with
  | nil => cases h; exact .nil
  | cons a as ih => cases h with | cons h t => exact .cons h (ih t)
end

def Cr (G : Gh) : C → Value → Prop
  | .d x, v => Dr G.V x v
  | .junk, v => v.oneCell' = true
  | .loc i off, v => ∃ b n, G.g[i]? = some (.pointer (some ⟨b, 0, none⟩), n) ∧ v = .pointer (some ⟨b, off, none⟩)
  | .own i ver, v => v.oneCell' = true ∧ ∃ v0 n, G.g[i]? = some (v0, n) ∧ ver ≤ n ∧ (ver = n → v = v0)
  | .sub i ver sz lo m, v => v.oneCell' = true ∧ ∃ v0 n, G.g[i]? = some (v0, n) ∧ ver ≤ n ∧ (ver = n →
      ∃ A cap, v = .slice A m cap ∧ m ≤ cap ∧ cap ≤ maxLen ∧ (0 < m → ∃ b len0 cap0, v0 = .slice (some ⟨b, 0, none⟩) len0 cap0 ∧ A = some ⟨b, lo * sz, none⟩))
  | .rowp i ver sz k off, v => v.oneCell' = true ∧ ∃ v0 n, G.g[i]? = some (v0, n) ∧ ver ≤ n ∧ (ver = n → ∃ b len cap, v0 = .slice (some ⟨b, 0, none⟩) len cap ∧ v = .pointer (some ⟨b, k * sz + off, none⟩))
  | .ptr cs, v => ∃ (ad : Addr) (u : Nat → Value), v = .pointer (some ad) ∧ ∀ j c, cs[j]? = some c → cellIn G.V.H (ad.add j) = some (u j) ∧ Dr G.V c (u j)
  | .bor sz els, v => ∃ (A : Option Addr) (cap : Nat) (u : Nat → Nat → Value), v = .slice A els.length cap ∧ els.length ≤ cap ∧ cap ≤ maxLen ∧ (∀ e ∈ els, e.length = sz) ∧
      (els ≠ [] → ∃ ad, A = some ad ∧ ∀ i e j c, els[i]? = some e → e[j]? = some c → cellIn G.V.H (ad.add (i * sz + j)) = some (u i j)) ∧
      ∀ i e j c, els[i]? = some e → e[j]? = some c → Dr G.V c (u i j)
  | .clo f caps, v => ∃ bs : List Nat, v = .func (.func f) #[] (bs.map fun b => Value.pointer (some ⟨b, 0, none⟩)).toArray ∧ All2 (fun i b => ∃ n, G.g[i]? = some (.pointer (some ⟨b, 0, none⟩), n)) caps bs
  | .fn R, v => v.oneCell' = true ∧ ∀ V', G.V.Le V' → R V' v

def Wr (G : Gh) : AV → Value → Prop
  | .any, _ => True
  | .c x, v => Cr G x v
  | .agg cs, v => ∃ vs : List Value, v = .agg vs.toArray ∧ All2 (Cr G) cs vs
  | .tup _, _ => False

def Ar (G : Gh) : AV → Value → Prop
  | .tup as, v => ∃ vs : List Value, v = .tuple vs.toArray ∧ All2 (Wr G) as vs
  | a, v => Wr G a v

theorem Cr.one {G : Gh} {c : C} {v : Value} (h : Cr G c v) : v.oneCell' = true := by
  cases c with
  | d x => exact Dr.one h
  | junk => exact h
  | loc i off => obtain ⟨b, n, _, rfl⟩ := h; rfl
  | own i ver => exact h.1
  | sub i ver sz lo n => exact h.1
  | rowp i ver sz k off => exact h.1
  | ptr cs => obtain ⟨ad, u, rfl, _⟩ := h; rfl
  | bor sz els => obtain ⟨A, cap, u, rfl, _⟩ := h; rfl
  | clo f caps => obtain ⟨bs, rfl, _⟩ := h; rfl
  | fn R => exact h.1

/-- The ghost grows: what stays, stays; the first m local entries are the same ones, moved at most. -/
structure GLe (m : Nat) (G G' : Gh) : Prop where
  V : G.V.Le G'.V
  g : ∀ i v n, i < m → G.g[i]? = some (v, n) → ∃ v' n', G'.g[i]? = some (v', n') ∧ n ≤ n' ∧ (n = n' → v' = v) ∧ ((∃ p, v = .pointer p) → v' = v ∧ n' = n)

theorem GLe.refl (m : Nat) (G : Gh) : GLe m G G := ⟨.refl _, fun _ v n _ h => ⟨v, n, h, Nat.le_refl _, fun _ => rfl, fun _ => ⟨rfl, rfl⟩⟩⟩
theorem GLe.trans {m : Nat} {A B C : Gh} (h : GLe m A B) (k : GLe m B C) : GLe m A C :=
  ⟨h.V.trans k.V, fun i v n hi e => by
    obtain ⟨v', n', e', h1, h2, h3⟩ := h.g i v n hi e
    obtain ⟨v'', n'', e'', k1, k2, k3⟩ := k.g i v' n' hi e'
    refine ⟨v'', n'', e'', Nat.le_trans h1 k1, fun e => ?_, fun hp => ?_⟩
    · have a1 : n = n' := by omega
      have a2 : n' = n'' := by omega
      rw [k2 a2, h2 a1]
    · obtain ⟨rfl, rfl⟩ := h3 hp
      exact k3 hp⟩
theorem GLe.mono {m m' : Nat} {A B : Gh} (h : GLe m A B) (hm : m' ≤ m) : GLe m' A B := ⟨h.V, fun i v n hi => h.g i v n (by omega)⟩

theorem All2.mono_cap {G G' : Gh} {m : Nat} {caps bs : List Nat} (hG : GLe m G G') (h : All2 (fun i b => ∃ n, G.g[i]? = some (.pointer (some ⟨b, 0, none⟩), n)) caps bs) (hm : ∀ i ∈ caps, i < m) :
    All2 (fun i b => ∃ n, G'.g[i]? = some (.pointer (some ⟨b, 0, none⟩), n)) caps bs :=
  h.imp' fun i b hi ⟨n, e⟩ => by
    obtain ⟨v', n', e', _, _, h3⟩ := hG.g i _ n (hm i hi) e
    obtain ⟨rfl, rfl⟩ := h3 ⟨_, rfl⟩
    exact ⟨_, e'⟩

/-- Which local entries a cell refers to: all below m. -/
def C.low (m : Nat) : C → Prop
  | .loc i _ | .own i _ | .sub i _ _ _ _ | .rowp i _ _ _ _ => i < m
  | .clo _ caps => ∀ i ∈ caps, i < m
  | _ => True

theorem getElem?_lt {α : Type} {l : List α} {i : Nat} {x : α} (h : l[i]? = some x) : i < l.length := by
  rcases Nat.lt_or_ge i l.length with h' | h'
  · exact h'
  · rw [List.getElem?_eq_none h'] at h; cases h

theorem Cr.low {G : Gh} {c : C} {v : Value} (h : Cr G c v) : c.low G.g.length := by
  cases c with
  | loc i off => obtain ⟨b, n, e, _⟩ := h; exact getElem?_lt e
  | own i ver => obtain ⟨_, v0, n, e, _⟩ := h; exact getElem?_lt e
  | sub i ver sz lo m => obtain ⟨_, v0, n, e, _⟩ := h; exact getElem?_lt e
  | rowp i ver sz k off => obtain ⟨_, v0, n, e, _⟩ := h; exact getElem?_lt e
  | clo f caps =>
    obtain ⟨bs, _, hc⟩ := h
    intro i hi
    obtain ⟨j, hj, e⟩ := List.mem_iff_getElem.1 hi
    obtain ⟨b, _, n, e'⟩ := hc.get j i (by rw [List.getElem?_eq_getElem hj, e])
    exact getElem?_lt e'
  | _ => trivial

theorem Cr.mono {G G' : Gh} {m : Nat} (hG : GLe m G G') {c : C} {v : Value} (hl : c.low m) (h : Cr G c v) : Cr G' c v := by
  cases c with
  | d x => exact Dr.mono hG.V h
  | junk => exact h
  | loc i off =>
    obtain ⟨b, n, e, rfl⟩ := h
    obtain ⟨v', n', e', _, _, h3⟩ := hG.g i _ n hl e
    obtain ⟨rfl, rfl⟩ := h3 ⟨_, rfl⟩
    exact ⟨b, _, e', rfl⟩
  | own i ver =>
    obtain ⟨h1, v0, n, e, hv, hx⟩ := h
    obtain ⟨v', n', e', k1, k2, _⟩ := hG.g i _ n hl e
    exact ⟨h1, v', n', e', by omega, fun hh => by
      have : n = n' := by omega
      rw [hx (by omega), k2 this]⟩
  | sub i ver sz lo m =>
    obtain ⟨h1, v0, n, e, hv, hx⟩ := h
    obtain ⟨v', n', e', k1, k2, _⟩ := hG.g i _ n hl e
    exact ⟨h1, v', n', e', by omega, fun hh => by
      have : n = n' := by omega
      rw [k2 this]; exact hx (by omega)⟩
  | rowp i ver sz k off =>
    obtain ⟨h1, v0, n, e, hv, hx⟩ := h
    obtain ⟨v', n', e', k1, k2, _⟩ := hG.g i _ n hl e
    exact ⟨h1, v', n', e', by omega, fun hh => by
      have : n = n' := by omega
      rw [k2 this]; exact hx (by omega)⟩
  | ptr cs =>
    obtain ⟨ad, u, rfl, hc⟩ := h
    exact ⟨ad, u, rfl, fun j c hj => ⟨cellIn_le (fun o => hG.V.H _ o) (hc j c hj).1, Dr.mono hG.V (hc j c hj).2⟩⟩
  | bor sz els =>
    obtain ⟨A, cap, u, rfl, h1, h2, h3, h4, h5⟩ := h
    refine ⟨A, cap, u, rfl, h1, h2, h3, fun hn => ?_, fun i e j c a b => Dr.mono hG.V (h5 i e j c a b)⟩
    obtain ⟨ad, e, hc⟩ := h4 hn
    exact ⟨ad, e, fun i e j c a b => cellIn_le (fun o => hG.V.H _ o) (hc i e j c a b)⟩
  | clo f caps =>
    obtain ⟨bs, rfl, hc⟩ := h
    exact ⟨bs, rfl, All2.mono_cap hG hc hl⟩
  | fn R => exact ⟨h.1, fun V' hV => h.2 V' (hG.V.trans hV)⟩

def AV.low1 (m : Nat) : AV → Prop
  | .c x => x.low m
  | .agg cs => ∀ c ∈ cs, c.low m
  | _ => True

def AV.low (m : Nat) : AV → Prop
  | .any => True
  | .c x => x.low m
  | .agg cs => ∀ c ∈ cs, c.low m
  | .tup vs => ∀ v ∈ vs, v.low1 m

theorem Wr.mono {G G' : Gh} {m : Nat} (hG : GLe m G G') {x : AV} {v : Value} (hl : x.low1 m) (h : Wr G x v) : Wr G' x v := by
  cases x with
  | any => trivial
  | c x => exact Cr.mono hG hl h
  | agg cs => obtain ⟨vs, rfl, hc⟩ := h; exact ⟨vs, rfl, hc.imp' fun c v hm => Cr.mono hG (hl c hm)⟩
  | tup vs => exact h.elim

theorem Ar.mono {G G' : Gh} {m : Nat} (hG : GLe m G G') {x : AV} {v : Value} (hl : x.low m) (h : Ar G x v) : Ar G' x v := by
  cases x with
  | tup as => obtain ⟨vs, rfl, hc⟩ := h; exact ⟨vs, rfl, hc.imp' fun a v hm ha => Wr.mono hG (hl a hm) ha⟩
  | any => trivial
  | c x => exact Wr.mono (x := .c x) hG hl h
  | agg cs => exact Wr.mono (x := .agg cs) hG hl h

theorem All2.low {G : Gh} {cs : List C} {vs : List Value} (h : All2 (Cr G) cs vs) : ∀ c ∈ cs, c.low G.g.length := by
  induction h with
  | nil => intro c hc; cases hc
  | cons h t ih => intro c hc; cases hc with | head => exact h.low | tail _ hm => exact ih c hm

theorem Wr.low {G : Gh} {x : AV} {v : Value} (h : Wr G x v) : x.low1 G.g.length := by
  cases x with
  | any => trivial
  | c x => exact Cr.low h
  | agg cs => obtain ⟨vs, _, hc⟩ := h; exact All2.low hc
  | tup vs => trivial

theorem Ar.low {G : Gh} {x : AV} {v : Value} (h : Ar G x v) : x.low G.g.length := by
  cases x with
  | tup as =>
    obtain ⟨vs, _, hc⟩ := h
    intro a ha
    obtain ⟨j, hj, e⟩ := List.mem_iff_getElem.1 ha
    obtain ⟨b, _, hw⟩ := hc.get j a (by rw [List.getElem?_eq_getElem hj, e])
    exact hw.low
  | any => trivial
  | c x => exact Wr.low (x := .c x) h
  | agg cs => exact Wr.low (x := .agg cs) h

theorem Cr.grow {G G' : Gh} (hG : GLe G.g.length G G') {c : C} {v : Value} (h : Cr G c v) : Cr G' c v := h.mono hG h.low
theorem Ar.grow {G G' : Gh} (hG : GLe G.g.length G G') {x : AV} {v : Value} (h : Ar G x v) : Ar G' x v := h.mono hG h.low
/-- A variable that nobody writes any more: its cells, all of them. -/
def Gp (G : Gh) (p : Nat × List D) : Prop := Cr G (.ptr p.2) (.pointer (some ⟨p.1, 0, none⟩)) ∧ ∃ c t fr, G.V.H p.1 = some (.cells c t fr) ∧ c.size = p.2.length
theorem Gp.mono {G G' : Gh} {m : Nat} {p : Nat × List D} (h : Gp G p) (hG : GLe m G G') (_ : True) : Gp G' p :=
  ⟨h.1.mono hG trivial, let ⟨c, t, fr, e, hs⟩ := h.2; ⟨c, t, fr, hG.V.H _ _ e, hs⟩⟩
theorem Gp.grow {G G' : Gh} {p : Nat × List D} (h : Gp G p) (hG : GLe G.g.length G G') : Gp G' p := h.mono hG trivial
end Go.Ax

/-
  The abstract state held against a world; the rules for code, one for each form of code. No condition.
-/
namespace Go.Ax
open Go Go.RowKit

inductive LB where
  | box (t : TypeId) (cs : List C)
  | row (t : TypeId) (sz : Nat) (els : List (List D)) (ver : Nat)
  | dead
  | mp (sh : List Kc) (m : Mp)
  | it (todo : Mp) (last : Option (List KD × Int))
  | sit (s : List UInt8) (pos : Nat)

def LB.live : LB → Prop
  | .dead => False
  | _ => True

def blkOf : Value → Option Nat
  | .pointer (some a) => some a.block
  | .slice (some a) _ _ => some a.block
  | .map (some b) => some b
  | _ => none
/-- An iterator over a map that nobody writes any more: what is to come, and what came last. -/
def ItRep (H : Nat → Option Obj) (o : Obj) (todo : Mp) (last : Option (List KD × Int)) : Prop :=
  (o = .mapIter none 0 #[] 0 ∧ todo = [] ∧ last = none) ∨
  ∃ (b : Nat) (es : Array MapEntry) (clock : Nat) (seen : Array Nat), o = .mapIter (some b) clock seen clock ∧ H b = some (.map es clock) ∧ MapKept.Stamped es clock ∧
    ((leftOf es seen).toList.map fun e => (e.key, e.val)) = todo.map (fun kv => (keyV kv.1, Value.int .i64 kv.2)) ∧
    ∀ kv, last = some kv → ∃ e, e ∈ es.toList ∧ seen.back? = some e.born ∧ e.key = keyV kv.1 ∧ e.val = .int .i64 kv.2

theorem ItRep.mono' {H H' : Nat → Option Obj} {o : Obj} {todo : Mp} {last : Option (List KD × Int)} (h : ItRep H o todo last) (hV : ∀ b o, H b = some o → H' b = some o) : ItRep H' o todo last := by
  rcases h with h | ⟨b, es, clock, seen, h1, h2, h3⟩
  · exact .inl h
  · exact .inr ⟨b, es, clock, seen, h1, hV _ _ h2, h3⟩
theorem ItRep.mono {V V' : Vw} {o : Obj} {todo : Mp} {last : Option (List KD × Int)} (h : ItRep V.H o todo last) (hV : V.Le V') : ItRep V'.H o todo last := h.mono' hV.H

def Lr (G : Gh) (w : World) (base : Nat) : LB → Value × Nat → Prop
  | .dead, _ => True
  | .box t cs, e => e.2 = 0 ∧ ∃ (b : Nat) (vs : List Value), e.1 = .pointer (some ⟨b, 0, none⟩) ∧ base ≤ b ∧ G.V.H b = none ∧ w.heap[b]? = some (.cells vs.toArray t (0, 0)) ∧ All2 (Cr G) cs vs
  | .row t sz els ver, e => e.2 = ver ∧ ∃ xs, w.ownsRow base t sz e.1 els.length xs ∧ (∀ b, e.1.ownBlock = some b → G.V.H b = none) ∧ All2 (Dr G.V) els.flatten xs ∧ ∀ x ∈ els, x.length = sz
  | .mp sh m, e => e.2 = 0 ∧ ∃ (b : Nat) (es : Array MapEntry) (clock : Nat), e.1 = .map (some b) ∧ base ≤ b ∧ G.V.H b = none ∧ w.heap[b]? = some (.map es clock) ∧ MapRep sh m es clock
  | .it todo last, e => e.2 = 0 ∧ ∃ (b : Nat) (o : Obj), e.1 = .pointer (some ⟨b, 0, none⟩) ∧ base ≤ b ∧ G.V.H b = none ∧ w.heap[b]? = some o ∧ ItRep G.V.H o todo last
  | .sit s pos, e => e.2 = 0 ∧ ∃ b : Nat, e.1 = .pointer (some ⟨b, 0, none⟩) ∧ base ≤ b ∧ G.V.H b = none ∧ w.heap[b]? = some (.stringIter ⟨s.toArray⟩ pos)

structure Pm where
  n0 : Nat
  N : Nat
  Γ : List (Nat × List D)

structure Cx where
  pm : Pm
  w0 : World
  S : Nat → Prop
  G0 : Gh
  df : List Deferred
  s0 : Nat

structure SatH (cx : Cx) (G : Gh) (h : List LB) (w : World) : Prop where
  len : G.g.length = h.length
  ent : ∀ (i : Nat) (b : LB) (e : Value × Nat), h[i]? = some b → G.g[i]? = some e → Lr G w cx.w0.heap.size b e
  sep : ∀ (i j : Nat) (bi bj : LB) (ei ej : Value × Nat) (k : Nat), h[i]? = some bi → h[j]? = some bj → bi.live → bj.live → G.g[i]? = some ei → G.g[j]? = some ej → blkOf ei.1 = some k → blkOf ej.1 = some k → i = j
  view : ∀ b o, G.V.H b = some o → w.heap[b]? = some o
  imm : ∀ b, G.V.I b → (∃ o, G.V.H b = some o) ∧ (cx.S b ∨ cx.w0.heap.size ≤ b)
  below : Below cx.w0.heap.size cx.w0 w
  ext : GLe cx.pm.n0 cx.G0 G
  glob : ∀ p, p ∈ cx.pm.Γ → Gp G p
  sz : cx.s0 ≤ w.heap.size

/-- The slots, eight to a row. -/
abbrev Env := List (List AV)
structure St where
  env : Env
  heap : List LB

def g1 : List AV → Nat → AV
  | [], _ => .any
  | a :: _, 0 => a
  | _ :: r, n + 1 => g1 r n
def g2 : Env → Nat → List AV
  | [], _ => []
  | c :: _, 0 => c
  | _ :: r, n + 1 => g2 r n
def s1 : List AV → Nat → AV → List AV
  | [], 0, α => [α]
  | [], n + 1, α => .any :: s1 [] n α
  | _ :: r, 0, α => α :: r
  | a :: r, n + 1, α => a :: s1 r n α
def s2 : Env → Nat → List AV → Env
  | [], 0, c => [c]
  | [], n + 1, c => [] :: s2 [] n c
  | _ :: r, 0, c => c :: r
  | d :: r, n + 1, c => d :: s2 r n c
/-- What a slot holds; and a slot given. -/
def lk (t : Nat) (e : Env) : AV := g1 (g2 e (t / 8)) (t % 8)
def pute (t : Nat) (α : AV) (e : Env) : Env := s2 e (t / 8) (s1 (g2 e (t / 8)) (t % 8) α)
def St.put (st : St) (dst : Option Nat) (α : AV) : St :=
  match dst with
  | none => st
  | some t => ⟨pute t α st.env, st.heap⟩

def cAV : Value → AV
  | .int k n => .c (.d (.int k n))
  | .bool b => .c (.d (.bool b))
  | .string s => .c (.d (.str s.data.toList))
  | .slice none 0 0 => .c (.d (.raw (.slice none 0 0)))
  | .map none => .c (.d (.raw (.map none)))
  | _ => .any

def lkG (g : Nat) : List (Nat × List D) → AV
  | [] => .any
  | (k, cs) :: r => if k = g then .c (.ptr cs) else lkG g r

def ev (Γ : List (Nat × List D)) (env : Env) : Operand → AV
  | .tmp t => lk t env
  | .const v => cAV v
  | .global g => lkG g Γ
  | .func f => .c (.clo f [])

structure Sat (cx : Cx) (G : Gh) (st : St) (a : Act) (w : World) : Prop where
  h : SatH cx G st.heap w
  env : ∀ t, Ar G (lk t st.env) (a.tmps.getD t undef)
  N : a.tmps.size = cx.pm.N
  defers : a.defers = cx.df

theorem g1_s1 : ∀ (l : List AV) (k t : Nat) (α : AV), g1 (s1 l k α) t = if k = t then α else g1 l t
  | [], 0, 0, α => by simp [s1, g1]
  | [], 0, t + 1, α => by simp [s1, g1]
  | [], k + 1, 0, α => by simp [s1, g1]
  | [], k + 1, t + 1, α => by simp [s1, g1, g1_s1 [] k t α]
  | a :: r, 0, 0, α => by simp [s1, g1]
  | a :: r, 0, t + 1, α => by simp [s1, g1]
  | a :: r, k + 1, 0, α => by simp [s1, g1]
  | a :: r, k + 1, t + 1, α => by simp [s1, g1, g1_s1 r k t α]
theorem g2_s2 : ∀ (e : Env) (k t : Nat) (c : List AV), g2 (s2 e k c) t = if k = t then c else g2 e t
  | [], 0, 0, α => by simp [s2, g2]
  | [], 0, t + 1, α => by simp [s2, g2]
  | [], k + 1, 0, α => by simp [s2, g2]
  | [], k + 1, t + 1, α => by simp [s2, g2, g2_s2 [] k t α]
  | a :: r, 0, 0, α => by simp [s2, g2]
  | a :: r, 0, t + 1, α => by simp [s2, g2]
  | a :: r, k + 1, 0, α => by simp [s2, g2]
  | a :: r, k + 1, t + 1, α => by simp [s2, g2, g2_s2 r k t α]
theorem lk_put {t k : Nat} {α : AV} {ρ : Env} : lk t (pute k α ρ) = if k = t then α else lk t ρ := by
  unfold lk pute
  rw [g2_s2]
  by_cases h1 : k / 8 = t / 8
  · rw [if_pos h1, g1_s1]
    by_cases h2 : k % 8 = t % 8
    · rw [if_pos h2, if_pos (by omega)]
    · rw [if_neg h2, if_neg (by omega), h1]
  · rw [if_neg h1, if_neg (by omega)]

theorem byteArray_eta (s : ByteArray) : (⟨s.data.toList.toArray⟩ : ByteArray) = s := by cases s; simp

theorem cAV_ok (G : Gh) (v : Value) : Ar G (cAV v) v := by
  unfold cAV
  split
  · exact Dr.int _ _
  · exact Dr.bool _
  · next s => exact (byteArray_eta s) ▸ (Dr.str (V := G.V) s.data.toList)
  · exact Dr.raw _ rfl
  · exact Dr.raw _ rfl
  · trivial

theorem lkG_ok {cx : Cx} {G : Gh} {g : Nat} : ∀ (Γ : List (Nat × List D)), (∀ p, p ∈ Γ → Gp G p) → Ar G (lkG g Γ) (.pointer (some ⟨g, 0, none⟩))
  | [], _ => trivial
  | (k, cs) :: r, h => by
    by_cases hk : k = g
    · subst hk; simp only [lkG, if_true]; exact (h (k, cs) (by simp)).1
    · simp only [lkG, hk, if_false]; exact lkG_ok (cx := cx) r fun p hp => h p (by simp [hp])

theorem Sat.ev {cx : Cx} {G : Gh} {st : St} {a : Act} {w : World} (s : Sat cx G st a w) (x : Operand) : Ar G (ev cx.pm.Γ st.env x) (a.eval x) := by
  cases x with
  | tmp t =>
    exact s.env t
  | const v => exact cAV_ok G v
  | global g => exact lkG_ok (cx := cx) _ s.h.glob
  | func f => exact ⟨[], rfl, .nil⟩

def dstOk (N : Nat) : Option Nat → Prop
  | none => True
  | some t => t < N

theorem Sat.put {cx : Cx} {G : Gh} {st : St} {a : Act} {w : World} (s : Sat cx G st a w) {dst : Option Nat} {α : AV} {v : Value} (hr : Ar G α v) (hd : dstOk cx.pm.N dst) : Sat cx G (st.put dst α) (a.put dst v) w := by
  cases dst with
  | none => exact s
  | some t =>
    refine ⟨s.h, fun k => ?_, by simpa [Act.put] using s.N, s.defers⟩
    have hN : t < a.tmps.size := by rw [s.N]; exact hd
    simp only [Act.put, St.put]
    rw [lk_put]
    by_cases htk : t = k
    · subst htk
      have : (a.tmps.setIfInBounds t v).getD t undef = v := by simp [Array.getD, hN]
      rw [this, if_pos rfl]; exact hr
    · have : (a.tmps.setIfInBounds t v).getD k undef = a.tmps.getD k undef := by
        simp only [Array.getD_eq_getD_getElem?, Array.getElem?_setIfInBounds]
        rw [if_neg (by omega)]
      rw [this, if_neg htk]; exact s.env k

theorem GLe.all {G G' : Gh} (h : GLe G.g.length G G') (m : Nat) : GLe m G G' := ⟨h.V, fun i v n _ e => h.g i v n (getElem?_lt e) e⟩

/-- The world and the local memory move on; the frame stays. -/
theorem Sat.step {cx : Cx} {G G' : Gh} {st : St} {h' : List LB} {a : Act} {w w' : World} (s : Sat cx G st a w) (hG : GLe G.g.length G G') (hh : SatH cx G' h' w') : Sat cx G' ⟨st.env, h'⟩ a w' :=
  ⟨hh, fun t => (s.env t).grow hG, s.N, s.defers⟩

def Post (cx : Cx) (Q : Exit → St → Prop) : Exit → Act → World → Prop := fun e a w => ∃ G st, Sat cx G st a w ∧ Q e st

variable {P : Program}

def AXc (P : Program) (pm : Pm) (c : Code) (st : St) (Q : Exit → St → Prop) : Prop :=
  ∀ (cx : Cx) (G : Gh) (a : Act) (w : World), cx.pm = pm → Sat cx G st a w → wp2 P c (Post cx Q) a w

def AXl (P : Program) (pm : Pm) (ops : Array Oper) (rest : List Oper) (st : St) (K : St → Prop) : Prop :=
  ∀ (cx : Cx) (G : Gh) (a : Act) (w : World) (Q : Exit → Act → World → Prop), cx.pm = pm → Sat cx G st a w →
    (∀ G' st' a' w', Sat cx G' st' a' w' → K st' → Q .normal a' w') → wpList P ops Q rest a w

def Ethen (K : St → Prop) (Q : Exit → St → Prop) : Exit → St → Prop
  | .normal, st => K st
  | e, st => Q e st
def EinBlock (id : Nat) (Q : Exit → St → Prop) : Exit → St → Prop
  | .exit id', st => if id' = id then Q .normal st else Q (.exit id') st
  | e, st => Q e st

theorem AXc.mono {pm : Pm} {c : Code} {st : St} {Q Q' : Exit → St → Prop} (h : AXc P pm c st Q) (hq : ∀ e s, Q e s → Q' e s) : AXc P pm c st Q' :=
  fun cx G a w hp s => wp2_mono (h cx G a w hp s) fun e a w ⟨G', st', s', q⟩ => ⟨G', st', s', hq _ _ q⟩

theorem AXc.seq {pm : Pm} {x y : Code} {st : St} {Q : Exit → St → Prop} (h : ∀ K : St → Prop, (∀ st', AXc P pm y st' Q → K st') → AXc P pm x st (Ethen K Q)) : AXc P pm (.seq x y) st Q := by
  intro cx G a w hp s
  refine wp2_seq (wp2_mono (h (fun st' => AXc P pm y st' Q) (fun _ h => h) cx G a w hp s) ?_)
  rintro e a' w' ⟨G', st', s', q⟩
  cases e with
  | normal => exact q cx G' a' w' hp s'
  | _ => exact ⟨G', st', s', q⟩

theorem AXc.cond {pm : Pm} {c : Operand} {x y : Code} {st : St} {Q : Exit → St → Prop} {b : Bool} (hc : ev pm.Γ st.env c = .c (.d (.bool b))) (ht : b = true → AXc P pm x st Q) (hf : b = false → AXc P pm y st Q) : AXc P pm (.cond c x y) st Q := by
  intro cx G a w hp s
  have h := s.ev c
  rw [hp, hc] at h
  have hv : a.eval c = .bool b := by
    generalize a.eval c = v at h
    cases h; rfl
  exact wp2_cond_split hv (fun e => ht e cx G a w hp s) (fun e => hf e cx G a w hp s)

theorem AXc.block {pm : Pm} {id : Nat} {c : Code} {st : St} {Q : Exit → St → Prop} (h : AXc P pm c st (EinBlock id Q)) : AXc P pm (.block id c) st Q := by
  intro cx G a w hp s
  refine wp2_block (wp2_mono (h cx G a w hp s) ?_)
  rintro e a' w' ⟨G', st', s', q⟩
  cases e with
  | exit id' =>
    by_cases hid : id' = id
    · simp only [Exit.inBlock, hid, if_true]
      simp only [EinBlock, hid, if_true] at q
      exact ⟨G', st', s', q⟩
    · simp only [Exit.inBlock, hid, if_false]
      simp only [EinBlock, hid, if_false] at q
      exact ⟨G', st', s', q⟩
  | _ => exact ⟨G', st', s', q⟩

theorem AXc.skip {pm : Pm} {st : St} {Q : Exit → St → Prop} (h : Q .normal st) : AXc P pm .skip st Q := fun _ G _ _ _ s => wp2_skip ⟨G, st, s, h⟩
theorem AXc.label {pm : Pm} {st : St} {l : Nat} {Q : Exit → St → Prop} (h : Q .normal st) : AXc P pm (.label l) st Q := fun _ G _ _ _ s => wp2_label ⟨G, st, s, h⟩
theorem AXc.exit {pm : Pm} {st : St} {id : Nat} {Q : Exit → St → Prop} (h : Q (.exit id) st) : AXc P pm (.exit id) st Q := fun _ G _ _ _ s => wp2_exit ⟨G, st, s, h⟩
theorem AXc.ret {pm : Pm} {st : St} {Q : Exit → St → Prop} (h : Q .ret st) : AXc P pm .ret st Q := fun _ G _ _ _ s => wp2_ret ⟨G, st, s, h⟩

theorem AXc.region {pm : Pm} {id : Nat} {l : List Oper} {st : St} {Q : Exit → St → Prop} (h : AXl P pm l.toArray l st (Q .normal)) : AXc P pm (.region id l.toArray false) st Q :=
  fun cx G a w hp s => wp2_region_lit (h cx G a w _ hp s fun G' st' _ _ s' k => ⟨G', st', s', k⟩)

theorem AXl.nil {pm : Pm} {ops : Array Oper} {st : St} {K : St → Prop} (h : K st) : AXl P pm ops [] st K :=
  fun _ G _ _ _ _ s hQ => hQ G st _ _ s h

/-! ### Forgetting -/

def subE (env' env : Env) : Prop := ∀ t, lk t env' = .any ∨ lk t env' = lk t env

theorem subE_ok {cx : Cx} {G : Gh} {st : St} {a : Act} {w : World} (s : Sat cx G st a w) : ∀ env', subE env' st.env → ∀ t, Ar G (lk t env') (a.tmps.getD t undef) := by
  intro env' h t
  rcases h t with h | h
  · rw [h]; trivial
  · rw [h]; exact s.ev (.tmp t)

theorem AXc.weaken {pm : Pm} {c : Code} {st : St} {Q : Exit → St → Prop} (env : Env) (hs : subE env st.env) (h : AXc P pm c ⟨env, st.heap⟩ Q) : AXc P pm c st Q :=
  fun cx G a w hp s => h cx G a w hp ⟨s.h, subE_ok s env hs, s.N, s.defers⟩

def LB.low (m : Nat) : LB → Prop
  | .box _ cs => ∀ c ∈ cs, c.low m
  | _ => True

/-- What may be forgotten: slots, and the last local entries where nothing that is kept refers to them. -/
structure Fits (pm : Pm) (st st' : St) : Prop where
  env : subE st'.env st.env
  len : st'.heap.length ≤ st.heap.length
  heap : st'.heap = st.heap.take st'.heap.length
  n0 : pm.n0 ≤ st'.heap.length
  lowE : ∀ t, (lk t st'.env).low st'.heap.length
  lowH : ∀ b, b ∈ st'.heap → b.low st'.heap.length

theorem gle_take {G : Gh} {m k : Nat} (h : m ≤ k) : GLe m G ⟨G.V, G.g.take k⟩ :=
  ⟨.refl _, fun i v n hi e => ⟨v, n, by simp [List.getElem?_take, show i < k by omega, e], Nat.le_refl _, fun _ => rfl, fun _ => ⟨rfl, rfl⟩⟩⟩

theorem Lr.mono {G G' : Gh} {w : World} {base m : Nat} {b : LB} {e : Value × Nat} (hG : GLe m G G') (hH : ∀ b, G.V.H b = none → G'.V.H b = none) (hl : b.low m) (h : Lr G w base b e) : Lr G' w base b e := by
  cases b with
  | dead => trivial
  | box t cs =>
    obtain ⟨h1, b, vs, h2, h3, h4, h5, h6⟩ := h
    exact ⟨h1, b, vs, h2, h3, hH _ h4, h5, h6.imp' fun c v hm hc => hc.mono hG (hl c hm)⟩
  | row t sz els ver =>
    obtain ⟨h1, xs, h2, h3, h4, h5⟩ := h
    exact ⟨h1, xs, h2, fun b hb => hH _ (h3 b hb), h4.imp fun _ _ hd => hd.mono hG.V, h5⟩
  | mp sh m =>
    obtain ⟨h1, b, es, clock, h2, h3, h4, h5, h6⟩ := h
    exact ⟨h1, b, es, clock, h2, h3, hH b h4, h5, h6⟩
  | it todo last =>
    obtain ⟨h1, b, o, h2, h3, h4, h5, h6⟩ := h
    exact ⟨h1, b, o, h2, h3, hH b h4, h5, h6.mono hG.V⟩
  | sit s pos =>
    obtain ⟨h1, b, h2, h3, h4, h5⟩ := h
    exact ⟨h1, b, h2, h3, hH b h4, h5⟩

theorem Lr.low {G : Gh} {w : World} {base : Nat} {b : LB} {e : Value × Nat} (h : Lr G w base b e) : b.low G.g.length := by
  cases b with
  | box t cs => obtain ⟨_, b, vs, _, _, _, _, h6⟩ := h; exact All2.low h6
  | _ => trivial

/-- The same where what stays has grown, the entry's own block apart. -/
theorem Lr.mono' {G G' : Gh} {w : World} {base : Nat} {b : LB} {e : Value × Nat} (hG : GLe G.g.length G G') (hH : ∀ k, b.live → blkOf e.1 = some k → G'.V.H k = none) (h : Lr G w base b e) : Lr G' w base b e := by
  have hlow := h.low
  cases b with
  | dead => trivial
  | box t cs =>
    obtain ⟨h1, b, vs, h2, h3, h4, h5, h6⟩ := h
    exact ⟨h1, b, vs, h2, h3, hH b trivial (by rw [h2]; rfl), h5, h6.imp' fun c v hm hc => hc.mono hG (hlow c hm)⟩
  | row t sz els ver =>
    obtain ⟨h1, xs, h2, h3, h4, h5⟩ := h
    refine ⟨h1, xs, h2, fun b hb => hH b trivial ?_, h4.imp fun _ _ hd => hd.mono hG.V, h5⟩
    obtain ⟨_, ⟨e2, _⟩ | ⟨g, cap, cur, e2, _⟩⟩ := h2
    · rw [e2] at hb; cases hb
    · rw [e2] at hb ⊢; exact hb
  | mp sh m =>
    obtain ⟨h1, b, es, clock, h2, h3, h4, h5, h6⟩ := h
    exact ⟨h1, b, es, clock, h2, h3, hH b trivial (by rw [h2]; rfl), h5, h6⟩
  | it todo last =>
    obtain ⟨h1, b, o, h2, h3, h4, h5, h6⟩ := h
    exact ⟨h1, b, o, h2, h3, hH b trivial (by rw [h2]; rfl), h5, h6.mono hG.V⟩
  | sit s pos =>
    obtain ⟨h1, b, h2, h3, h4, h5⟩ := h
    exact ⟨h1, b, h2, h3, hH b trivial (by rw [h2]; rfl), h5⟩

theorem Sat.fits {cx : Cx} {G : Gh} {st st' : St} {a : Act} {w : World} (s : Sat cx G st a w) (f : Fits cx.pm st st') : Sat cx ⟨G.V, G.g.take st'.heap.length⟩ st' a w := by
  have hg : GLe st'.heap.length G ⟨G.V, G.g.take st'.heap.length⟩ := gle_take (Nat.le_refl _)
  have hl : (G.g.take st'.heap.length).length = st'.heap.length := by rw [List.length_take, s.h.len]; have := f.len; omega
  have hh : ∀ i b, st'.heap[i]? = some b → st.heap[i]? = some b := fun i b hb => by
    have hi := getElem?_lt hb
    rw [f.heap, List.getElem?_take, if_pos hi] at hb
    exact hb
  have hgg : ∀ i e, (G.g.take st'.heap.length)[i]? = some e → G.g[i]? = some e := fun i e he => by
    rw [List.getElem?_take] at he
    split at he
    · exact he
    · cases he
  refine ⟨⟨hl, fun i b e hb he => ?_, ?_, s.h.view, s.h.imm, s.h.below, s.h.ext.trans (gle_take f.n0), fun p hp => (s.h.glob p hp).mono hg trivial, s.h.sz⟩, fun t => ?_, s.N, s.defers⟩
  · exact (s.h.ent i b e (hh i b hb) (hgg i e he)).mono hg (fun _ h => h) (f.lowH b (List.mem_of_getElem? hb))
  · intro i j bi bj ei ej k h1 h2 h3 h4 h5 h6 h7 h8
    exact s.h.sep i j bi bj ei ej k (hh _ _ h1) (hh _ _ h2) h3 h4 (hgg _ _ h5) (hgg _ _ h6) h7 h8
  · exact (subE_ok s _ f.env t).mono hg (f.lowE t)

theorem AXc.forget {pm : Pm} {c : Code} {st : St} {Q : Exit → St → Prop} (st' : St) (f : Fits pm st st') (h : AXc P pm c st' Q) : AXc P pm c st Q :=
  fun cx G a w hp s => h cx _ a w hp (s.fits (hp ▸ f))

/-- A loop: what holds at the head is a state of a family. -/
theorem AXc.loop {pm : Pm} {body : Code} {st : St} {Q : Exit → St → Prop} {S : Type} (enc : S → St) (I : S → Prop) (μ : S → Nat) (s0 : S) (h0 : I s0) (f0 : Fits pm st (enc s0))
    (round : ∀ s, I s → AXc P pm body (enc s) (Ethen (fun st' => ∃ s', I s' ∧ μ s' < μ s ∧ Fits pm st' (enc s')) Q)) : AXc P pm (.loop body) st Q := by
  intro cx G a w hp hs
  refine wp2_loop (fun s a w => I s ∧ ∃ G, Sat cx G (enc s) a w) μ (s0 := s0) ⟨h0, _, hs.fits (hp ▸ f0)⟩ fun s a w ⟨hI, G, hsat⟩ => wp2_mono (round s hI cx G a w hp hsat) fun e a w ⟨G₁, st₁, s₁, q⟩ => ?_
  cases e with
  | normal =>
    obtain ⟨s', hI', hlt, hf⟩ := q
    exact ⟨s', hlt, hI', _, s₁.fits (hp ▸ hf)⟩
  | _ => exact ⟨G₁, st₁, s₁, q⟩
end Go.Ax

/-
  The operations that leave memory alone, one rule for each; a rule is stated of the operands' readings alone. No condition.
-/
namespace Go.Ax
open Go Go.RowKit

variable {P : Program}

/-- An operation that may make memory that stays, and writes none: from the readings of its operands the reading of its result. -/
def Qt (P : Program) (pm : Pm) (h : List LB) (o : Oper) (ρ : Operand → AV) (r : AV) : Prop :=
  ∀ (cx : Cx) (G : Gh) (w : World) (a : Act), cx.pm = pm → SatH cx G h w → (∀ x ∈ o.op.operands.toList, Ar G (ρ x) (a.eval x)) →
    ∀ (next : Act → World → Prop) (Q : Exit → Act → World → Prop), (∀ v w' G', GLe G.g.length G G' → SatH cx G' h w' → Ar G' r v → next (a.put o.dst v) w') → o.wp P a w next Q

/-- The same where the world is not touched at all. -/
def Still (P : Program) (h : List LB) (o : Oper) (ρ : Operand → AV) (r : AV) : Prop :=
  ∀ (cx : Cx) (G : Gh) (w : World) (a : Act), SatH cx G h w → (∀ x ∈ o.op.operands.toList, Ar G (ρ x) (a.eval x)) →
    ∃ v, (execOp a.eval o).run P w = .ok (.value v) w ∧ Ar G r v

theorem Still.qt {pm : Pm} {h : List LB} {o : Oper} {ρ : Operand → AV} {r : AV} (hs : Still P h o ρ r) : Qt P pm h o ρ r := by
  intro cx G w a _ sh ho next Q hn
  obtain ⟨v, hr, hv⟩ := hs cx G w a sh ho
  unfold Oper.wp
  rw [hr]
  exact hn v w G (.refl _ _) sh hv

theorem AXl.qt {pm : Pm} {ops : Array Oper} {o : Oper} {rest : List Oper} {st : St} {K : St → Prop} {r : AV} (hg : o.guard = none) (hd : dstOk pm.N o.dst)
    (hq : Qt P pm st.heap o (ev pm.Γ st.env) r) (h : AXl P pm ops rest (st.put o.dst r) K) : AXl P pm ops (o :: rest) st K := by
  intro cx G a w Q hp s hQ
  refine wpList_plain hg fun K' hK' => ?_
  refine hq cx G w a hp s.h (fun x _ => hp ▸ s.ev x) _ _ fun v w' G' hG sh hv => hK' _ _ ?_
  exact h cx G' _ w' Q hp ((s.step hG sh).put hv (hp ▸ hd)) hQ

/-! ### Reading a value out of what is known of it -/
theorem ar_int {G : Gh} {k : IntKind} {n : Int} {v : Value} (h : Ar G (.c (.d (.int k n))) v) : v = .int k n := by
  generalize e : D.int k n = x at h
  have h' : Dr G.V x v := h
  cases h' <;> cases e; rfl
theorem ar_bool {G : Gh} {b : Bool} {v : Value} (h : Ar G (.c (.d (.bool b))) v) : v = .bool b := by
  generalize e : D.bool b = x at h
  have h' : Dr G.V x v := h
  cases h' <;> cases e; rfl
theorem ar_str {G : Gh} {l : List UInt8} {v : Value} (h : Ar G (.c (.d (.str l))) v) : v = .string ⟨l.toArray⟩ := by
  generalize e : D.str l = x at h
  have h' : Dr G.V x v := h
  cases h' <;> cases e; rfl
theorem ar_raw {G : Gh} {u v : Value} (h : Ar G (.c (.d (.raw u))) v) : v = u := by
  generalize e : D.raw u = x at h
  have h' : Dr G.V x v := h
  cases h' <;> cases e; rfl
theorem ar_mk {G : Gh} {x : D} {v : Value} (h : Dr G.V x v) : Ar G (.c (.d x)) v := h
theorem dr_int {V : Vw} {k : IntKind} {n : Int} {v : Value} (h : Dr V (.int k n) v) : v = .int k n := by cases h; rfl
theorem dr_bool {V : Vw} {b : Bool} {v : Value} (h : Dr V (.bool b) v) : v = .bool b := by cases h; rfl
theorem dr_str {V : Vw} {l : List UInt8} {v : Value} (h : Dr V (.str l) v) : v = .string ⟨l.toArray⟩ := by cases h; rfl

/-- A slice, however it is known: to be read. -/
def elsOf (h : List LB) : AV → Option (Nat × List (List D))
  | .c (.d (.lst sz els)) => some (sz, els)
  | .c (.bor sz els) => some (sz, els)
  | .c (.own i ver) => match h[i]? with
    | some (.row _ sz els v) => if v = ver then some (sz, els) else none
    | _ => none
  | .c (.sub i ver sz' lo n) => match h[i]? with
    | some (.row _ sz els v) => if v = ver ∧ sz = sz' ∧ lo + n ≤ els.length then some (sz, (els.drop lo).take n) else none
    | _ => none
  | _ => none

/-- What a slice's value gives in the world itself. -/
structure SlAt (V : Vw) (w : World) (sz : Nat) (els : List (List D)) (v : Value) : Prop where
  form : ∃ (A : Option Addr) (cap : Nat) (u : Nat → Nat → Value), v = .slice A els.length cap ∧ els.length ≤ cap ∧ cap ≤ maxLen ∧ (∀ e ∈ els, e.length = sz) ∧
    (els ≠ [] → ∃ ad, A = some ad ∧ ∀ i e j c, els[i]? = some e → e[j]? = some c → w.cell? (ad.add (i * sz + j)) = some (u i j)) ∧
    ∀ i e j c, els[i]? = some e → e[j]? = some c → Dr V c (u i j)

theorem cell_of_view {G : Gh} {w : World} (view : ∀ b o, G.V.H b = some o → w.heap[b]? = some o) {a : Addr} {v : Value} (h : cellIn G.V.H a = some v) : w.cell? a = some v := by
  rw [← cellIn_world]
  exact cellIn_le (fun o => view a.block o) h

theorem flat_get {sz : Nat} : ∀ (els : List (List D)), (∀ e ∈ els, e.length = sz) → ∀ (i : Nat) (e : List D) (j : Nat) (c : D), els[i]? = some e → e[j]? = some c → els.flatten[i * sz + j]? = some c
  | [], _, i, e, j, c, h, _ => by simp at h
  | x :: r, hl, 0, e, j, c, h, hc => by
    simp at h; subst h
    have hj := getElem?_lt hc
    simp [List.flatten_cons, List.getElem?_append_left hj, hc]
  | x :: r, hl, i + 1, e, j, c, h, hc => by
    have hx : x.length = sz := hl x (by simp)
    rw [List.flatten_cons, List.getElem?_append_right (by rw [hx, Nat.add_mul]; omega), hx]
    have : (i + 1) * sz + j - sz = i * sz + j := by rw [Nat.add_mul]; omega
    rw [this]
    exact flat_get r (fun e he => hl e (by simp [he])) i e j c (by simpa using h) hc

theorem flat_len {sz : Nat} : ∀ (els : List (List D)), (∀ e ∈ els, e.length = sz) → els.flatten.length = els.length * sz
  | [], _ => by simp
  | x :: r, hl => by
    rw [List.flatten_cons, List.length_append, flat_len r (fun e he => hl e (by simp [he])), hl x (by simp), List.length_cons, Nat.add_mul]; omega

theorem own_cells {w : World} {base : Nat} {t : TypeId} {sz : Nat} {v : Value} {n : Nat} {xs : List Value} (h : w.ownsRow base t sz v n xs) (hn : 0 < n) :
    ∃ g cap, v = .slice (some ⟨g, 0, none⟩) n cap ∧ base ≤ g ∧ n ≤ cap ∧ cap ≤ maxLen ∧ ∀ (j : Nat) (u : Value), xs[j]? = some u → w.cell? ⟨g, j, none⟩ = some u := by
  obtain ⟨hl, ⟨rfl, rfl⟩ | ⟨g, cap, cur, rfl, hg, hh, hc, hm, hs, ht⟩⟩ := h
  · omega
  · refine ⟨g, cap, rfl, hg, hc, hm, fun j u hj => ?_⟩
    have hjl := getElem?_lt hj
    have : cur[j]? = some u := by
      rw [← ht, List.getElem?_take] at hj
      split at hj
      · simpa using hj
      · cases hj
    simp [World.cell?, hh, this]

theorem own_form {w : World} {base : Nat} {t : TypeId} {sz : Nat} {v : Value} {n : Nat} {xs : List Value} (h : w.ownsRow base t sz v n xs) :
    ∃ A cap, v = .slice A n cap ∧ n ≤ cap ∧ cap ≤ maxLen := by
  obtain ⟨hl, ⟨rfl, rfl⟩ | ⟨g, cap, cur, rfl, hg, hh, hc, hm, hs, ht⟩⟩ := h
  · exact ⟨none, 0, rfl, Nat.le_refl _, Nat.zero_le _⟩
  · exact ⟨_, cap, rfl, hc, hm⟩

/-- A row of the call's own, read: cell by cell. -/
theorem row_at {cx : Cx} {G : Gh} {h : List LB} {w : World} (s : SatH cx G h w) {i : Nat} {t : TypeId} {sz : Nat} {els : List (List D)} {ver : Nat} (hi : h[i]? = some (.row t sz els ver)) :
    ∃ v xs, G.g[i]? = some (v, ver) ∧ w.ownsRow cx.w0.heap.size t sz v els.length xs ∧ (∀ b, v.ownBlock = some b → G.V.H b = none) ∧ All2 (Dr G.V) els.flatten xs ∧ ∀ x ∈ els, x.length = sz := by
  have hlt : i < G.g.length := by rw [s.len]; exact getElem?_lt hi
  obtain ⟨⟨v, n⟩, he⟩ : ∃ e, G.g[i]? = some e := ⟨_, List.getElem?_eq_getElem hlt⟩
  obtain ⟨h1, xs, h2, h3, h4, h5⟩ := s.ent i _ _ hi he
  simp only at h1 h2 h3
  subst h1
  exact ⟨v, xs, he, h2, h3, h4, h5⟩

theorem dr_lst {V : Vw} {sz : Nat} {els : List (List D)} {v : Value} (h : Dr V (.lst sz els) v) :
    ∃ (A : Option Addr) (cap : Nat) (u : Nat → Nat → Value), v = .slice A els.length cap ∧ els.length ≤ cap ∧ cap ≤ maxLen ∧ (∀ e ∈ els, e.length = sz) ∧
      (els ≠ [] → ∃ ad, A = some ad ∧ V.I ad.block ∧ ∀ i e j c, els[i]? = some e → e[j]? = some c → cellIn V.H (ad.add (i * sz + j)) = some (u i j)) ∧
      ∀ i e j c, els[i]? = some e → e[j]? = some c → Dr V c (u i j) := by
  generalize e : D.lst sz els = x at h
  cases h with
  | lst sz' els' A cap u hc hm he ha hu =>
    injection e with e1 e2
    subst e1 e2
    exact ⟨A, cap, u, rfl, hc, hm, he, ha, hu⟩
  | _ => cases e

theorem slAt_of {cx : Cx} {G : Gh} {h : List LB} {w : World} (s : SatH cx G h w) {α : AV} {v : Value} {sz : Nat} {els : List (List D)} (hα : elsOf h α = some (sz, els)) (hv : Ar G α v) : SlAt G.V w sz els v := by
  unfold elsOf at hα
  split at hα
  · -- lst
    simp only [Option.some.injEq, Prod.mk.injEq] at hα
    obtain ⟨rfl, rfl⟩ := hα
    obtain ⟨A, cap, u, rfl, hc, hm, he, ha, hu⟩ := dr_lst hv
    refine ⟨A, cap, u, rfl, hc, hm, he, fun hn => ?_, hu⟩
    obtain ⟨ad, e, _, hcell⟩ := ha hn
    exact ⟨ad, e, fun i e j c h1 h2 => cell_of_view s.view (hcell i e j c h1 h2)⟩
  · -- bor
    simp only [Option.some.injEq, Prod.mk.injEq] at hα
    obtain ⟨rfl, rfl⟩ := hα
    obtain ⟨A, cap, u, rfl, hc, hm, he, ha, hu⟩ := hv
    refine ⟨A, cap, u, rfl, hc, hm, he, fun hn => ?_, hu⟩
    obtain ⟨ad, e, hcell⟩ := ha hn
    exact ⟨ad, e, fun i e j c h1 h2 => cell_of_view s.view (hcell i e j c h1 h2)⟩
  · -- own
    next i ver =>
    split at hα
    · next t sz' els' v' hi =>
      split at hα
      · next hver =>
        subst hver
        simp only [Option.some.injEq, Prod.mk.injEq] at hα
        obtain ⟨rfl, rfl⟩ := hα
        obtain ⟨v0, xs, hg, how, _, hd, hl⟩ := row_at s hi
        obtain ⟨_, v0', n', hg', _, hx⟩ := hv
        rw [hg] at hg'
        cases hg'
        have := hx rfl
        subst this
        obtain ⟨A, cap, hvv, hc, hm⟩ := own_form how
        refine ⟨A, cap, fun i j => xs.getD (i * sz' + j) undef, hvv, hc, hm, hl, fun hn => ?_, ?_⟩
        · have hpos : 0 < els'.length := List.length_pos_iff.2 hn
          obtain ⟨g, cap', hv', hb, _, _, hcell⟩ := own_cells how hpos
          rw [hvv] at hv'
          injection hv' with hA _ _
          refine ⟨⟨g, 0, none⟩, hA, fun i e j c h1 h2 => ?_⟩
          obtain ⟨b, hb1, hb2⟩ := hd.get _ _ (flat_get els' hl i e j c h1 h2)
          rw [add_plain, Nat.zero_add, hcell _ b hb1]
          simp [List.getD, hb1]
        · intro i e j c h1 h2
          obtain ⟨b, hb1, hb2⟩ := hd.get _ _ (flat_get els' hl i e j c h1 h2)
          simpa [List.getD, hb1] using hb2
      · cases hα
    · cases hα
  · -- sub
    next i ver sz0 lo n =>
    split at hα
    · next t sz' els' v' hi =>
      split at hα
      · next hver =>
        obtain ⟨hver, hsz, hle⟩ := hver
        subst hver
        subst hsz
        simp only [Option.some.injEq, Prod.mk.injEq] at hα
        obtain ⟨rfl, rfl⟩ := hα
        obtain ⟨v0, xs, hg, how, _, hd, hl⟩ := row_at s hi
        obtain ⟨_, v0', n', hg', _, hx⟩ := hv
        rw [hg] at hg'
        cases hg'
        obtain ⟨A, cap, rfl, hc, hm, hA⟩ := hx rfl
        have hlen : ((els'.drop lo).take n).length = n := by rw [List.length_take, List.length_drop]; omega
        have hget : ∀ (i : Nat) (e : List D), ((els'.drop lo).take n)[i]? = some e → els'[lo + i]? = some e := fun i e he => by
          rw [List.getElem?_take] at he
          split at he
          · rwa [List.getElem?_drop] at he
          · cases he
        refine ⟨A, cap, fun i j => xs.getD ((lo + i) * sz' + j) undef, by rw [hlen], by rw [hlen]; exact hc, hm, fun e he => hl e (List.mem_of_mem_drop (List.mem_of_mem_take he)), fun hn => ?_, ?_⟩
        · have hpos : 0 < n := by have := List.length_pos_iff.2 hn; omega
          obtain ⟨b, len0, cap0, rfl, rfl⟩ := hA hpos
          obtain ⟨g, cap', hv', hb, _, _, hcell⟩ := own_cells how (by omega)
          injection hv' with hv' _ _
          injection hv' with hv'
          injection hv' with hv' _ _
          subst hv'
          refine ⟨_, rfl, fun i e j c h1 h2 => ?_⟩
          obtain ⟨u, hb1, hb2⟩ := hd.get _ _ (flat_get els' hl _ e j c (hget i e h1) h2)
          rw [add_plain, show lo * sz' + (i * sz' + j) = (lo + i) * sz' + j from by rw [Nat.add_mul]; omega, hcell _ u hb1]
          simp [List.getD, hb1]
        · intro i e j c h1 h2
          obtain ⟨b, hb1, hb2⟩ := hd.get _ _ (flat_get els' hl _ e j c (hget i e h1) h2)
          simpa [List.getD, hb1] using hb2
      · cases hα
    · cases hα
  · cases hα
end Go.Ax

/-
  The operations that leave memory alone: moves, numbers, strings, tests, lengths, indices, fields, loads. No condition.
-/
namespace Go.Ax
open Go Go.RowKit

variable {P : Program} {h : List LB} {ρ : Operand → AV} {dst : Option Tmp} {ty : TypeId} {p : String} {af : Array Edge} {gd : Option (Nat × Bool)}

theorem s_move (x : Operand) : Still P h ⟨dst, .move x, ty, p, af, gd⟩ ρ (ρ x) :=
  fun _ _ _ a _ ho => ⟨a.eval x, rfl, ho x (by simp [Op.operands])⟩
theorem s_assign (x : Operand) : Still P h ⟨dst, .assign x, ty, p, af, gd⟩ ρ (ρ x) :=
  fun _ _ _ a _ ho => ⟨a.eval x, rfl, ho x (by simp [Op.operands])⟩

theorem s_pick (c x y : Operand) {b u v : Bool} (hc : ρ c = .c (.d (.bool b))) (hx : ρ x = .c (.d (.bool u))) (hy : ρ y = .c (.d (.bool v))) :
    Still P h ⟨dst, .pick c x y, ty, p, af, gd⟩ ρ (.c (.d (.bool (bif b then u else v)))) := by
  intro cx G w a s ho
  have h1 := ar_bool (hc ▸ ho c (by simp [Op.operands]))
  have h2 := ar_bool (hx ▸ ho x (by simp [Op.operands]))
  have h3 := ar_bool (hy ▸ ho y (by simp [Op.operands]))
  refine ⟨.bool (bif b then u else v), ?_, Dr.bool _⟩
  simp only [execOp, h1, h2, h3, asBool]
  cases b <;> rfl
/-- a && b, where b has been reckoned only if a holds -/
theorem s_pick_t (c x y : Operand) (hc : ρ c = .c (.d (.bool true))) : Still P h ⟨dst, .pick c x y, ty, p, af, gd⟩ ρ (ρ x) := by
  intro cx G w a s ho
  have h1 := ar_bool (hc ▸ ho c (by simp [Op.operands]))
  exact ⟨a.eval x, by simp only [execOp, h1, asBool]; rfl, ho x (by simp [Op.operands])⟩
theorem s_pick_f (c x y : Operand) (hc : ρ c = .c (.d (.bool false))) : Still P h ⟨dst, .pick c x y, ty, p, af, gd⟩ ρ (ρ y) := by
  intro cx G w a s ho
  have h1 := ar_bool (hc ▸ ho c (by simp [Op.operands]))
  exact ⟨a.eval y, by simp only [execOp, h1, asBool]; rfl, ho y (by simp [Op.operands])⟩

/-! ### numbers -/
def icmp : BinOp → Int → Int → Option Bool
  | .eql, m, n => some (decide (m = n))
  | .neq, m, n => some (decide (m ≠ n))
  | .lss, m, n => some (decide (m < n))
  | .leq, m, n => some (decide (m ≤ n))
  | .gtr, m, n => some (decide (n < m))
  | .geq, m, n => some (decide (n ≤ m))
  | _, _, _ => none

theorem s_icmp (op : BinOp) (t t' : TypeId) (x y : Operand) {k : IntKind} {m n : Int} {b : Bool} (hx : ρ x = .c (.d (.int k m))) (hy : ρ y = .c (.d (.int k n))) (hb : icmp op m n = some b) :
    Still P h ⟨dst, .binOp op t x y t', ty, p, af, gd⟩ ρ (.c (.d (.bool b))) := by
  intro cx G w a s ho
  have h1 := ar_int (hx ▸ ho x (by simp [Op.operands]))
  have h2 := ar_int (hy ▸ ho y (by simp [Op.operands]))
  refine ⟨.bool b, ?_, Dr.bool _⟩
  have e : (m == n) = decide (m = n) := by rw [Bool.eq_iff_iff]; simp
  cases op <;> simp only [icmp, Option.some.injEq, reduceCtorEq] at hb <;> subst hb <;>
    simp [execOp, h1, h2, eqGuard, binOp, Op.intCmp, bne, e]

def iar : BinOp → Int → Int → Option Int
  | .add, m, n => some (m + n)
  | .sub, m, n => some (m - n)
  | .mul, m, n => some (m * n)
  | _, _, _ => none

theorem s_iar (op : BinOp) (t t' : TypeId) (x y : Operand) {k : IntKind} {m n z : Int} (hx : ρ x = .c (.d (.int k m))) (hy : ρ y = .c (.d (.int k n))) (hb : iar op m n = some z) (hw : k.wrap z = z) :
    Still P h ⟨dst, .binOp op t x y t', ty, p, af, gd⟩ ρ (.c (.d (.int k z))) := by
  intro cx G w a s ho
  have h1 := ar_int (hx ▸ ho x (by simp [Op.operands]))
  have h2 := ar_int (hy ▸ ho y (by simp [Op.operands]))
  refine ⟨.int k z, ?_, Dr.int _ _⟩
  cases op <;> simp only [iar, Option.some.injEq, reduceCtorEq] at hb <;> subst hb <;>
    simp [execOp, h1, h2, eqGuard, binOp, Op.intArith, hw]

theorem s_quo (t t' : TypeId) (x y : Operand) {m n : Int} (hx : ρ x = .c (.d (.int .i64 m))) (hy : ρ y = .c (.d (.int .i64 n))) (h0 : 0 ≤ m) (h1 : m ≤ 9223372036854775807) (h2 : 0 < n) :
    Still P h ⟨dst, .binOp .quo t x y t', ty, p, af, gd⟩ ρ (.c (.d (.int .i64 (m / n)))) := by
  intro cx G w a s ho
  have e1 := ar_int (hx ▸ ho x (by simp [Op.operands]))
  have e2 := ar_int (hy ▸ ho y (by simp [Op.operands]))
  refine ⟨.int .i64 (m / n), ?_, Dr.int _ _⟩
  have hq := IntWalk.i64_quo m n ⟨h0, h1, h2⟩
  have hn : n ≠ 0 := by omega
  simp [execOp, e1, e2, eqGuard, binOp, Op.intDiv, hn, hq]
theorem s_rem (t t' : TypeId) (x y : Operand) {k : IntKind} {m n : Int} (hx : ρ x = .c (.d (.int k m))) (hy : ρ y = .c (.d (.int k n))) (h0 : 0 ≤ m) (h2 : 0 < n) :
    Still P h ⟨dst, .binOp .rem t x y t', ty, p, af, gd⟩ ρ (.c (.d (.int k (m % n)))) := by
  intro cx G w a s ho
  have e1 := ar_int (hx ▸ ho x (by simp [Op.operands]))
  have e2 := ar_int (hy ▸ ho y (by simp [Op.operands]))
  refine ⟨.int k (m % n), ?_, Dr.int _ _⟩
  have hq := IntWalk.rem_in m n h0
  have hn : n ≠ 0 := by omega
  simp [execOp, e1, e2, eqGuard, binOp, Op.intDiv, hn, hq]

theorem s_neg (t : TypeId) (x : Operand) {k : IntKind} {m : Int} (hx : ρ x = .c (.d (.int k m))) (hw : k.wrap (0 - m) = -m) : Still P h ⟨dst, .unOp .neg t x, ty, p, af, gd⟩ ρ (.c (.d (.int k (-m)))) := by
  intro cx G w a s ho
  have h1 := ar_int (hx ▸ ho x (by simp [Op.operands]))
  refine ⟨.int k (-m), ?_, Dr.int _ _⟩
  simp only [execOp, h1, Op.unary, Op.intArith, hw]; rfl
theorem s_not (t : TypeId) (x : Operand) {b : Bool} (hx : ρ x = .c (.d (.bool b))) : Still P h ⟨dst, .unOp .not t x, ty, p, af, gd⟩ ρ (.c (.d (.bool (!b)))) := by
  intro cx G w a s ho
  have h1 := ar_bool (hx ▸ ho x (by simp [Op.operands]))
  exact ⟨.bool (!b), by simp only [execOp, h1, Op.unary]; rfl, Dr.bool _⟩

theorem s_conv (src d' : TypeId) (x : Operand) {k k' : IntKind} {m z : Int} (hx : ρ x = .c (.d (.int k m))) (hs : ∃ q, P.underlying src = some q) (hd : P.underlying d' = some (.int k')) (hw : k'.wrap m = z) :
    Still P h ⟨dst, .convert src d' x, ty, p, af, gd⟩ ρ (.c (.d (.int k' z))) := by
  intro cx G w a s ho
  have h1 := ar_int (hx ▸ ho x (by simp [Op.operands]))
  obtain ⟨q, hq⟩ := hs
  refine ⟨.int k' z, ?_, Dr.int _ _⟩
  simp [execOp, h1, convert, run_underlying hq, run_underlying hd, Conv.intToInt, hw]

def imin (m n : Int) : Int := if n < m then n else m
def imax (m n : Int) : Int := if m < n then n else m
theorem s_min (x y : Operand) (ts : Array TypeId) {k : IntKind} {m n : Int} (hx : ρ x = .c (.d (.int k m))) (hy : ρ y = .c (.d (.int k n))) :
    Still P h ⟨dst, .call { callee := .builtin .min, args := #[x, y], argTypes := ts }, ty, p, af, gd⟩ ρ (.c (.d (.int k (imin m n)))) := by
  intro cx G w a s ho
  have h1 := ar_int (hx ▸ ho x (by simp [Op.operands, Call.operands]))
  have h2 := ar_int (hy ▸ ho y (by simp [Op.operands, Call.operands]))
  refine ⟨.int k (imin m n), ?_, Dr.int _ _⟩
  simp [execOp, resolve, invoke, builtin, Builtin.min_, Builtin.min2, h1, h2, imin]
theorem s_max (x y : Operand) (ts : Array TypeId) {k : IntKind} {m n : Int} (hx : ρ x = .c (.d (.int k m))) (hy : ρ y = .c (.d (.int k n))) :
    Still P h ⟨dst, .call { callee := .builtin .max, args := #[x, y], argTypes := ts }, ty, p, af, gd⟩ ρ (.c (.d (.int k (imax m n)))) := by
  intro cx G w a s ho
  have h1 := ar_int (hx ▸ ho x (by simp [Op.operands, Call.operands]))
  have h2 := ar_int (hy ▸ ho y (by simp [Op.operands, Call.operands]))
  refine ⟨.int k (imax m n), ?_, Dr.int _ _⟩
  simp [execOp, resolve, invoke, builtin, Builtin.max_, Builtin.max2, h1, h2, imax]

/-! ### strings and bools -/
def scmp : BinOp → List UInt8 → List UInt8 → Option Bool
  | .eql, m, n => some (decide (m = n))
  | .neq, m, n => some (decide (m ≠ n))
  | .lss, m, n => some (Op.bytesLess m n)
  | .leq, m, n => some (Op.bytesLess m n || decide (m = n))
  | .gtr, m, n => some (!(Op.bytesLess m n || decide (m = n)))
  | .geq, m, n => some (!Op.bytesLess m n)
  | _, _, _ => none

theorem s_scmp (op : BinOp) (t t' : TypeId) (x y : Operand) {m n : List UInt8} {b : Bool} (hx : ρ x = .c (.d (.str m))) (hy : ρ y = .c (.d (.str n))) (hb : scmp op m n = some b) :
    Still P h ⟨dst, .binOp op t x y t', ty, p, af, gd⟩ ρ (.c (.d (.bool b))) := by
  intro cx G w a s ho
  have h1 := ar_str (hx ▸ ho x (by simp [Op.operands]))
  have h2 := ar_str (hy ▸ ho y (by simp [Op.operands]))
  refine ⟨.bool b, ?_, Dr.bool _⟩
  have e : (m == n) = decide (m = n) := by rw [Bool.eq_iff_iff]; simp
  cases op <;> simp only [scmp, Option.some.injEq, reduceCtorEq] at hb <;> subst hb <;>
    simp [execOp, h1, h2, eqGuard, binOp, Op.stringOp, ByteArray.toList_mk, e]

theorem s_sadd (t t' : TypeId) (x y : Operand) {m n : List UInt8} (hx : ρ x = .c (.d (.str m))) (hy : ρ y = .c (.d (.str n))) (hl : m.length + n.length ≤ 9223372036854775807) :
    Still P h ⟨dst, .binOp .add t x y t', ty, p, af, gd⟩ ρ (.c (.d (.str (m ++ n)))) := by
  intro cx G w a s ho
  have h1 := ar_str (hx ▸ ho x (by simp [Op.operands]))
  have h2 := ar_str (hy ▸ ho y (by simp [Op.operands]))
  refine ⟨.string ⟨(m ++ n).toArray⟩, ?_, Dr.str _⟩
  have hs : ∀ l : List UInt8, (⟨l.toArray⟩ : ByteArray).size = l.length := fun l => by simp [ByteArray.size]
  have hm : IntKind.i64.max = 9223372036854775807 := by decide
  have happ : (⟨m.toArray⟩ : ByteArray) ++ ⟨n.toArray⟩ = ⟨(m ++ n).toArray⟩ := by
    apply ByteArray.ext
    simp [ByteArray.data_append]
  have hc : ¬ (((m.length + n.length : Nat) : Int) > 9223372036854775807) := by omega
  simp only [execOp, h1, h2, eqGuard, binOp, Op.stringOp, hs, hm, happ, if_neg hc]
  rfl

def beqb : BinOp → Bool → Bool → Option Bool
  | .eql, m, n => some (m == n)
  | .neq, m, n => some (m != n)
  | _, _, _ => none
theorem s_bcmp (op : BinOp) (t t' : TypeId) (x y : Operand) {m n b : Bool} (ht : P.underlying t = some .bool) (hx : ρ x = .c (.d (.bool m))) (hy : ρ y = .c (.d (.bool n))) (hb : beqb op m n = some b) :
    Still P h ⟨dst, .binOp op t x y t', ty, p, af, gd⟩ ρ (.c (.d (.bool b))) := by
  intro cx G w a s ho
  have h1 := ar_bool (hx ▸ ho x (by simp [Op.operands]))
  have h2 := ar_bool (hy ▸ ho y (by simp [Op.operands]))
  refine ⟨.bool b, ?_, Dr.bool _⟩
  have he : (Op.equalIn 10000 t (.bool m) (.bool n)).run P w = .ok (m == n) w := run_equalIn_bool' w 9999 t m n ht
  cases op <;> simp only [beqb, Option.some.injEq, reduceCtorEq] at hb <;> subst hb <;>
    simp [execOp, h1, h2, eqGuard, binOp, Op.equal, Op.maxDepth, he, bne]

/-! ### structs of one-cell fields, compared -/
def eqD : D → D → Option Bool
  | .int k a, .int k' b => if k = k' then some (decide (a = b)) else none
  | .bool a, .bool b => some (a == b)
  | .str a, .str b => some (decide (a = b))
  | _, _ => none
def eqDs : List D → List D → Option Bool
  | [], [] => some true
  | x :: xs, y :: ys => match eqD x y, eqDs xs ys with
    | some a, some b => some (a && b)
    | _, _ => none
  | _, _ => none

def tagT (P : Program) (t : TypeId) : Nat :=
  match P.underlying t with
  | some (.int _) => 0
  | some .bool => 1
  | some .string => 2
  | _ => 3
def tagD : D → Nat
  | .int _ _ => 0
  | .bool _ => 1
  | .str _ => 2
  | _ => 4

/-- Fields i, i+1, .. of one cell each, comparable by value, none of them blank: their kinds. -/
def flatFields (P : Program) : List Field → Nat → List Nat → Bool
  | [], _, [] => true
  | f :: r, i, g :: gs => f.offset == i && f.name != "_" && tagT P f.type == g && flatFields P r (i + 1) gs
  | _, _, _ => false

structure EqT (P : Program) (t : TypeId) (tags : List Nat) : Prop where
  ht : P.underlying t = some (.struct (P.fieldsOf t))
  hp : P.stoodInHeld t = false
  hg : P.eqGuardType P.depth t = false
  hf : flatFields P (P.fieldsOf t).toList 0 tags = true

def aggQ : TypeDesc → Bool
  | .struct _ | .array _ _ => true
  | _ => false

theorem run_part1 {t : TypeId} {q : TypeDesc} (ht : P.underlying t = some q) (hq : aggQ q = false) (cs : Array Value) (off : Nat) (v : Value) (hv : cs[off]? = some v) (w : World) : (part t cs off).run P w = .ok v w := by
  cases q <;> simp_all [part, isAgg, run_underlying ht, aggQ]

theorem tagT_form {t : TypeId} {g : Nat} (h : tagT P t = g) (hg : g < 3) : ∃ q, P.underlying t = some q ∧ aggQ q = false ∧
    ((g = 0 ∧ ∃ k, q = .int k) ∨ (g = 1 ∧ q = .bool) ∨ (g = 2 ∧ q = .string)) := by
  unfold tagT at h
  split at h
  · next k e => exact ⟨_, e, rfl, .inl ⟨h.symm, k, rfl⟩⟩
  · next e => exact ⟨_, e, rfl, .inr (.inl ⟨h.symm, rfl⟩)⟩
  · next e => exact ⟨_, e, rfl, .inr (.inr ⟨h.symm, rfl⟩)⟩
  · omega

theorem run_equalCell {V : Vw} {t : TypeId} {x y : D} {b : Bool} {u v : Value} (hx : Dr V x u) (hy : Dr V y v) (hb : eqD x y = some b) (ht : tagT P t = tagD x) (d : Nat) (w : World) : (Op.equalIn (d + 1) t u v).run P w = .ok b w := by
  cases hx <;> cases hy <;> simp only [eqD, reduceCtorEq] at hb
  · next k a k' a' =>
    split at hb
    · next hkk =>
      subst hkk
      cases hb
      obtain ⟨q, e, _, ⟨_, k', rfl⟩ | ⟨h, _⟩ | ⟨h, _⟩⟩ := tagT_form ht (by simp [tagD])
      · rw [run_equalIn_int w d t _ _ a a' e]; congr 1
      · simp [tagD] at h
      · simp [tagD] at h
    · cases hb
  · next a a' =>
    cases hb
    obtain ⟨q, e, _, ⟨h, _⟩ | ⟨_, rfl⟩ | ⟨h, _⟩⟩ := tagT_form ht (by simp [tagD])
    · simp [tagD] at h
    · rw [run_equalIn_bool' w d t a a' e]
    · simp [tagD] at h
  · next a a' =>
    cases hb
    obtain ⟨q, e, _, ⟨h, _⟩ | ⟨h, _⟩ | ⟨_, rfl⟩⟩ := tagT_form ht (by simp [tagD])
    · simp [tagD] at h
    · simp [tagD] at h
    · rw [run_equalIn_string w d t _ _ e]; simp only [ByteArray.toList_mk]; congr 1; rw [Bool.eq_iff_iff]; simp

theorem run_eqFields {V : Vw} {d : Nat} : ∀ (fs : List Field) (tags : List Nat) (xs ys : List D) (us vs : List Value) (i : Nat) (U W : Array Value) (b : Bool) (w : World),
    flatFields P fs i tags = true → xs.map tagD = tags → All2 (Dr V) xs us → All2 (Dr V) ys vs → eqDs xs ys = some b →
    (∀ j u, us[j]? = some u → U[i + j]? = some u) → (∀ j u, vs[j]? = some u → W[i + j]? = some u) →
    (Op.eqFields (d + 1) U W fs).run P w = .ok b w
  | [], tags, xs, ys, us, vs, i, U, W, b, w, hf, ht, hx, hy, hb, hU, hW => by
    cases tags with
    | nil =>
      cases hx with
      | nil => cases hy with
        | nil => simp only [eqDs, Option.some.injEq] at hb; subst hb; rfl
        | cons h t => simp [eqDs] at hb
      | cons h t => simp at ht
    | cons g gs => simp [flatFields] at hf
  | f :: fs, tags, xs, ys, us, vs, i, U, W, b, w, hf, ht, hx, hy, hb, hU, hW => by
    cases tags with
    | nil => simp [flatFields] at hf
    | cons g gs =>
      cases hx with
      | nil => simp at ht
      | @cons x u xs us hxu hxs =>
        cases hy with
        | nil => simp [eqDs] at hb
        | @cons y v ys vs hyv hys =>
          simp only [List.map_cons, List.cons.injEq] at ht
          obtain ⟨hg, hgs⟩ := ht
          simp only [flatFields, Bool.and_eq_true, beq_iff_eq, bne_iff_ne] at hf
          obtain ⟨⟨⟨ho, hn⟩, htt⟩, hrest⟩ := hf
          simp only [eqDs] at hb
          split at hb
          · next b1 b2 e1 e2 =>
            cases hb
            have htg : tagT P f.type = tagD x := by rw [htt, hg]
            have hlt : g < 3 := by
              subst hg
              cases x <;> cases y <;> simp [eqD] at e1 <;> simp [tagD]
            obtain ⟨q, hq, hqa, _⟩ := tagT_form htt hlt
            have p1 := run_part1 (P := P) hq hqa U f.offset u (by rw [ho]; exact hU 0 u rfl) w
            have p2 := run_part1 (P := P) hq hqa W f.offset v (by rw [ho]; exact hW 0 v rfl) w
            have p3 := run_equalCell (P := P) hxu hyv e1 htg d w
            have ih := run_eqFields (d := d) fs gs xs ys us vs (i + 1) U W b2 w hrest hgs hxs hys e2 (fun j u hu => by have := hU (j + 1) u (by simpa using hu); rwa [show i + 1 + j = i + (j + 1) from by omega])
              (fun j u hu => by have := hW (j + 1) u (by simpa using hu); rwa [show i + 1 + j = i + (j + 1) from by omega])
            simp only [Op.eqFields, hn, ne_eq, not_false_eq_true, if_true, Sem.run_bind, p1, p2, p3, Result.andThen_ok]
            cases b1
            · simp
            · simp [ih]
          · cases hb

theorem all2_dr {G : Gh} {xs : List D} {vs : List Value} (hh : All2 (Cr G) (xs.map C.d) vs) : All2 (Dr G.V) xs vs := (All2.of_map_left hh).imp fun _ _ h => h

def beqs : BinOp → Bool → Option Bool
  | .eql, b => some b
  | .neq, b => some (!b)
  | _, _ => none
theorem s_struct (op : BinOp) (t t' : TypeId) (x y : Operand) {tags : List Nat} {xs ys : List D} {b b' : Bool} (hT : EqT P t tags) (hx : ρ x = .agg (xs.map C.d)) (hy : ρ y = .agg (ys.map C.d)) (ht : xs.map tagD = tags) (hb : eqDs xs ys = some b) (hb' : beqs op b = some b') :
    Still P h ⟨dst, .binOp op t x y t', ty, p, af, gd⟩ ρ (.c (.d (.bool b'))) := by
  intro cx G w a s ho
  obtain ⟨us, e1, h1⟩ := (hx ▸ ho x (by simp [Op.operands]) : Ar G (.agg (xs.map C.d)) (a.eval x))
  obtain ⟨vs, e2, h2⟩ := (hy ▸ ho y (by simp [Op.operands]) : Ar G (.agg (ys.map C.d)) (a.eval y))
  refine ⟨.bool b', ?_, Dr.bool _⟩
  have he := run_eqFields (P := P) (d := 9998) _ tags xs ys us vs 0 us.toArray vs.toArray b w hT.hf ht (all2_dr h1) (all2_dr h2) hb (fun j u hu => by simpa using hu) (fun j u hu => by simpa using hu)
  have he' := run_equalIn_struct (P := P) w 9999 t us.toArray vs.toArray hT.ht hT.hp
  cases op <;> simp only [beqs, Option.some.injEq, reduceCtorEq] at hb' <;> subst hb' <;>
    simp [execOp, e1, e2, run_eqGuard_agg w _ t x y us.toArray vs.toArray hT.hg, run_eql_struct w t us.toArray vs.toArray, run_neq_struct w t us.toArray vs.toArray, he', he]
end Go.Ax

/-
  The operations that read memory or make addresses: lengths, indices, fields, loads, slices. No condition.
-/
namespace Go.Ax
open Go Go.RowKit

variable {P : Program} {h : List LB} {ρ : Operand → AV} {dst : Option Tmp} {ty : TypeId} {p : String} {af : Array Edge} {gd : Option (Nat × Bool)}

/-- A slice type: its element type and how many cells an element has. -/
def slT (P : Program) (t : TypeId) : Option (TypeId × Nat) :=
  match P.underlying t with
  | some (.slice e) => ((P.info? e).map (·.size)).map fun n => (e, n)
  | _ => none
def arT (P : Program) (t : TypeId) : Option (Nat × TypeId × Nat) :=
  match P.underlying t with
  | some (.array n e) => ((P.info? e).map (·.size)).map fun s => (n, e, s)
  | _ => none
/-- How a variable of a type is loaded: one cell, or so many of them. -/
def ldT (P : Program) (t : TypeId) : Option (Option Nat) :=
  match P.underlying t with
  | some (.struct _) | some (.array _ _) => ((P.info? t).map (·.size)).map some
  | some _ => some none
  | none => none
/-- A field's offset, where the field is not empty. -/
def fdT (P : Program) (t : TypeId) (k : Nat) : Option Nat :=
  match P.underlying t with
  | some (.struct fs) => match fs[k]? with
    | some f => match (P.info? f.type).map (·.size) with
      | some n => if n = 0 then none else some f.offset
      | none => none
    | none => none
  | _ => none

theorem slT_some {t e : TypeId} {n : Nat} (hh : slT P t = some (e, n)) : P.underlying t = some (.slice e) ∧ (P.info? e).map (·.size) = some n := by
  unfold slT at hh
  split at hh
  · next e' he =>
    cases hi : P.info? e' with
    | none => simp [hi] at hh
    | some i => simp [hi] at hh; obtain ⟨rfl, rfl⟩ := hh; exact ⟨he, by simp [hi]⟩
  · cases hh
theorem arT_some {t e : TypeId} {m n : Nat} (hh : arT P t = some (m, e, n)) : P.underlying t = some (.array m e) ∧ (P.info? e).map (·.size) = some n := by
  unfold arT at hh
  split at hh
  · next m' e' he =>
    cases hi : P.info? e' with
    | none => simp [hi] at hh
    | some i => simp [hi] at hh; obtain ⟨rfl, rfl, rfl⟩ := hh; exact ⟨he, by simp [hi]⟩
  · cases hh

theorem run_sizeOf' {t : TypeId} {n : Nat} (hh : (P.info? t).map (·.size) = some n) (w : World) : (sizeOf t).run P w = .ok n w := by
  cases hi : P.info? t with
  | none => simp [hi] at hh
  | some i => simp [hi] at hh; simp [sizeOf, typeInfo, hi, hh]

/-- The cells that may be read from an address on. -/
def cellsAt (h : List LB) : AV → Option (List C)
  | .c (.ptr cs) => some (cs.map C.d)
  | .c (.loc i off) => match h[i]? with
    | some (.box _ cs) => some (cs.drop off)
    | _ => none
  | _ => none

structure PtAt (G : Gh) (w : World) (cs : List C) (v : Value) : Prop where
  form : ∃ (ad : Addr) (vs : List Value), v = .pointer (some ad) ∧ All2 (Cr G) cs vs ∧ ∀ j u, vs[j]? = some u → w.cell? (ad.add j) = some u

theorem all2_fn {G : Gh} {cs : List D} (u : Nat → Value) (hc : ∀ j c, cs[j]? = some c → Dr G.V c (u j)) : All2 (Cr G) (cs.map C.d) ((List.range cs.length).map u) :=
  All2.of_get (by simp) fun i a b h1 h2 => by
    rw [List.getElem?_map] at h1
    cases e : cs[i]? with
    | none => simp [e] at h1
    | some c =>
      simp [e] at h1
      subst h1
      have hi := getElem?_lt e
      simp [List.getElem?_map, List.getElem?_range hi] at h2
      subst h2
      exact hc i c e

theorem box_at {cx : Cx} {G : Gh} {h : List LB} {w : World} (s : SatH cx G h w) {i : Nat} {t : TypeId} {cs : List C} (hi : h[i]? = some (.box t cs)) :
    ∃ b vs, G.g[i]? = some (.pointer (some ⟨b, 0, none⟩), 0) ∧ cx.w0.heap.size ≤ b ∧ G.V.H b = none ∧ w.heap[b]? = some (.cells vs.toArray t (0, 0)) ∧ All2 (Cr G) cs vs := by
  have hlt : i < G.g.length := by rw [s.len]; exact getElem?_lt hi
  obtain ⟨⟨v, n⟩, he⟩ : ∃ e, G.g[i]? = some e := ⟨_, List.getElem?_eq_getElem hlt⟩
  obtain ⟨h1, b, vs, h2, h3, h4, h5, h6⟩ := s.ent i _ _ hi he
  simp only at h1 h2
  subst h1 h2
  exact ⟨b, vs, he, h3, h4, h5, h6⟩

theorem ptAt_of {cx : Cx} {G : Gh} {w : World} (s : SatH cx G h w) {α : AV} {v : Value} {cs : List C} (hα : cellsAt h α = some cs) (hv : Ar G α v) : PtAt G w cs v := by
  unfold cellsAt at hα
  split at hα
  · next ds =>
    cases hα
    obtain ⟨ad, u, rfl, hc⟩ := hv
    refine ⟨ad, _, rfl, all2_fn u (fun j c hj => (hc j c hj).2), fun j x hx => ?_⟩
    have hj : j < ds.length := by have := getElem?_lt hx; simpa using this
    simp [List.getElem?_map, List.getElem?_range hj] at hx
    subst hx
    exact cell_of_view s.view (hc j _ (List.getElem?_eq_getElem hj)).1
  · next i off =>
    split at hα
    · next t cs' hi =>
      cases hα
      obtain ⟨b, n, hg, rfl⟩ := hv
      obtain ⟨b', vs, hg', _, _, hb, hc⟩ := box_at s hi
      rw [hg] at hg'
      cases hg'
      refine ⟨_, _, rfl, hc.drop off, fun j u hu => ?_⟩
      rw [List.getElem?_drop] at hu
      rw [add_plain]
      simp [World.cell?, hb, hu]
    · cases hα
  · cases hα

theorem run_loadAt1 {t : TypeId} (hl : ldT P t = some none) {w : World} {ad : Addr} {u : Value} (hc : w.cell? ad = some u) : (Instr.loadAt t (.pointer (some ad))).run P w = .ok u w := by
  have : (isAgg t).run P w = .ok false w := by
    unfold ldT at hl
    split at hl
    · cases hi : P.info? t <;> simp [hi] at hl
    · cases hi : P.info? t <;> simp [hi] at hl
    · next q h1 h2 hq =>
      cases q <;> simp_all [isAgg, run_underlying hq]
    · cases hl
  simp only [Instr.loadAt, Instr.sureAddr, Sem.run_bind, Sem.run_pure, Result.andThen_ok, loadVar, this, Bool.false_eq_true, if_false, run_load, hc]

theorem run_loadAtN {t : TypeId} {n : Nat} (hl : ldT P t = some (some n)) {w : World} {ad : Addr} {vs : List Value} (hn : vs.length = n) (hc : ∀ j u, vs[j]? = some u → w.cell? (ad.add j) = some u) :
    (Instr.loadAt t (.pointer (some ad))).run P w = .ok (.agg vs.toArray) w := by
  have h1 : (isAgg t).run P w = .ok true w ∧ (P.info? t).map (·.size) = some n := by
    unfold ldT at hl
    split at hl
    · next hq => cases hi : P.info? t <;> simp [hi] at hl; simp [isAgg, run_underlying hq, hl]
    · next hq => cases hi : P.info? t <;> simp [hi] at hl; simp [isAgg, run_underlying hq, hl]
    · cases hl
    · cases hl
  have h2 := run_sizeOf' h1.2 w
  have h3 := run_loadCells_list (P := P) (w := w) ad vs hc
  rw [hn] at h3
  simp [Instr.loadAt, Instr.sureAddr, loadVar, h1.1, h2, h3]

theorem s_load1 (t : TypeId) (x : Operand) {c : C} {cs : List C} (hl : ldT P t = some none) (hx : cellsAt h (ρ x) = some (c :: cs)) : Still P h ⟨dst, .load t x, ty, p, af, gd⟩ ρ (.c c) := by
  intro cx G w a s ho
  obtain ⟨ad, vs, hv, hc, hr⟩ := (ptAt_of s hx (ho x (by simp [Op.operands]))).form
  cases hc with
  | @cons _ u _ vs hcu _ =>
    refine ⟨u, ?_, hcu⟩
    have := run_loadAt1 hl (hr 0 u rfl)
    simp only [add_zero] at this
    simp [execOp, hv, this]

theorem s_loadN (t : TypeId) (x : Operand) {n : Nat} {cs : List C} (hl : ldT P t = some (some n)) (hx : cellsAt h (ρ x) = some cs) (hn : n ≤ cs.length) : Still P h ⟨dst, .load t x, ty, p, af, gd⟩ ρ (.agg (cs.take n)) := by
  intro cx G w a s ho
  obtain ⟨ad, vs, hv, hc, hr⟩ := (ptAt_of s hx (ho x (by simp [Op.operands]))).form
  refine ⟨.agg (vs.take n).toArray, ?_, vs.take n, rfl, hc.take n⟩
  have := run_loadAtN (vs := vs.take n) hl (by rw [List.length_take, ← hc.length]; omega) fun j u hu => hr j u (by
    rw [List.getElem?_take] at hu
    split at hu
    · exact hu
    · cases hu)
  simp [execOp, hv, this]

/-- An element of a row of the call's own. -/
theorem rowp_at {cx : Cx} {G : Gh} {w : World} (s : SatH cx G h w) {i ver sz k off : Nat} {t : TypeId} {els : List (List D)} {e : List D} {v : Value} (hi : h[i]? = some (.row t sz els ver)) (hk : els[k]? = some e) (hv : Ar G (.c (.rowp i ver sz k off)) v) :
    PtAt G w ((e.drop off).map C.d) v := by
  obtain ⟨v0, xs, hg, how, _, hd, hl⟩ := row_at s hi
  obtain ⟨_, v0', n', hg', _, hx⟩ := hv
  rw [hg] at hg'
  cases hg'
  obtain ⟨b, len, cap, rfl, rfl⟩ := hx rfl
  obtain ⟨g, cap', hv', hb, _, _, hcell⟩ := own_cells how (by have := getElem?_lt hk; omega)
  injection hv' with hv' _ _
  injection hv' with hv'
  injection hv' with hv' _ _
  subst hv'
  have hel := hl e (List.mem_of_getElem? hk)
  have hget : ∀ j c, e[j]? = some c → ∃ u, xs[k * sz + j]? = some u ∧ Dr G.V c u := fun j c hj => hd.get _ _ (flat_get els hl k e j c hk hj)
  refine ⟨_, _, rfl, all2_fn (fun j => xs.getD (k * sz + off + j) undef) (fun j c hj => ?_), fun j u hu => ?_⟩
  · rw [List.getElem?_drop] at hj
    obtain ⟨u, h1, h2⟩ := hget _ c hj
    rw [show k * sz + (off + j) = k * sz + off + j from by omega] at h1
    simpa [List.getD, h1] using h2
  · have hj : j < (e.drop off).length := by have := getElem?_lt hu; simpa using this
    simp only [List.getElem?_map, List.getElem?_range hj, Option.map_some, Option.some.injEq] at hu
    obtain ⟨c, hc⟩ : ∃ c, e[off + j]? = some c := ⟨_, List.getElem?_eq_getElem (by rw [List.length_drop] at hj; omega)⟩
    obtain ⟨u', h1, h2⟩ := hget _ c hc
    rw [show k * sz + (off + j) = k * sz + off + j from by omega] at h1
    simp only [List.getD, h1, Option.getD_some] at hu
    subst hu
    rw [add_plain, hcell _ _ h1]

theorem s_load1_row (t : TypeId) (x : Operand) {i ver sz k off : Nat} {te : TypeId} {els : List (List D)} {e : List D} {c : D} {cs : List D} (hl : ldT P t = some none) (hx : ρ x = .c (.rowp i ver sz k off)) (hi : h[i]? = some (.row te sz els ver)) (hk : els[k]? = some e) (he : e.drop off = c :: cs) :
    Still P h ⟨dst, .load t x, ty, p, af, gd⟩ ρ (.c (.d c)) := by
  intro cx G w a s ho
  obtain ⟨ad, vs, hv, hc, hr⟩ := (rowp_at s hi hk (hx ▸ ho x (by simp [Op.operands]))).form
  rw [he] at hc
  cases hc with
  | @cons _ u _ vs hcu _ =>
    refine ⟨u, ?_, hcu⟩
    have := run_loadAt1 hl (hr 0 u rfl)
    simp only [add_zero] at this
    simp [execOp, hv, this]
theorem s_loadN_row (t : TypeId) (x : Operand) {n i ver sz k off : Nat} {te : TypeId} {els : List (List D)} {e : List D} (hl : ldT P t = some (some n)) (hx : ρ x = .c (.rowp i ver sz k off)) (hi : h[i]? = some (.row te sz els ver)) (hk : els[k]? = some e) (hn : off + n ≤ e.length) :
    Still P h ⟨dst, .load t x, ty, p, af, gd⟩ ρ (.agg (((e.drop off).take n).map C.d)) := by
  intro cx G w a s ho
  obtain ⟨ad, vs, hv, hc, hr⟩ := (rowp_at s hi hk (hx ▸ ho x (by simp [Op.operands]))).form
  refine ⟨.agg (vs.take n).toArray, ?_, vs.take n, rfl, by rw [List.map_take]; exact hc.take n⟩
  have hlen := hc.length
  simp at hlen
  have := run_loadAtN (vs := vs.take n) hl (by rw [List.length_take, ← hlen]; omega) fun j u hu => hr j u (by
    rw [List.getElem?_take] at hu
    split at hu
    · exact hu
    · cases hu)
  simp [execOp, hv, this]

/-! ### lengths -/
theorem s_len (t : TypeId) (x : Operand) {sz : Nat} {els : List (List D)} {e : TypeId} (ht : P.underlying t = some (.slice e)) (hx : elsOf h (ρ x) = some (sz, els)) :
    Still P h ⟨dst, .call { callee := .builtin .len, args := #[x], argTypes := #[t] }, ty, p, af, gd⟩ ρ (.c (.d (.int .i64 els.length))) := by
  intro cx G w a s ho
  obtain ⟨A, cap, u, hv, _⟩ := (slAt_of s hx (ho x (by simp [Op.operands, Call.operands]))).form
  refine ⟨.int .i64 els.length, ?_, Dr.int _ _⟩
  simp [execOp, resolve, invoke, builtin, Builtin.len_, hv, run_underlying ht, goInt]
theorem s_len_nil (t : TypeId) (x : Operand) {e : TypeId} (ht : P.underlying t = some (.slice e)) (hx : ρ x = .c (.d (.raw (.slice none 0 0)))) :
    Still P h ⟨dst, .call { callee := .builtin .len, args := #[x], argTypes := #[t] }, ty, p, af, gd⟩ ρ (.c (.d (.int .i64 0))) := by
  intro cx G w a s ho
  have hv := ar_raw (hx ▸ ho x (by simp [Op.operands, Call.operands]))
  refine ⟨.int .i64 0, ?_, Dr.int _ _⟩
  simp [execOp, resolve, invoke, builtin, Builtin.len_, hv, run_underlying ht, goInt]
theorem s_len_str (t : TypeId) (x : Operand) {l : List UInt8} (ht : P.underlying t = some .string) (hx : ρ x = .c (.d (.str l))) :
    Still P h ⟨dst, .call { callee := .builtin .len, args := #[x], argTypes := #[t] }, ty, p, af, gd⟩ ρ (.c (.d (.int .i64 l.length))) := by
  intro cx G w a s ho
  have hv := ar_str (hx ▸ ho x (by simp [Op.operands, Call.operands]))
  refine ⟨.int .i64 l.length, ?_, Dr.int _ _⟩
  have hz : (⟨l.toArray⟩ : ByteArray).size = l.length := by simp [ByteArray.size]
  have hl := run_len_string (P := P) (w := w) t ty ⟨l.toArray⟩ ht
  rw [hz] at hl
  simp [execOp, resolve, invoke, builtin, hv, hl, goInt]

/-! ### indices -/
theorem run_indexAt {t e : TypeId} {sz : Nat} (hs : slT P t = some (e, sz)) {k : IntKind} {i : Int} {n cap : Nat} {ad : Addr} (h0 : 0 ≤ i) (h1 : i < n) (w : World) :
    (Instr.indexAt t (.slice (some ad) n cap) (.int k i)).run P w = .ok (.pointer (some (ad.add (i.toNat * sz)))) w := by
  obtain ⟨hu, hsz⟩ := slT_some hs
  simp [Instr.indexAt, asIntOf, run_underlying hu, h0, h1, run_sizeOf' hsz]

theorem s_index (t : TypeId) (x y : Operand) {e : TypeId} {sz sz' : Nat} {k : IntKind} {i : Int} {els : List (List D)} {el : List D} (hs : slT P t = some (e, sz)) (hx : (ρ x = .c (.d (.lst sz' els))) ∨ (ρ x = .c (.bor sz' els))) (hy : ρ y = .c (.d (.int k i))) (hsz : sz' = sz) (h0 : 0 ≤ i) (hk : els[i.toNat]? = some el) :
    Still P h ⟨dst, .indexAddr t x y, ty, p, af, gd⟩ ρ (.c (.ptr el)) := by
  subst hsz
  intro cx G w a s ho
  have e2 := ar_int (hy ▸ ho y (by simp [Op.operands]))
  have hlt := getElem?_lt hk
  have key : ∃ (A : Option Addr) (cap : Nat) (u : Nat → Nat → Value), a.eval x = .slice A els.length cap ∧
      (els ≠ [] → ∃ ad, A = some ad ∧ ∀ i e j c, els[i]? = some e → e[j]? = some c → cellIn G.V.H (ad.add (i * sz' + j)) = some (u i j)) ∧
      ∀ i e j c, els[i]? = some e → e[j]? = some c → Dr G.V c (u i j) := by
    have hr := ho x (by simp [Op.operands])
    rcases hx with hx | hx
    · rw [hx] at hr
      obtain ⟨A, cap, u, hv, _, _, _, ha, hu⟩ := dr_lst hr
      exact ⟨A, cap, u, hv, fun hn => by obtain ⟨ad, e, _, hc⟩ := ha hn; exact ⟨ad, e, hc⟩, hu⟩
    · rw [hx] at hr
      obtain ⟨A, cap, u, hv, _, _, _, ha, hu⟩ := hr
      exact ⟨A, cap, u, hv, ha, hu⟩
  obtain ⟨A, cap, u, hv, ha, hu⟩ := key
  obtain ⟨ad, rfl, hc⟩ := ha (by intro hn; rw [hn] at hlt; simp at hlt)
  refine ⟨.pointer (some (ad.add (i.toNat * sz'))), ?_, _, fun j => u i.toNat j, rfl, fun j c hj => ⟨by rw [add_add]; exact hc _ _ j c hk hj, hu _ _ j c hk hj⟩⟩
  have := run_indexAt (k := k) (cap := cap) (ad := ad) hs h0 (show i < els.length by omega) w
  simp [execOp, hv, e2, this]

theorem s_index_own (t : TypeId) (x y : Operand) {te e : TypeId} {sz sz' j ver : Nat} {k : IntKind} {i : Int} {els : List (List D)} (hs : slT P t = some (e, sz)) (hx : ρ x = .c (.own j ver)) (hj : h[j]? = some (.row te sz' els ver)) (hy : ρ y = .c (.d (.int k i))) (hsz : sz' = sz) (h0 : 0 ≤ i) (h1 : i < els.length) :
    Still P h ⟨dst, .indexAddr t x y, ty, p, af, gd⟩ ρ (.c (.rowp j ver sz i.toNat 0)) := by
  subst hsz
  intro cx G w a s ho
  have e2 := ar_int (hy ▸ ho y (by simp [Op.operands]))
  obtain ⟨v0, xs, hg, how, _, _, _⟩ := row_at s hj
  have hr := ho x (by simp [Op.operands])
  rw [hx] at hr
  obtain ⟨_, v0', n', hg', _, hxx⟩ := hr
  rw [hg] at hg'
  cases hg'
  have e1 := hxx rfl
  obtain ⟨g, cap, rfl, _⟩ := own_cells how (by omega)
  refine ⟨.pointer (some ⟨g, i.toNat * sz', none⟩), ?_, rfl, _, _, hg, Nat.le_refl _, fun _ => ⟨g, els.length, cap, rfl, by simp⟩⟩
  have := run_indexAt (k := k) (cap := cap) (ad := ⟨g, 0, none⟩) hs h0 h1 w
  rw [add_plain, Nat.zero_add] at this
  simp [execOp, e1, e2, this]

theorem run_indexArr {t e : TypeId} {m sz : Nat} (hs : arT P t = some (m, e, sz)) {k : IntKind} {i : Int} {ad : Addr} (h0 : 0 ≤ i) (h1 : i < m) (w : World) :
    (Instr.indexAt t (.pointer (some ad)) (.int k i)).run P w = .ok (.pointer (some (ad.add (i.toNat * sz)))) w := by
  obtain ⟨hu, hsz⟩ := arT_some hs
  simp [Instr.indexAt, Instr.sureAddr, asIntOf, run_underlying hu, h0, h1, run_sizeOf' hsz]

theorem s_index_arr (t : TypeId) (x y : Operand) {e : TypeId} {m sz : Nat} {k : IntKind} {i : Int} {cs : List D} (hs : arT P t = some (m, e, sz)) (hx : ρ x = .c (.ptr cs)) (hy : ρ y = .c (.d (.int k i))) (h0 : 0 ≤ i) (h1 : i < m) :
    Still P h ⟨dst, .indexAddr t x y, ty, p, af, gd⟩ ρ (.c (.ptr (cs.drop (i.toNat * sz)))) := by
  intro cx G w a s ho
  have e2 := ar_int (hy ▸ ho y (by simp [Op.operands]))
  obtain ⟨ad, u, e1, hc⟩ := (hx ▸ ho x (by simp [Op.operands]) : Ar G (.c (.ptr cs)) (a.eval x))
  refine ⟨.pointer (some (ad.add (i.toNat * sz))), ?_, _, fun j => u (i.toNat * sz + j), rfl, fun j c hj => ?_⟩
  · have := run_indexArr (k := k) (ad := ad) hs h0 h1 w
    simp only [execOp, e1, e2, Sem.run_bind, this, Result.andThen_ok, Sem.run_pure]
  · rw [List.getElem?_drop] at hj
    rw [add_add]
    exact hc _ c hj
theorem s_index_box (t : TypeId) (x y : Operand) {e : TypeId} {m sz j off : Nat} {k : IntKind} {i : Int} (hs : arT P t = some (m, e, sz)) (hx : ρ x = .c (.loc j off)) (hy : ρ y = .c (.d (.int k i))) (h0 : 0 ≤ i) (h1 : i < m) :
    Still P h ⟨dst, .indexAddr t x y, ty, p, af, gd⟩ ρ (.c (.loc j (off + i.toNat * sz))) := by
  intro cx G w a s ho
  have e2 := ar_int (hy ▸ ho y (by simp [Op.operands]))
  obtain ⟨b, n, hg, e1⟩ := (hx ▸ ho x (by simp [Op.operands]) : Ar G (.c (.loc j off)) (a.eval x))
  refine ⟨.pointer (some ⟨b, off + i.toNat * sz, none⟩), ?_, b, n, hg, rfl⟩
  have := run_indexArr (k := k) (ad := ⟨b, off, none⟩) hs h0 h1 w
  rw [add_plain] at this
  simp only [execOp, e1, e2, Sem.run_bind, this, Result.andThen_ok, Sem.run_pure]

theorem s_index_str (t : TypeId) (x y : Operand) {l : List UInt8} {k : IntKind} {i : Int} {c : UInt8} (ht : P.underlying t = some .string) (hx : ρ x = .c (.d (.str l))) (hy : ρ y = .c (.d (.int k i))) (h0 : 0 ≤ i) (hk : l[i.toNat]? = some c) :
    Still P h ⟨dst, .index t x y, ty, p, af, gd⟩ ρ (.c (.d (.int .u8 c.toNat))) := by
  intro cx G w a s ho
  have e1 := ar_str (hx ▸ ho x (by simp [Op.operands]))
  have e2 := ar_int (hy ▸ ho y (by simp [Op.operands]))
  refine ⟨.int .u8 c.toNat, ?_, Dr.int _ _⟩
  have hlt := getElem?_lt hk
  have hb : (⟨l.toArray⟩ : ByteArray)[i.toNat]? = some c := by
    have hs : i.toNat < (⟨l.toArray⟩ : ByteArray).size := by simpa [ByteArray.size] using hlt
    rw [ByteArray.getElem?_lt' _ _ hs]
    have : (⟨l.toArray⟩ : ByteArray)[i.toNat] = l[i.toNat] := by
      show l.toArray[i.toNat] = _
      simp
    rw [this, ← hk, List.getElem?_eq_getElem hlt]
  simp [execOp, Instr.index, asIntOf, e1, e2, run_underlying ht, h0, hb]

/-! ### fields -/
theorem run_fieldAt {t : TypeId} {k off : Nat} (hf : fdT P t k = some off) (ad : Addr) (w : World) : (Instr.fieldAt t (.pointer (some ad)) k).run P w = .ok (.pointer (some (ad.add off))) w := by
  unfold fdT at hf
  split at hf
  · next fs hu =>
    split at hf
    · next f hfk =>
      split at hf
      · next n hn =>
        split at hf
        · cases hf
        · next hne =>
          cases hf
          simp [Instr.fieldAt, Instr.sureAddr, run_underlying hu, hfk, fieldPlace, run_sizeOf' hn, hne]
      · cases hf
    · cases hf
  · cases hf

theorem s_field_ptr (t : TypeId) (x : Operand) (k : Nat) {off : Nat} {cs : List D} (hf : fdT P t k = some off) (hx : ρ x = .c (.ptr cs)) : Still P h ⟨dst, .fieldAddr t x k, ty, p, af, gd⟩ ρ (.c (.ptr (cs.drop off))) := by
  intro cx G w a s ho
  obtain ⟨ad, u, e1, hc⟩ := (hx ▸ ho x (by simp [Op.operands]) : Ar G (.c (.ptr cs)) (a.eval x))
  refine ⟨.pointer (some (ad.add off)), ?_, _, fun j => u (off + j), rfl, fun j c hj => ?_⟩
  · simp [execOp, e1, run_fieldAt hf]
  · rw [List.getElem?_drop] at hj
    rw [add_add]
    exact hc _ c hj
theorem s_field_loc (t : TypeId) (x : Operand) (k : Nat) {off i o : Nat} (hf : fdT P t k = some off) (hx : ρ x = .c (.loc i o)) : Still P h ⟨dst, .fieldAddr t x k, ty, p, af, gd⟩ ρ (.c (.loc i (o + off))) := by
  intro cx G w a s ho
  obtain ⟨b, n, hg, e1⟩ := (hx ▸ ho x (by simp [Op.operands]) : Ar G (.c (.loc i o)) (a.eval x))
  refine ⟨.pointer (some ⟨b, o + off, none⟩), ?_, b, n, hg, rfl⟩
  have := run_fieldAt hf ⟨b, o, none⟩ w
  rw [add_plain] at this
  simp [execOp, e1, this]
theorem s_field_row (t : TypeId) (x : Operand) (k : Nat) {off i ver sz j o : Nat} {te : TypeId} {els : List (List D)} (hf : fdT P t k = some off) (hx : ρ x = .c (.rowp i ver sz j o)) (hi : h[i]? = some (.row te sz els ver)) : Still P h ⟨dst, .fieldAddr t x k, ty, p, af, gd⟩ ρ (.c (.rowp i ver sz j (o + off))) := by
  intro cx G w a s ho
  obtain ⟨v0, xs, hg0, _⟩ := row_at s hi
  obtain ⟨_, v0', n, hg, hle, hxx⟩ := (hx ▸ ho x (by simp [Op.operands]) : Ar G (.c (.rowp i ver sz j o)) (a.eval x))
  rw [hg0] at hg
  cases hg
  obtain ⟨b, len, cap, rfl, e1⟩ := hxx rfl
  refine ⟨.pointer (some ⟨b, j * sz + (o + off), none⟩), ?_, rfl, _, _, hg0, Nat.le_refl _, fun _ => ⟨b, len, cap, rfl, rfl⟩⟩
  have := run_fieldAt hf ⟨b, j * sz + o, none⟩ w
  rw [add_plain, Nat.add_assoc] at this
  simp [execOp, e1, this]

theorem s_nilCheck (x : Operand) (hx : (∃ cs, ρ x = .c (.ptr cs)) ∨ (∃ i o, ρ x = .c (.loc i o))) : Still P h ⟨dst, .nilCheck x, ty, p, af, gd⟩ ρ (ρ x) := by
  intro cx G w a s ho
  have hr := ho x (by simp [Op.operands])
  refine ⟨a.eval x, ?_, hr⟩
  rcases hx with ⟨cs, hx⟩ | ⟨i, o, hx⟩
  · rw [hx] at hr
    obtain ⟨ad, u, e1, _⟩ := hr
    simp [execOp, e1]
  · rw [hx] at hr
    obtain ⟨b, n, hg, e1⟩ := hr
    simp [execOp, e1]

theorem s_extract (x : Operand) (k : Nat) {vs : List AV} {α : AV} (hx : ρ x = .tup vs) (hk : vs[k]? = some α) (hα : ∀ us, α ≠ .tup us) : Still P h ⟨dst, .extract x k, ty, p, af, gd⟩ ρ α := by
  intro cx G w a s ho
  obtain ⟨us, e1, hc⟩ := (hx ▸ ho x (by simp [Op.operands]) : Ar G (.tup vs) (a.eval x))
  obtain ⟨u, hu, hr⟩ := hc.get k α hk
  refine ⟨u, ?_, by cases α <;> first | exact hr | (exact absurd rfl (hα _))⟩
  simp [execOp, e1, Instr.extract, hu]
end Go.Ax

/-
  The operations that make or write local memory: variables, stores, composite values, slices of slices, append, make. No condition.
-/
namespace Go.Ax
open Go Go.RowKit

variable {P : Program} {h : List LB} {ρ : Operand → AV} {dst : Option Tmp} {ty : TypeId} {p : String} {af : Array Edge} {gd : Option (Nat × Bool)}

/-! ### s[lo:hi] -/
theorem run_slBound {k : IntKind} {i : Int} {n : Nat} (h0 : 0 ≤ i) (h1 : i ≤ n) (code : BoundsCode) (w : World) : (Instr.sliceBound (.int k i) n code).run P w = .ok i.toNat w := by
  simp [Instr.sliceBound, asIntOf, h0, h1]

/-- An operand that may be left out: the number it gives. -/
def optI (ρ : Operand → AV) (x : Option Operand) (d : Nat) (n : Nat) : Prop :=
  match x with
  | none => n = d
  | some x => ∃ k i, ρ x = .c (.d (.int k i)) ∧ 0 ≤ i ∧ i.toNat = n

theorem run_slBounds {a : Act} {G : Gh} {isSl : Bool} {lo hi : Option Operand} {len cap l r : Nat} (hho : ∀ x, (lo = some x ∨ hi = some x) → Ar G (ρ x) (a.eval x)) (hl : optI ρ lo 0 l) (hr : optI ρ hi len r) (h1 : l ≤ r) (h2 : r ≤ cap) (w : World) :
    (Instr.sliceBounds isSl len cap (lo.map a.eval) (hi.map a.eval) none).run P w = .ok (l, r, cap) w := by
  cases hi with
  | none =>
    simp only [optI] at hr; subst hr
    cases lo with
    | none => simp only [optI] at hl; subst hl; simp [Instr.sliceBounds]
    | some x =>
      obtain ⟨k, i, e, h0, hn⟩ := hl
      have e' := ar_int (e ▸ hho x (.inl rfl))
      have hb := fun code => run_slBound (P := P) (k := k) (n := r) h0 (by omega) code w
      simp [Instr.sliceBounds, e', hb, hn]
  | some y =>
    obtain ⟨k', i', e2, h0', hn'⟩ := hr
    have e2' := ar_int (e2 ▸ hho y (.inr rfl))
    have hb' := fun code => run_slBound (P := P) (k := k') (n := cap) h0' (by omega) code w
    cases lo with
    | none => simp only [optI] at hl; subst hl; simp [Instr.sliceBounds, e2', hb', hn']
    | some x =>
      obtain ⟨k, i, e, h0, hn⟩ := hl
      have e' := ar_int (e ▸ hho x (.inl rfl))
      have hb := fun code => run_slBound (P := P) (k := k) (n := r) h0 (by omega) code w
      simp [Instr.sliceBounds, e', e2', hb', hb, hn, hn']

theorem mem_slice_ops {x y : Operand} {t : TypeId} {lo hi mx : Option Operand} (hh : lo = some y ∨ hi = some y) : y ∈ (Op.slice t x lo hi mx).operands.toList := by
  rcases hh with rfl | rfl <;> simp [Op.operands]

theorem s_slice_str (t : TypeId) (x : Operand) (lo hi : Option Operand) {s : List UInt8} {l r : Nat} (ht : P.underlying t = some .string) (hx : ρ x = .c (.d (.str s))) (hl : optI ρ lo 0 l) (hr : optI ρ hi s.length r) (h1 : l ≤ r) (h2 : r ≤ s.length) :
    Still P h ⟨dst, .slice t x lo hi none, ty, p, af, gd⟩ ρ (.c (.d (.str ((s.drop l).take (r - l))))) := by
  intro cx G w a sh ho
  have e1 := ar_str (hx ▸ ho x (by simp [Op.operands]))
  refine ⟨.string ⟨((s.drop l).take (r - l)).toArray⟩, ?_, Dr.str _⟩
  have hz : (⟨s.toArray⟩ : ByteArray).size = s.length := by simp [ByteArray.size]
  have hb := run_slBounds (P := P) (isSl := false) (a := a) (G := G) (fun y hy => ho y (mem_slice_ops hy)) hl hr h1 h2 w
  simp only [execOp, e1, Instr.sliceAt, Instr.slice, Option.map_none, Sem.run_bind, run_underlying ht, Result.andThen_ok, Option.isSome_none, Bool.false_eq_true, if_false, Sem.run_pure, hz, hb, Lib.extract_eq]

theorem slice_cases (cap l sz : Nat) (ad : Addr) : (if cap = l then some ad else Option.map (fun x => x.add (l * sz)) (some ad)) = some (if cap = l then ad else ad.add (l * sz)) := by split <;> rfl

theorem get_cut {els : List (List D)} {l r i : Nat} {e : List D} (hh : ((els.drop l).take (r - l))[i]? = some e) : els[l + i]? = some e := by
  rw [List.getElem?_take] at hh
  split at hh
  · rwa [List.getElem?_drop] at hh
  · cases hh

theorem run_slice_sl {t e : TypeId} {sz : Nat} (hs : slT P t = some (e, sz)) {a : Act} {G : Gh} {lo hi : Option Operand} {A : Option Addr} {n cap l r : Nat} (hho : ∀ x, (lo = some x ∨ hi = some x) → Ar G (ρ x) (a.eval x)) (hl : optI ρ lo 0 l) (hr : optI ρ hi n r) (h1 : l ≤ r) (h2 : r ≤ cap) (w : World) :
    (Instr.sliceAt t (.slice A n cap) (lo.map a.eval) (hi.map a.eval) none).run P w = .ok (.slice (if cap = l then A else A.map (·.add (l * sz))) (r - l) (cap - l)) w := by
  obtain ⟨hu, hsz⟩ := slT_some hs
  have hb := run_slBounds (P := P) (isSl := true) (len := n) (cap := cap) hho hl hr h1 h2 w
  simp [Instr.sliceAt, Instr.slice, run_underlying hu, hb, run_sizeOf' hsz]

theorem s_slice_lst (t : TypeId) (x : Operand) (lo hi : Option Operand) {e : TypeId} {sz sz' l r : Nat} {els : List (List D)} (hs : slT P t = some (e, sz)) (hx : ρ x = .c (.d (.lst sz' els))) (hsz : sz' = sz) (hl : optI ρ lo 0 l) (hr : optI ρ hi els.length r) (h1 : l ≤ r) (h2 : r ≤ els.length) :
    Still P h ⟨dst, .slice t x lo hi none, ty, p, af, gd⟩ ρ (.c (.d (.lst sz ((els.drop l).take (r - l))))) := by
  subst hsz
  intro cx G w a sh ho
  obtain ⟨A, cap, u, e1, hc, hm, he, ha, hu⟩ := dr_lst (hx ▸ ho x (by simp [Op.operands]) : Ar G (.c (.d (.lst sz' els))) (a.eval x))
  have hrun := run_slice_sl (P := P) hs (A := A) (cap := cap) (fun y hy => ho y (mem_slice_ops hy)) hl hr h1 (by omega) w
  have hlen : ((els.drop l).take (r - l)).length = r - l := by rw [List.length_take, List.length_drop]; omega
  refine ⟨.slice (if cap = l then A else A.map (·.add (l * sz'))) (r - l) (cap - l), by simp only [execOp, e1, Option.map_none, Sem.run_bind, hrun, Result.andThen_ok, Sem.run_pure], ?_⟩
  have key : Dr G.V (.lst sz' ((els.drop l).take (r - l))) (.slice (if cap = l then A else A.map (·.add (l * sz'))) ((els.drop l).take (r - l)).length (cap - l)) → Ar G (.c (.d (.lst sz' ((els.drop l).take (r - l))))) (.slice (if cap = l then A else A.map (·.add (l * sz'))) (r - l) (cap - l)) := fun hh => by
    have := hlen
    rw [hlen] at hh; exact hh
  refine key ?_
  refine .lst sz' _ _ (cap - l) (fun i j => u (l + i) j) (by rw [hlen]; omega) (by omega) (fun e he' => he e (List.mem_of_mem_drop (List.mem_of_mem_take he'))) (fun hn => ?_) (fun i e j c h3 h4 => hu _ e j c (get_cut h3) h4)
  have hpos : 0 < r - l := by have := List.length_pos_iff.2 hn; omega
  obtain ⟨ad, rfl, hI, hcell⟩ := ha (by intro hn; subst hn; simp at h2; omega)
  rw [if_neg (by omega)]
  refine ⟨ad.add (l * sz'), rfl, by rw [add_block]; exact hI, fun i e j c h3 h4 => ?_⟩
  rw [add_add, show l * sz' + (i * sz' + j) = (l + i) * sz' + j from by rw [Nat.add_mul]; omega]
  exact hcell _ e j c (get_cut h3) h4

theorem s_slice_bor (t : TypeId) (x : Operand) (lo hi : Option Operand) {e : TypeId} {sz sz' l r : Nat} {els : List (List D)} (hs : slT P t = some (e, sz)) (hx : ρ x = .c (.bor sz' els)) (hsz : sz' = sz) (hl : optI ρ lo 0 l) (hr : optI ρ hi els.length r) (h1 : l ≤ r) (h2 : r ≤ els.length) :
    Still P h ⟨dst, .slice t x lo hi none, ty, p, af, gd⟩ ρ (.c (.bor sz ((els.drop l).take (r - l)))) := by
  subst hsz
  intro cx G w a sh ho
  obtain ⟨A, cap, u, e1, hc, hm, he, ha, hu⟩ := (hx ▸ ho x (by simp [Op.operands]) : Ar G (.c (.bor sz' els)) (a.eval x))
  have hrun := run_slice_sl (P := P) hs (A := A) (cap := cap) (fun y hy => ho y (mem_slice_ops hy)) hl hr h1 (by omega) w
  have hlen : ((els.drop l).take (r - l)).length = r - l := by rw [List.length_take, List.length_drop]; omega
  refine ⟨.slice (if cap = l then A else A.map (·.add (l * sz'))) (r - l) (cap - l), by simp only [execOp, e1, Option.map_none, Sem.run_bind, hrun, Result.andThen_ok, Sem.run_pure], ?_⟩
  refine ⟨_, cap - l, (fun i j => u (l + i) j), by rw [hlen], by rw [hlen]; omega, by omega, (fun e he' => he e (List.mem_of_mem_drop (List.mem_of_mem_take he'))), (fun hn => ?_), (fun i e j c h3 h4 => hu _ e j c (get_cut h3) h4)⟩
  have hpos : 0 < r - l := by have := List.length_pos_iff.2 hn; omega
  obtain ⟨ad, rfl, hcell⟩ := ha (by intro hn; subst hn; simp at h2; omega)
  rw [if_neg (by omega)]
  refine ⟨ad.add (l * sz'), rfl, fun i e j c h3 h4 => ?_⟩
  rw [add_add, show l * sz' + (i * sz' + j) = (l + i) * sz' + j from by rw [Nat.add_mul]; omega]
  exact hcell _ e j c (get_cut h3) h4

theorem s_slice_own (t : TypeId) (x : Operand) (lo hi : Option Operand) {e te : TypeId} {sz sz' j ver l r : Nat} {els : List (List D)} (hs : slT P t = some (e, sz)) (hx : ρ x = .c (.own j ver)) (hj : h[j]? = some (.row te sz' els ver)) (hsz : sz' = sz) (hl : optI ρ lo 0 l) (hr : optI ρ hi els.length r) (h1 : l ≤ r) (h2 : r ≤ els.length) :
    Still P h ⟨dst, .slice t x lo hi none, ty, p, af, gd⟩ ρ (.c (.sub j ver sz l (r - l))) := by
  subst hsz
  intro cx G w a sh ho
  obtain ⟨v0, xs, hg, how, _, _, _⟩ := row_at sh hj
  obtain ⟨_, v0', n', hg', _, hxx⟩ := (hx ▸ ho x (by simp [Op.operands]) : Ar G (.c (.own j ver)) (a.eval x))
  rw [hg] at hg'
  cases hg'
  have e1 := hxx rfl
  obtain ⟨A, cap, rfl, hc, hm⟩ := own_form how
  have hrun := run_slice_sl (P := P) hs (A := A) (cap := cap) (fun y hy => ho y (mem_slice_ops hy)) hl hr h1 (by omega) w
  refine ⟨.slice (if cap = l then A else A.map (·.add (l * sz'))) (r - l) (cap - l), by simp only [execOp, e1, Option.map_none, Sem.run_bind, hrun, Result.andThen_ok, Sem.run_pure], rfl, _, _, hg, Nat.le_refl _, fun _ => ⟨_, cap - l, rfl, by omega, by omega, fun hpos => ?_⟩⟩
  obtain ⟨g, cap', hv', _⟩ := own_cells how (by omega)
  injection hv' with hA _ hcap
  subst hA hcap
  refine ⟨g, els.length, cap, rfl, ?_⟩
  rw [if_neg (by omega)]
  simp [add_plain]

theorem s_makeFunc (f : FuncId) (caps : Array Operand) {is : List Nat} (hc : caps.toList.map ρ = is.map fun i => .c (.loc i 0)) : Still P h ⟨dst, .makeFunc (.func f) #[] caps, ty, p, af, gd⟩ ρ (.c (.clo f is)) := by
  intro cx G w a sh ho
  have key : ∀ (l : List Operand) (is : List Nat), l.map ρ = is.map (fun i => .c (.loc i 0)) → (∀ x ∈ l, Ar G (ρ x) (a.eval x)) →
      ∃ bs : List Nat, l.map a.eval = bs.map (fun b => Value.pointer (some ⟨b, 0, none⟩)) ∧ All2 (fun i b => ∃ n, G.g[i]? = some (.pointer (some ⟨b, 0, none⟩), n)) is bs := by
    intro l
    induction l with
    | nil => intro is hh _; cases is with
      | nil => exact ⟨[], rfl, .nil⟩
      | cons i is => simp at hh
    | cons x l ih => intro is hh hx; cases is with
      | nil => simp at hh
      | cons i is =>
        simp only [List.map_cons, List.cons.injEq] at hh
        obtain ⟨bs, h1, h2⟩ := ih is hh.2 fun y hy => hx y (by simp [hy])
        obtain ⟨b, n, hg, e⟩ := (hh.1 ▸ hx x (by simp) : Ar G (.c (.loc i 0)) (a.eval x))
        exact ⟨b :: bs, by simp [h1, e], .cons ⟨n, hg⟩ h2⟩
  obtain ⟨bs, h1, h2⟩ := key caps.toList is hc fun x hx => ho x (by simpa [Op.operands] using hx)
  refine ⟨.func (.func f) #[] (caps.map a.eval), by simp [execOp, Instr.makeFunc], bs, ?_, h2⟩
  congr 1
  apply Array.ext'
  simp [h1]
end Go.Ax

/-
  How the state follows the world: later worlds, new entries, entries that are written or moved, entries that become still. No condition.
-/
namespace Go.Ax
open Go Go.RowKit

variable {P : Program}

theorem heap_lt {w : World} {k : Nat} {o : Obj} (h : w.heap[k]? = some o) : k < w.heap.size := by
  rcases Nat.lt_or_ge k w.heap.size with h' | h'
  · exact h'
  · rw [Array.getElem?_eq_none h'] at h; cases h

theorem own_world {w w' : World} {base : Nat} {t : TypeId} {sz : Nat} {v : Value} {n : Nat} {xs : List Value} (h : w.ownsRow base t sz v n xs) (hk : ∀ k, blkOf v = some k → w'.heap[k]? = w.heap[k]?) : w'.ownsRow base t sz v n xs := by
  obtain ⟨hl, h1 | ⟨g, cap, cur, rfl, hg, hh, r⟩⟩ := h
  · exact ⟨hl, .inl h1⟩
  · exact ⟨hl, .inr ⟨g, cap, cur, rfl, hg, by rw [hk g rfl]; exact hh, r⟩⟩

theorem Lr.world {G : Gh} {w w' : World} {base : Nat} {b : LB} {e : Value × Nat} (h : Lr G w base b e) (hk : b.live → ∀ k, blkOf e.1 = some k → w'.heap[k]? = w.heap[k]?) : Lr G w' base b e := by
  cases b with
  | dead => trivial
  | box t cs =>
    obtain ⟨h1, b, vs, h2, h3, h4, h5, h6⟩ := h
    exact ⟨h1, b, vs, h2, h3, h4, by rw [hk trivial b (by rw [h2]; rfl)]; exact h5, h6⟩
  | row t sz els ver =>
    obtain ⟨h1, xs, h2, h3⟩ := h
    exact ⟨h1, xs, own_world h2 (hk trivial), h3⟩
  | mp sh m =>
    obtain ⟨h1, b, es, clock, h2, h3, h4, h5, h6⟩ := h
    exact ⟨h1, b, es, clock, h2, h3, h4, by rw [hk trivial b (by rw [h2]; rfl)]; exact h5, h6⟩
  | it todo last =>
    obtain ⟨h1, b, o, h2, h3, h4, h5, h6⟩ := h
    exact ⟨h1, b, o, h2, h3, h4, by rw [hk trivial b (by rw [h2]; rfl)]; exact h5, h6⟩
  | sit s pos =>
    obtain ⟨h1, b, h2, h3, h4, h5⟩ := h
    exact ⟨h1, b, h2, h3, h4, by rw [hk trivial b (by rw [h2]; rfl)]; exact h5⟩

/-- The block of a live entry: of the call's own, there, and nothing that stays. -/
theorem Lr.blk {G : Gh} {w : World} {base : Nat} {b : LB} {e : Value × Nat} (h : Lr G w base b e) (hl : b.live) {k : Nat} (hk : blkOf e.1 = some k) : base ≤ k ∧ k < w.heap.size ∧ G.V.H k = none := by
  cases b with
  | dead => exact hl.elim
  | box t cs =>
    obtain ⟨h1, b, vs, h2, h3, h4, h5, h6⟩ := h
    rw [h2] at hk
    cases hk
    exact ⟨h3, heap_lt h5, h4⟩
  | row t sz els ver =>
    obtain ⟨h1, xs, ⟨_, h2⟩, h3, _⟩ := h
    rcases h2 with ⟨e2, _⟩ | ⟨g, cap, cur, e2, hg, hh, _⟩
    · rw [e2] at hk; cases hk
    · have h3' := h3 g (by rw [e2]; rfl)
      rw [e2] at hk
      cases hk
      exact ⟨hg, heap_lt hh, h3'⟩
  | mp sh m =>
    obtain ⟨h1, b, es, clock, h2, h3, h4, h5, h6⟩ := h
    rw [h2] at hk
    cases hk
    exact ⟨h3, heap_lt h5, h4⟩
  | it todo last =>
    obtain ⟨h1, b, o, h2, h3, h4, h5, h6⟩ := h
    rw [h2] at hk
    cases hk
    exact ⟨h3, heap_lt h5, h4⟩
  | sit s pos =>
    obtain ⟨h1, b, h2, h3, h4, h5⟩ := h
    rw [h2] at hk
    cases hk
    exact ⟨h3, heap_lt h5, h4⟩

theorem SatH.entry {cx : Cx} {G : Gh} {h : List LB} {w : World} (s : SatH cx G h w) {i : Nat} {b : LB} (hi : h[i]? = some b) : ∃ e, G.g[i]? = some e ∧ Lr G w cx.w0.heap.size b e := by
  have hlt : i < G.g.length := by rw [s.len]; exact getElem?_lt hi
  exact ⟨_, List.getElem?_eq_getElem hlt, s.ent i _ _ hi (List.getElem?_eq_getElem hlt)⟩

theorem SatH.later {cx : Cx} {G : Gh} {h : List LB} {w w' : World} (s : SatH cx G h w) (hb : Below w.heap.size w w') : SatH cx G h w' := by
  refine ⟨s.len, fun i b e hi he => (s.ent i b e hi he).world fun hl k hk => hb.block k ((s.ent i b e hi he).blk hl hk).2.1, s.sep, fun b o ho => ?_, s.imm, s.below.trans (hb.mono s.below.size), s.ext, s.glob, Nat.le_trans s.sz hb.size⟩
  have := s.view b o ho
  rw [hb.block b (heap_lt this)]
  exact this

theorem gle_push {G : Gh} (x : Value × Nat) : GLe G.g.length G ⟨G.V, G.g ++ [x]⟩ :=
  ⟨.refl _, fun i v n hi e => ⟨v, n, by simp [List.getElem?_append_left hi, e], Nat.le_refl _, fun _ => rfl, fun _ => ⟨rfl, rfl⟩⟩⟩

theorem getElem?_push {α : Type} {l : List α} {x : α} {i : Nat} {y : α} (h : (l ++ [x])[i]? = some y) : l[i]? = some y ∨ (i = l.length ∧ y = x) := by
  rcases Nat.lt_or_ge i l.length with hlt | hge
  · rw [List.getElem?_append_left hlt] at h; exact .inl h
  · rw [List.getElem?_append_right hge] at h
    have : i - l.length = 0 := by
      rcases Nat.eq_zero_or_pos (i - l.length) with h0 | h0
      · exact h0
      · rw [List.getElem?_eq_none (by simp; omega)] at h; cases h
    rw [this] at h
    simp at h
    exact .inr ⟨by omega, h.symm⟩

theorem SatH.push {cx : Cx} {G : Gh} {h : List LB} {w : World} (s : SatH cx G h w) (v : Value) (n : Nat) (lb : LB) (hl : Lr G w cx.w0.heap.size lb (v, n))
    (hf : ∀ k, blkOf v = some k → ∀ (i : Nat) (b : LB) (e : Value × Nat), h[i]? = some b → b.live → G.g[i]? = some e → blkOf e.1 ≠ some k) : SatH cx ⟨G.V, G.g ++ [(v, n)]⟩ (h ++ [lb]) w := by
  have hg := gle_push (G := G) (v, n)
  have hlen := s.len
  have hlow : ∀ {b : LB} {e : Value × Nat}, Lr G w cx.w0.heap.size b e → b.low G.g.length := by
    intro b e hb
    cases b with
    | box t cs => obtain ⟨_, b, vs, _, _, _, _, h6⟩ := hb; exact All2.low h6
    | _ => trivial
  refine ⟨by simp [hlen], fun i b e hi he => ?_, ?_, s.view, s.imm, s.below, s.ext.trans (hg.all _), fun p hp => (s.glob p hp).grow hg, s.sz⟩
  · rcases getElem?_push hi with hi | ⟨rfl, rfl⟩
    · rcases getElem?_push he with he | ⟨rfl, rfl⟩
      · exact (s.ent i b e hi he).mono hg (fun _ h => h) (hlow (s.ent i b e hi he))
      · have := getElem?_lt hi; omega
    · rw [← hlen, List.getElem?_append_right (Nat.le_refl _)] at he
      simp at he
      subst he
      exact hl.mono hg (fun _ h => h) (hlow hl)
  · intro i j bi bj ei ej k h1 h2 h3 h4 h5 h6 h7 h8
    rcases getElem?_push h1 with q1 | ⟨rfl, rfl⟩ <;> rcases getElem?_push h2 with q2 | ⟨rfl, rfl⟩
    · simp only [List.getElem?_append_left (show i < G.g.length by rw [hlen]; exact getElem?_lt q1)] at h5
      simp only [List.getElem?_append_left (show j < G.g.length by rw [hlen]; exact getElem?_lt q2)] at h6
      exact s.sep i j bi bj ei ej k q1 q2 h3 h4 h5 h6 h7 h8
    · simp only [List.getElem?_append_left (show i < G.g.length by rw [hlen]; exact getElem?_lt q1)] at h5
      rw [← hlen] at h6
      simp at h6
      subst h6
      exact absurd h7 (hf k h8 i bi ei q1 h3 h5)
    · simp only [List.getElem?_append_left (show j < G.g.length by rw [hlen]; exact getElem?_lt q2)] at h6
      rw [← hlen] at h5
      simp at h5
      subst h5
      exact absurd h8 (hf k h7 j bj ej q2 h4 h6)
    · rfl

/-- A new block for a new entry. -/
theorem SatH.alloc {cx : Cx} {G : Gh} {h : List LB} {w : World} (s : SatH cx G h w) (o : Obj) : SatH cx G h (w.alloc o) ∧ G.V.H w.heap.size = none ∧
    ∀ (i : Nat) (b : LB) (e : Value × Nat), h[i]? = some b → b.live → G.g[i]? = some e → blkOf e.1 ≠ some w.heap.size := by
  refine ⟨s.later ((Below.refl _ _).alloc (Nat.le_refl _) o), ?_, fun i b e hi hl he hk => ?_⟩
  · cases e : G.V.H w.heap.size with
    | none => rfl
    | some o =>
      have := heap_lt (s.view _ _ e)
      omega
  · have := ((s.ent i b e hi he).blk hl hk).2.1
    omega

theorem getElem?_set' {α : Type} {l : List α} {i j : Nat} {x y : α} (h : (l.set i x)[j]? = some y) : (j = i ∧ y = x) ∨ (j ≠ i ∧ l[j]? = some y) := by
  by_cases hij : i = j
  · subst hij
    have hlt := getElem?_lt h
    rw [List.length_set] at hlt
    rw [List.getElem?_set_self hlt] at h
    exact .inl ⟨rfl, (Option.some.inj h).symm⟩
  · rw [List.getElem?_set_ne hij] at h
    exact .inr ⟨fun e => hij e.symm, h⟩

/-- An entry is written: its own block alone changes. -/
theorem SatH.upd {cx : Cx} {G : Gh} {h : List LB} {w w' : World} (s : SatH cx G h w) {i b : Nat} {lb lb' : LB} {e : Value × Nat} (hi : h[i]? = some lb) (hlv : lb.live) (he : G.g[i]? = some e) (hb : blkOf e.1 = some b)
    (os : w'.os = w.os) (tape : w'.tape = w.tape) (output : w'.output = w.output) (size : w'.heap.size = w.heap.size) (hw : ∀ k, k ≠ b → w'.heap[k]? = w.heap[k]?)
    (hl : Lr G w' cx.w0.heap.size lb' e) : SatH cx G (h.set i lb') w' := by
  have hbb := (s.ent i _ _ hi he).blk hlv hb
  refine ⟨by simp [s.len], fun j b' e' hj he' => ?_, ?_, fun k o ho => ?_, s.imm, s.below.trans ⟨os, tape, output, by omega, fun k hk => hw k (by omega)⟩, s.ext, s.glob, by rw [size]; exact s.sz⟩
  · rcases getElem?_set' hj with ⟨rfl, rfl⟩ | ⟨hne, hj⟩
    · rw [he] at he'; cases he'; exact hl
    · exact (s.ent j _ _ hj he').world fun hlj k hk => hw k fun e => hne (s.sep j i b' lb e' _ k hj hi hlj hlv he' he hk (e ▸ hb))
  · intro j k bj bk ej ek x h1 h2 h3 h4 h5 h6 h7 h8
    rcases getElem?_set' h1 with ⟨rfl, rfl⟩ | ⟨hne, q1⟩ <;> rcases getElem?_set' h2 with ⟨rfl, rfl⟩ | ⟨hne', q2⟩
    · rfl
    · exact s.sep _ _ lb bk ej ek x hi q2 hlv h4 h5 h6 h7 h8
    · exact s.sep _ _ bj lb ej ek x q1 hi h3 hlv h5 h6 h7 h8
    · exact s.sep _ _ bj bk ej ek x q1 q2 h3 h4 h5 h6 h7 h8
  · rw [hw k (fun e => by rw [e, hbb.2.2] at ho; cases ho)]
    exact s.view k o ho

/-- A row is appended to: it may have moved. -/
theorem SatH.move {cx : Cx} {G : Gh} {h : List LB} {w w' : World} (s : SatH cx G h w) {i n n' : Nat} {lb lb' : LB} {v v' : Value} (hi : h[i]? = some lb) (hlv : lb.live) (he : G.g[i]? = some (v, n)) (hn : n < n') (hp : ∀ p, v ≠ .pointer p)
    (hob : ∀ k, blkOf v = some k → v.ownBlock = some k) (hob' : ∀ k, blkOf v' = some k → v'.ownBlock = some k) (hg : w.grownBy w' v.ownBlock) (hat : v'.ownBlock = v.ownBlock ∨ v'.ownBlock = some w.heap.size) (hvb : ∀ k, v.ownBlock = some k → blkOf v = some k)
    (hl : ∀ G', G'.V = G.V → Lr G' w' cx.w0.heap.size lb' (v', n')) : GLe G.g.length G ⟨G.V, G.g.set i (v', n')⟩ ∧ SatH cx ⟨G.V, G.g.set i (v', n')⟩ (h.set i lb') w' := by
  have hilt := getElem?_lt he
  have hG : GLe G.g.length G ⟨G.V, G.g.set i (v', n')⟩ := by
    refine ⟨.refl _, fun j u m hj e => ?_⟩
    by_cases hij : i = j
    · subst hij
      rw [he] at e
      cases e
      exact ⟨v', n', by simp [hilt], by omega, fun h => by omega, fun ⟨p, e⟩ => absurd e (hp p)⟩
    · exact ⟨u, m, by simp [List.getElem?_set_ne hij, e], Nat.le_refl _, fun _ => rfl, fun _ => ⟨rfl, rfl⟩⟩
  have hother : ∀ (j : Nat) (bj : LB) (ej : Value × Nat) (k : Nat), j ≠ i → h[j]? = some bj → bj.live → G.g[j]? = some ej → blkOf ej.1 = some k → k < w.heap.size ∧ some k ≠ v.ownBlock := by
    intro j bj ej k hne hj hlj hej hk
    refine ⟨((s.ent j _ _ hj hej).blk hlj hk).2.1, fun e => hne ?_⟩
    exact s.sep j i bj lb ej (v, n) k hj hi hlj hlv hej he hk (hvb k e.symm)
  have hlow : ∀ {b : LB} {e : Value × Nat}, Lr G w cx.w0.heap.size b e → b.low G.g.length := by
    intro b e hb
    cases b with
    | box t cs => obtain ⟨_, b, vs, _, _, _, _, h6⟩ := hb; exact All2.low h6
    | _ => trivial
  have hvbase : ∀ k, v.ownBlock = some k → cx.w0.heap.size ≤ k ∧ G.V.H k = none := fun k hk => by
    have := (s.ent i _ _ hi he).blk hlv (hvb k hk)
    exact ⟨this.1, this.2.2⟩
  refine ⟨hG, by simp [s.len], fun j b' e' hj he' => ?_, ?_, fun k o ho => ?_, s.imm, s.below.grown hg s.below.size (fun k hk => (hvbase k hk).1), s.ext.trans (hG.all _), fun p hp => (s.glob p hp).grow hG, Nat.le_trans s.sz hg.size⟩
  · rcases getElem?_set' hj with ⟨rfl, rfl⟩ | ⟨hne, hj⟩
    · simp only [List.getElem?_set_self hilt, Option.some.injEq] at he'
      subst he'
      exact hl _ rfl
    · simp only [List.getElem?_set_ne (fun e => hne e.symm)] at he'
      have h0 := s.ent j _ _ hj he'
      refine (h0.world fun hlj k hk => ?_).mono hG (fun _ h => h) (hlow h0)
      obtain ⟨a, b⟩ := hother j b' e' k hne hj hlj he' hk
      exact hg.block k a b
  · have hnew : ∀ (j : Nat) (bj : LB) (ej : Value × Nat) (k : Nat), j ≠ i → h[j]? = some bj → bj.live → G.g[j]? = some ej → blkOf ej.1 = some k → blkOf v' = some k → False := by
      intro j bj ej k hne hj hlj hej hk hk'
      obtain ⟨a, b⟩ := hother j bj ej k hne hj hlj hej hk
      have := hob' k hk'
      rcases hat with e | e
      · exact b (by rw [← e, this])
      · rw [this] at e; cases e; omega
    intro j k bj bk ej ek x h1 h2 h3 h4 h5 h6 h7 h8
    rcases getElem?_set' h1 with ⟨rfl, rfl⟩ | ⟨hne, q1⟩ <;> rcases getElem?_set' h2 with ⟨rfl, rfl⟩ | ⟨hne', q2⟩
    · rfl
    · simp only [List.getElem?_set_self hilt, Option.some.injEq] at h5
      simp only [List.getElem?_set_ne (fun e => hne' e.symm)] at h6
      subst h5
      exact (hnew _ _ _ _ hne' q2 h4 h6 h8 h7).elim
    · simp only [List.getElem?_set_self hilt, Option.some.injEq] at h6
      simp only [List.getElem?_set_ne (fun e => hne e.symm)] at h5
      subst h6
      exact (hnew _ _ _ _ hne q1 h3 h5 h7 h8).elim
    · simp only [List.getElem?_set_ne (fun e => hne e.symm)] at h5
      simp only [List.getElem?_set_ne (fun e => hne' e.symm)] at h6
      exact s.sep _ _ bj bk ej ek x q1 q2 h3 h4 h5 h6 h7 h8
  · have := s.view k o ho
    rw [hg.block k (heap_lt this) (fun e => by rw [(hvbase k e.symm).2] at ho; cases ho)]
    exact this
end Go.Ax

/-
  The operations that make or write local memory. No condition.
-/
namespace Go.Ax
open Go Go.RowKit

variable {P : Program}

theorem AXl.eff {pm : Pm} {ops : Array Oper} {o : Oper} {rest : List Oper} {st : St} {K : St → Prop} (hg : o.guard = none)
    (hh : ∀ (cx : Cx) (G : Gh) (a : Act) (w : World), cx.pm = pm → Sat cx G st a w → ∃ v w' G' st', ((execOp a.eval o).run P w = .ok (.value v) w' ∨ ((execOp a.eval o).run P w = .ok .skip w' ∧ v = undef)) ∧ Sat cx G' st' (a.put o.dst v) w' ∧ AXl P pm ops rest st' K) : AXl P pm ops (o :: rest) st K := by
  intro cx G a w Q hp s hQ
  refine wpList_plain hg fun K' hK' => ?_
  obtain ⟨v, w', G', st', hr, s', hn⟩ := hh cx G a w hp s
  have hk := hK' _ _ (hn cx G' _ w' Q hp s' hQ)
  unfold Oper.wp
  rcases hr with hr | ⟨hr, rfl⟩ <;> rw [hr] <;> exact hk

/-! ### cells of a value -/
def avCells : AV → Option (List C)
  | .c c => some [c]
  | .agg cs => some cs
  | _ => none

theorem cells_one {v : Value} (h : v.oneCell' = true) : v.cells = #[v] := by
  cases v <;> first | rfl | (simp [Value.oneCell'] at h)

theorem avCells_ok {G : Gh} {α : AV} {v : Value} {cs : List C} (hc : avCells α = some cs) (h : Ar G α v) : All2 (Cr G) cs v.cells.toList := by
  cases α with
  | any => cases hc
  | tup vs => cases hc
  | c c =>
    cases hc
    have h' : Cr G c v := h
    rw [cells_one h'.one]
    exact .cons h' .nil
  | agg cs' =>
    cases hc
    obtain ⟨vs, rfl, h'⟩ := h
    simpa [Value.cells] using h'

def zD : Value → Option C
  | .int k n => some (.d (.int k n))
  | .bool b => some (.d (.bool b))
  | .string s => some (.d (.str s.data.toList))
  | .slice none 0 0 => some (.d (.raw (.slice none 0 0)))
  | .map none => some (.d (.raw (.map none)))
  | .pointer none => some (.d (.raw (.pointer none)))
  | .nilFunc => some (.d (.raw .nilFunc))
  | .nilIface => some (.d (.raw .nilIface))
  | _ => none
def zDs : List Value → Option (List C)
  | [] => some []
  | v :: r => match zD v, zDs r with
    | some c, some cs => some (c :: cs)
    | _, _ => none

theorem zD_ok {G : Gh} {v : Value} {c : C} (h : zD v = some c) : Cr G c v := by
  unfold zD at h
  split at h <;> first | cases h; done | (cases h; first | exact Dr.int _ _ | exact Dr.bool _ | exact Dr.raw _ rfl | (next s => exact (byteArray_eta s) ▸ (Dr.str (V := G.V) s.data.toList)))
theorem zDs_ok {G : Gh} : ∀ (vs : List Value) (cs : List C), zDs vs = some cs → All2 (Cr G) cs vs
  | [], cs, h => by cases h; exact .nil
  | v :: r, cs, h => by
    unfold zDs at h
    split at h
    · next c cs' h1 h2 => cases h; exact .cons (zD_ok h1) (zDs_ok r _ h2)
    · cases h

/-- A type's zero value, cell by cell. -/
def zeroC (P : Program) (t : TypeId) : Option (List C) :=
  match (P.info? t).bind (·.zero) with
  | some z => zDs z.cells.toList
  | none => none

theorem zeroC_ok {t : TypeId} {zc : List C} (h : zeroC P t = some zc) (G : Gh) (w : World) : ∃ z, (zeroValue t).run P w = .ok z w ∧ All2 (Cr G) zc z.cells.toList ∧ (P.info? t).bind (·.zero) = some z := by
  unfold zeroC at h
  split at h
  · next z hz =>
    refine ⟨z, ?_, zDs_ok _ _ h, hz⟩
    cases hi : P.info? t with
    | none => simp [hi] at hz
    | some i => simp [hi] at hz; simp [zeroValue, typeInfo, hi, hz]
  · cases h

theorem push_box {cx : Cx} {G : Gh} {h : List LB} {w : World} (s : SatH cx G h w) {cs : List C} {vs : List Value} (t : TypeId) (hc : All2 (Cr G) cs vs) :
    SatH cx ⟨G.V, G.g ++ [(.pointer (some ⟨w.heap.size, 0, none⟩), 0)]⟩ (h ++ [.box t cs]) (w.alloc (.cells vs.toArray t)) := by
  obtain ⟨s', hH, hne⟩ := s.alloc (.cells vs.toArray t)
  refine s'.push _ 0 _ ⟨rfl, w.heap.size, vs, rfl, s.below.size, hH, heap_alloc_new w _, hc⟩ fun k hk => ?_
  cases hk
  exact hne

theorem push_row {cx : Cx} {G : Gh} {h : List LB} {w : World} (s : SatH cx G h w) {sz : Nat} {els : List (List D)} {vs : List Value} (t : TypeId) (ver : Nat) (hc : All2 (Dr G.V) els.flatten vs) (hl : ∀ x ∈ els, x.length = sz) (hm : els.length ≤ maxLen) :
    SatH cx ⟨G.V, G.g ++ [(.slice (some ⟨w.heap.size, 0, none⟩) els.length els.length, ver)]⟩ (h ++ [.row t sz els ver]) (w.alloc (.cells vs.toArray t)) := by
  obtain ⟨s', hH, hne⟩ := s.alloc (.cells vs.toArray t)
  have hlen := hc.length
  rw [flat_len els hl] at hlen
  refine s'.push _ ver _ ⟨rfl, vs, ⟨hlen.symm, .inr ⟨w.heap.size, els.length, vs.toArray, rfl, s.below.size, heap_alloc_new w _, Nat.le_refl _, hm, by simpa using hlen.symm, by simp [hlen]⟩⟩, fun b hb => ?_, hc, hl⟩ fun k hk => ?_
  · cases hb
    exact hH
  · cases hk
    exact hne

/-- The frame of a new entry at the end. -/
theorem Sat.pushed {cx : Cx} {G : Gh} {st : St} {a : Act} {w w' : World} (s : Sat cx G st a w) {x : Value × Nat} {lb : LB} (s' : SatH cx ⟨G.V, G.g ++ [x]⟩ (st.heap ++ [lb]) w') {dst : Option Nat} {α : AV} {v : Value} (hr : Ar ⟨G.V, G.g ++ [x]⟩ α v) (hd : dstOk cx.pm.N dst) :
    Sat cx ⟨G.V, G.g ++ [x]⟩ (St.put ⟨st.env, st.heap ++ [lb]⟩ dst α) (a.put dst v) w' :=
  (s.step (gle_push x) s').put hr hd

theorem get_last {α : Type} (l : List α) (x : α) {n : Nat} (h : n = l.length) : (l ++ [x])[n]? = some x := by subst h; simp

variable {pm : Pm} {ops : Array Oper} {rest : List Oper} {st : St} {K : St → Prop} {dst : Option Tmp} {ty : TypeId} {p : String} {af : Array Edge}

theorem AXl.alloc {t : TypeId} {zc : List C} (hz : zeroC P t = some zc) (hd : dstOk pm.N dst) (hn : AXl P pm ops rest (St.put ⟨st.env, st.heap ++ [.box t zc]⟩ dst (.c (.loc st.heap.length 0))) K) :
    AXl P pm ops (⟨dst, .alloc t, ty, p, af, none⟩ :: rest) st K := by
  refine AXl.eff rfl fun cx G a w hp s => ?_
  obtain ⟨z, hr, hc, _⟩ := zeroC_ok hz G w
  refine ⟨.pointer (some ⟨w.heap.size, 0, none⟩), w.alloc (.cells z.cells t), _, _, .inl ?_, s.pushed (α := .c (.loc st.heap.length 0)) (push_box s.h t hc) ⟨w.heap.size, 0, get_last _ _ s.h.len.symm, rfl⟩ (hp ▸ hd), hn⟩
  simp [execOp, Instr.alloc, hr, newVar, newRow]

theorem AXl.box {t : TypeId} {x : Operand} {cs : List C} (hx : avCells (ev pm.Γ st.env x) = some cs) (hd : dstOk pm.N dst) (hn : AXl P pm ops rest (St.put ⟨st.env, st.heap ++ [.box t cs]⟩ dst (.c (.loc st.heap.length 0))) K) :
    AXl P pm ops (⟨dst, .box t x, ty, p, af, none⟩ :: rest) st K := by
  refine AXl.eff rfl fun cx G a w hp s => ?_
  have hc := avCells_ok (hp ▸ hx) (s.ev x)
  refine ⟨.pointer (some ⟨w.heap.size, 0, none⟩), w.alloc (.cells (a.eval x).cells t), _, _, .inl ?_, s.pushed (α := .c (.loc st.heap.length 0)) (push_box s.h t hc) ⟨w.heap.size, 0, get_last _ _ s.h.len.symm, rfl⟩ (hp ▸ hd), hn⟩
  simp [execOp, Instr.box, newVar, newRow]

/-! ### stores -/
def splice {α : Type} (cs : List α) (off : Nat) (xs : List α) : List α := cs.take off ++ xs ++ cs.drop (off + xs.length)

theorem All2.splice {α β : Type} {R : α → β → Prop} {cs : List α} {vs : List β} {xs : List α} {us : List β} (h : All2 R cs vs) (h' : All2 R xs us) (off : Nat) : All2 R (splice cs off xs) (Ax.splice vs off us) := by
  unfold Ax.splice
  rw [h'.length]
  exact ((h.take off).append h').append (h.drop _)

theorem all2_one {G : Gh} {cs : List C} {vs : List Value} (h : All2 (Cr G) cs vs) : ∀ v ∈ vs, v.oneCell' = true := by
  induction h with
  | nil => intro v hv; cases hv
  | cons h t ih => intro v hv; cases hv with | head => exact h.one | tail _ hm => exact ih v hm

theorem run_storeAt {t : TypeId} {n : Nat} (hs : (P.info? t).map (·.size) = some n) {g o : Nat} {te : TypeId} {cur : Array Value} {w : World} (hg : w.heap[g]? = some (.cells cur te (0, 0))) {v : Value} (hv : v.cells.size = n) (h1 : ∀ u ∈ v.cells.toList, u.oneCell' = true) (hle : o + n ≤ cur.size) :
    (Instr.storeAt t (.pointer (some ⟨g, o, none⟩)) v).run P w = .ok () (w.setRow g (splice cur.toList o v.cells.toList).toArray) := by
  have := run_storeCells_at (P := P) g o te v.cells.toList 0 cur w hg (by simp [hv]; omega) h1
  simp only [Nat.add_zero] at this
  simp [Instr.storeAt, Instr.sureAddr, storeVar, run_sizeOf' hs, hv, this, splice]

theorem setRow_ne (w : World) (g k : Nat) (cs : Array Value) (h : k ≠ g) : (w.setRow g cs).heap[k]? = w.heap[k]? := by
  simp only [World.setRow, Array.getElem?_modify]
  rw [if_neg (by omega)]

theorem AXl.store {t : TypeId} {x y : Operand} {i off : Nat} {tb : TypeId} {cs xs : List C} (hx : ev pm.Γ st.env x = .c (.loc i off)) (hi : st.heap[i]? = some (.box tb cs)) (hy : avCells (ev pm.Γ st.env y) = some xs) (hs : (P.info? t).map (·.size) = some xs.length) (hle : off + xs.length ≤ cs.length) (hd : dst = none)
    (hn : AXl P pm ops rest ⟨st.env, st.heap.set i (.box tb (splice cs off xs))⟩ K) : AXl P pm ops (⟨dst, .store t x y, ty, p, af, none⟩ :: rest) st K := by
  subst hd
  refine AXl.eff rfl fun cx G a w hp s => ?_
  subst hp
  have hc := avCells_ok hy (s.ev y)
  obtain ⟨b, n, hg, e1⟩ := (hx ▸ s.ev x : Ar G (.c (.loc i off)) (a.eval x))
  obtain ⟨b', vs, hg', hb1, hb2, hb3, hb4⟩ := box_at s.h hi
  rw [hg] at hg'
  cases hg'
  have hrun := run_storeAt (P := P) hs (o := off) hb3 (v := a.eval y) (by rw [hc.length]; simp) (all2_one hc) (by simpa [← hb4.length] using hle)
  refine ⟨undef, w.setRow b (splice vs.toArray.toList off (a.eval y).cells.toList).toArray, G, ⟨st.env, st.heap.set i (.box tb (splice cs off xs))⟩, .inr ⟨?_, rfl⟩, ⟨?_, s.env, s.N, s.defers⟩, hn⟩
  · simp only [execOp, e1, Sem.run_bind, hrun, Result.andThen_ok, Sem.run_pure]
  · refine s.h.upd hi trivial hg rfl rfl rfl rfl (by simp [World.setRow]) (fun k hk => setRow_ne _ _ _ _ hk) ⟨rfl, b, splice vs (off) (a.eval y).cells.toList, rfl, hb1, hb2, setRow_heap w b _ _ tb (0, 0) hb3, ?_⟩
    exact hb4.splice hc off

theorem flat_set {sz : Nat} : ∀ (els : List (List D)) (k : Nat) (e e' : List D), (∀ x ∈ els, x.length = sz) → els[k]? = some e → e'.length = sz → (els.set k e').flatten = splice els.flatten (k * sz) e'
  | [], k, e, e', _, h, _ => by simp at h
  | x :: r, 0, e, e', hl, h, h' => by
    have hx : x.length = sz := hl x (by simp)
    simp [splice, h', ← hx]
  | x :: r, k + 1, e, e', hl, h, h' => by
    have hx : x.length = sz := hl x (by simp)
    have ih := flat_set r k e e' (fun y hy => hl y (by simp [hy])) (by simpa using h) h'
    simp only [List.set_cons_succ, List.flatten_cons, ih, splice]
    have e1 : (k + 1) * sz = x.length + k * sz := by rw [hx, Nat.add_mul]; omega
    rw [e1, Nat.add_assoc, List.take_length_add_append, List.drop_length_add_append]
    simp

theorem splice_get {α : Type} (l xs : List α) (o i : Nat) (h : o ≤ l.length) : (splice l o xs)[i]? = if i < o then l[i]? else if i < o + xs.length then xs[i - o]? else l[i]? := by
  unfold splice
  by_cases h1 : i < o
  · rw [if_pos h1, List.append_assoc, List.getElem?_append_left (by simp; omega), List.getElem?_take, if_pos h1]
  · rw [if_neg h1, List.append_assoc, List.getElem?_append_right (by simp; omega)]
    have e : (List.take o l).length = o := by simp; omega
    rw [e]
    by_cases h2 : i < o + xs.length
    · rw [if_pos h2, List.getElem?_append_left (by omega)]
    · rw [if_neg h2, List.getElem?_append_right (by omega), List.getElem?_drop]
      congr 1
      omega

theorem splice_len {α : Type} (l xs : List α) (o : Nat) (h : o + xs.length ≤ l.length) : (splice l o xs).length = l.length := by
  unfold splice
  simp
  omega

theorem splice_in {α : Type} (l e xs : List α) (off base : Nat) (h : ∀ j, j < e.length → l[base + j]? = e[j]?) (hb : base + e.length ≤ l.length) (ho : off + xs.length ≤ e.length) :
    splice l base (splice e off xs) = splice l (base + off) xs := by
  apply List.ext_getElem?
  intro i
  have s1 := splice_get l (splice e off xs) base i (by omega)
  have s2 := splice_get l xs (base + off) i (by omega)
  rw [splice_len _ _ _ ho] at s1
  rw [s1, s2]
  by_cases h1 : i < base
  · rw [if_pos h1, if_pos (by omega)]
  · rw [if_neg h1]
    by_cases h2 : i < base + e.length
    · rw [if_pos h2, splice_get _ _ _ _ (by omega)]
      have e1 := h (i - base) (by omega)
      rw [show base + (i - base) = i from by omega] at e1
      by_cases h3 : i < base + off
      · rw [if_pos (by omega), if_pos h3, e1]
      · rw [if_neg (by omega), if_neg h3]
        by_cases h4 : i < base + off + xs.length
        · rw [if_pos (by omega), if_pos h4]
          congr 1
          omega
        · rw [if_neg (by omega), if_neg h4, e1]
    · rw [if_neg h2, if_neg (by omega), if_neg (by omega)]

theorem AXl.store_row {t : TypeId} {x y : Operand} {i ver sz k off : Nat} {te : TypeId} {els : List (List D)} {e ds : List D} (hx : ev pm.Γ st.env x = .c (.rowp i ver sz k off)) (hi : st.heap[i]? = some (.row te sz els ver)) (hk : els[k]? = some e)
    (hy : avCells (ev pm.Γ st.env y) = some (ds.map C.d)) (hs : (P.info? t).map (·.size) = some ds.length) (hle : off + ds.length ≤ e.length) (hd : dst = none)
    (hn : AXl P pm ops rest ⟨st.env, st.heap.set i (.row te sz (els.set k (splice e off ds)) ver)⟩ K) : AXl P pm ops (⟨dst, .store t x y, ty, p, af, none⟩ :: rest) st K := by
  subst hd
  refine AXl.eff rfl fun cx G a w hp s => ?_
  subst hp
  have hc := avCells_ok hy (s.ev y)
  have hcd := all2_dr hc
  obtain ⟨v0, xs, hg, how, hob, hd, hl⟩ := row_at s.h hi
  obtain ⟨_, v0', n', hg', _, hxx⟩ := (hx ▸ s.ev x : Ar G (.c (.rowp i ver sz k off)) (a.eval x))
  rw [hg] at hg'
  cases hg'
  obtain ⟨b, len, cap, rfl, e1⟩ := hxx rfl
  have hel := hl e (List.mem_of_getElem? hk)
  have hklt := getElem?_lt hk
  obtain ⟨hxl, hcase⟩ := how
  rcases hcase with ⟨hcc, _⟩ | ⟨g, cap', cur, hv, hgb, hh, hc1, hc2, hc3, hc4⟩
  · cases hcc
  injection hv with hv hlen' hcap'
  injection hv with hv
  injection hv with hv _ _
  subst hv hlen' hcap'
  have hkk : k * sz + sz ≤ els.length * sz := by
    have : (k + 1) * sz ≤ els.length * sz := Nat.mul_le_mul_right sz (by omega)
    rw [Nat.add_mul] at this; omega
  have hcl : els.length * sz ≤ cap * sz := Nat.mul_le_mul_right sz hc1
  have hrun := run_storeAt (P := P) hs (o := k * sz + off) hh (v := a.eval y) (by have := hcd.length; simpa using this.symm) (all2_one hc) (by rw [hc3]; omega)
  have hel' : (splice e off ds).length = sz := by rw [splice_len _ _ _ hle, hel]
  refine ⟨undef, w.setRow b (splice cur.toList (k * sz + off) (a.eval y).cells.toList).toArray, G, ⟨st.env, st.heap.set i (.row te sz (els.set k (splice e off ds)) ver)⟩, .inr ⟨?_, rfl⟩, ⟨?_, s.env, s.N, s.defers⟩, hn⟩
  · simp only [execOp, e1, Sem.run_bind, hrun, Result.andThen_ok, Sem.run_pure]
  · have hflat : (els.set k (splice e off ds)).flatten = splice els.flatten (k * sz + off) ds := by
      rw [flat_set els k e _ hl hk hel', splice_in]
      · intro j hj
        have := flat_get els hl k e j e[j] hk (List.getElem?_eq_getElem hj)
        rw [this, List.getElem?_eq_getElem hj]
      · rw [flat_len els hl, hel]; exact hkk
      · exact hle
    have hul : (a.eval y).cells.toList.length = ds.length := hcd.length.symm
    have hlx : xs.length = els.length * sz := hxl
    refine s.h.upd hi trivial hg (b := b) rfl rfl rfl rfl (by simp [World.setRow]) (fun k hk => setRow_ne _ _ _ _ hk) ⟨rfl, splice xs (k * sz + off) (a.eval y).cells.toList, ⟨?_, .inr ⟨b, cap, _, ?_, hgb, setRow_heap w b _ _ te (0, 0) hh, by simpa using hc1, hc2, ?_, ?_⟩⟩, hob, ?_, ?_⟩
    · rw [splice_len _ _ _ (by rw [hul, hxl]; omega), hxl, List.length_set]
    · simp
    · have : (splice cur.toList (k * sz + off) (a.eval y).cells.toList).length = cur.toList.length := splice_len _ _ _ (by rw [hul]; exact Nat.le_trans (by omega) (by simp [hc3]; exact hcl : els.length * sz ≤ cur.toList.length))
      simpa [hc3] using this
    · simp only [List.length_set]
      apply List.ext_getElem?
      intro j
      have hs2 := splice_get xs (a.eval y).cells.toList (k * sz + off) j (by rw [hxl]; omega)
      rw [List.getElem?_take, hs2]
      have hcurl : cur.toList.length = cap * sz := by simp [hc3]
      have hsp := splice_get cur.toList (a.eval y).cells.toList (k * sz + off) j (by rw [hcurl]; omega)
      have hx' : ∀ j, xs[j]? = if j < els.length * sz then cur.toList[j]? else none := fun j => by rw [← hc4, List.getElem?_take]
      rw [hx' j, hul]
      rw [hul] at hsp
      split
      · next hj =>
        rw [show (splice cur.toList (k * sz + off) (a.eval y).cells.toList).toArray.toList[j]? = (splice cur.toList (k * sz + off) (a.eval y).cells.toList)[j]? from rfl, hsp]
      · next hj =>
        rw [if_neg (by omega), if_neg (by omega)]
    · rw [hflat]; exact hd.splice hcd _
    · intro x hx
      rcases List.mem_or_eq_of_mem_set hx with h | rfl
      · exact hl x h
      · exact hel'
end Go.Ax

/-
  Composite values, slices made of parts, append, make, and entries that become still. No condition.
-/
namespace Go.Ax
open Go Go.RowKit

variable {P : Program}

/-! ### composite values -/
theorem foldl_set_list (xs : List Value) (off i : Nat) : ∀ (cells : Array Value), off + i + xs.length ≤ cells.size →
    ((xs.zipIdx i).foldl (fun cs (c, j) => cs.setIfInBounds (off + j) c) cells).toList = splice cells.toList (off + i) xs := by
  induction xs generalizing i with
  | nil => intro cells _; simp [splice]
  | cons x xs ih =>
    intro cells hle
    simp only [List.length_cons] at hle
    rw [List.zipIdx_cons, List.foldl_cons, ih (i + 1) _ (by simp; omega)]
    apply List.ext_getElem?
    intro j
    have s1 := splice_get (cells.setIfInBounds (off + i) x).toList xs (off + (i + 1)) j (by simp; omega)
    have s2 := splice_get cells.toList (x :: xs) (off + i) j (by simp; omega)
    rw [s1, s2]
    simp only [Array.toList_setIfInBounds, List.getElem?_set, List.length_cons]
    by_cases h1 : j < off + i
    · rw [if_pos (by omega), if_neg (by omega), if_pos h1]
    · by_cases h2 : j = off + i
      · subst h2
        rw [if_pos (by omega), if_pos rfl, if_pos (by simp; omega), if_neg (by omega), if_pos (by omega)]
        simp
      · rw [if_neg (by omega), if_neg h1]
        by_cases h3 : j < off + i + (xs.length + 1)
        · rw [if_pos (by omega), if_pos h3]
          rw [show j - (off + i) = (j - (off + (i + 1))) + 1 from by omega]
          simp
        · rw [if_neg (by omega), if_neg h3, if_neg (by omega)]

theorem fill_step (place : Nat → Option (Nat × Nat)) (cells : Array Value) (i off size : Nat) (v : Value) (r : List (Nat × Value)) (hp : place i = some (off, size)) (hv : v.cells.size = size) (hle : off + size ≤ cells.size) :
    Instr.fill place cells ((i, v) :: r) = Instr.fill place (splice cells.toList off v.cells.toList).toArray r := by
  have e : (v.cells.zipIdx.foldl (fun cs (c, j) => cs.setIfInBounds (off + j) c) cells) = (splice cells.toList off v.cells.toList).toArray := by
    apply Array.ext'
    have := foldl_set_list v.cells.toList off 0 cells (by simp [hv]; omega)
    rw [Nat.add_zero] at this
    rw [← this, ← Array.foldl_toList]
    simp
  have hc : ¬ ((v.cells.size ≠ size || off + v.cells.size > cells.size) = true) := by simp [hv]; omega
  simp only [Instr.fill, hp]
  rw [if_neg (by simpa using hc)]
  rw [e]

def fillC (place : Nat → Option (Nat × Nat)) (cells : List C) : List (Nat × AV) → Option (List C)
  | [] => some cells
  | (i, α) :: r => match place i, avCells α with
    | some (off, size), some xs => if xs.length = size ∧ off + size ≤ cells.length then fillC place (splice cells off xs) r else none
    | _, _ => none

theorem fill_ok {G : Gh} {place : Nat → Option (Nat × Nat)} : ∀ (parts : List (Nat × AV)) (vals : List (Nat × Value)) (cells cs' : List C) (vs : List Value), All2 (Cr G) cells vs →
    All2 (fun (x : Nat × AV) (y : Nat × Value) => x.1 = y.1 ∧ Ar G x.2 y.2) parts vals → fillC place cells parts = some cs' → ∃ vs', Instr.fill place vs.toArray vals = some vs'.toArray ∧ All2 (Cr G) cs' vs'
  | [], vals, cells, cs', vs, hc, hp, hf => by
    cases hp
    cases hf
    exact ⟨vs, rfl, hc⟩
  | (i, α) :: r, vals, cells, cs', vs, hc, hp, hf => by
    cases hp with
    | @cons _ y _ vals h t =>
      obtain ⟨i', v⟩ := y
      obtain ⟨rfl, hr⟩ := h
      simp only [fillC] at hf
      split at hf
      · next off size xs h1 h2 =>
        split at hf
        · next h3 =>
          have hx := avCells_ok h2 hr
          have hvs : v.cells.size = size := by rw [← h3.1, hx.length]; simp
          obtain ⟨vs', e, hc'⟩ := fill_ok r vals _ cs' _ (hc.splice hx off) t hf
          refine ⟨vs', ?_, hc'⟩
          rw [fill_step place vs.toArray i off size v vals h1 hvs (by simp [← hc.length]; exact h3.2)]
          exact e
        · cases hf
      · cases hf

/-- A struct type: where its fields lie. -/
def plFs (P : Program) : List Field → Option (List (Nat × Nat))
  | [] => some []
  | f :: r => match (P.info? f.type).map (·.size), plFs P r with
    | some n, some l => some ((f.offset, n) :: l)
    | _, _ => none
def plT (P : Program) (t : TypeId) : Option (List (Nat × Nat)) :=
  match P.underlying t with
  | some (.struct fs) => plFs P fs.toList
  | some (.array n e) => ((P.info? e).map (·.size)).map fun sz => (List.range n).map fun i => (i * sz, sz)
  | _ => none
theorem fillC_mono {p1 p2 : Nat → Option (Nat × Nat)} (hp : ∀ i q, p1 i = some q → p2 i = some q) : ∀ (parts : List (Nat × AV)) (cells cs : List C), fillC p1 cells parts = some cs → fillC p2 cells parts = some cs
  | [], cells, cs, h => h
  | (i, α) :: r, cells, cs, h => by
    simp only [fillC] at h ⊢
    split at h
    · next off size xs h1 h2 =>
      rw [hp _ _ h1, h2]
      simp only
      split at h
      · next hc => rw [if_pos hc]; exact fillC_mono hp r _ _ h
      · cases h
    · cases h

theorem run_places : ∀ (fs : List Field) (pl : List (Nat × Nat)) (w : World), plFs P fs = some pl →
    (fs.mapM (m := Sem) fun f => do pure (f.offset, ← sizeOf f.type)).run P w = .ok pl w
  | [], pl, w, h => by
    cases h
    rfl
  | f :: fs, pl, w, h => by
    simp only [plFs] at h
    split at h
    · next n l h1 h2 =>
      cases h
      have ih := run_places fs l w h2
      have hsz := run_sizeOf' (P := P) h1 w
      simp only [List.mapM_cons, Sem.run_bind, hsz, Result.andThen_ok, Sem.run_pure, ih]
    · cases h

theorem parts_ok {G : Gh} {ρ : Operand → AV} {a : Act} : ∀ (ps : List (Nat × Operand)), (∀ x ∈ ps.map (·.2), Ar G (ρ x) (a.eval x)) → All2 (fun (x : Nat × AV) (y : Nat × Value) => x.1 = y.1 ∧ Ar G x.2 y.2) (ps.map fun x => (x.1, ρ x.2)) (ps.map fun x => (x.1, a.eval x.2))
  | [], _ => .nil
  | p :: ps, h => .cons ⟨rfl, h _ (by simp)⟩ (parts_ok ps fun x hx => h x (by simp at hx ⊢; exact .inr hx))

variable {h : List LB} {ρ : Operand → AV} {dst : Option Tmp} {ty : TypeId} {p : String} {af : Array Edge} {gd : Option (Nat × Bool)}

theorem s_build (t : TypeId) (ps : List (Nat × Operand)) {pl : List (Nat × Nat)} {zc cs : List C} (hp : plT P t = some pl) (hz : zeroC P t = some zc) (hf : fillC (pl[·]?) zc (ps.map fun x => (x.1, ρ x.2)) = some cs) :
    Still P h ⟨dst, .build t ps.toArray, ty, p, af, gd⟩ ρ (.agg cs) := by
  intro cx G w a s ho
  obtain ⟨z, hr, hc, _⟩ := zeroC_ok hz G w
  unfold plT at hp
  split at hp
  · next fs hu =>
    obtain ⟨vs', e, hc'⟩ := fill_ok _ _ _ cs _ hc (parts_ok (G := G) (a := a) ps fun x hx => ho x (by simpa [Op.operands] using hx)) hf
    have h1 := run_places fs.toList pl w hp
    refine ⟨.agg vs'.toArray, ?_, vs', rfl, hc'⟩
    have hm : (fs.mapM (m := Sem) fun f => do pure (f.offset, ← sizeOf f.type)).run P w = .ok pl.toArray w := by
      rw [Array.mapM_eq_mapM_toList]
      simp only [Sem.run_map, h1, Result.andThen_ok]
    have e' : Instr.fill (fun i => pl.toArray[i]?) z.cells (List.map (fun x => (x.1, a.eval x.2)) ps) = some vs'.toArray := by
      simpa using e
    simp only [execOp, Instr.build, Sem.run_bind, hr, Result.andThen_ok, run_underlying hu, hm, List.map_toArray]
    simp only [e']
    simp
  · next n el hu =>
    cases hi : (P.info? el).map (·.size) with
    | none => rw [hi] at hp; cases hp
    | some sz =>
      rw [hi] at hp
      cases hp
      have hf2 := fillC_mono (p2 := fun i => some (i * sz, sz)) (fun i q hq => by
        rw [List.getElem?_map] at hq
        cases hr : (List.range n)[i]? with
        | none => rw [hr] at hq; cases hq
        | some j =>
          rw [hr] at hq
          have : j = i := by
            have hlt := getElem?_lt hr
            rw [List.getElem?_range (by simpa using hlt)] at hr
            cases hr; rfl
          subst this
          exact hq) _ _ _ hf
      obtain ⟨vs', e, hc'⟩ := fill_ok _ _ _ cs _ hc (parts_ok (G := G) (a := a) ps fun x hx => ho x (by simpa [Op.operands] using hx)) hf2
      refine ⟨.agg vs'.toArray, ?_, vs', rfl, hc'⟩
      have hsz := run_sizeOf' (P := P) hi w
      have e' : Instr.fill (fun i => some (i * sz, sz)) z.cells (List.map (fun x => (x.1, a.eval x.2)) ps) = some vs'.toArray := by
        simpa using e
      simp only [execOp, Instr.build, Sem.run_bind, hr, Result.andThen_ok, run_underlying hu, hsz, List.map_toArray]
      simp only [e']
      simp
  · cases hp
end Go.Ax

/-
  Slices made of parts, append, make, and entries that become still. No condition.
-/
namespace Go.Ax
open Go Go.RowKit

variable {P : Program}

def toDs : List C → Option (List D)
  | [] => some []
  | .d x :: r => match toDs r with
    | some l => some (x :: l)
    | none => none
  | _ :: _ => none
theorem toDs_ok : ∀ (cs : List C) (ds : List D), toDs cs = some ds → cs = ds.map C.d
  | [], ds, h => by cases h; rfl
  | c :: r, ds, h => by
    cases c <;> simp only [toDs, reduceCtorEq] at h
    split at h
    · next l hl => cases h; simp [toDs_ok r l hl]
    · cases h
theorem toDs_map (ds : List D) : toDs (ds.map C.d) = some ds := by
  induction ds with
  | nil => rfl
  | cons d ds ih => simp [toDs, ih]

/-- The parts of a slice literal, one for each place, in order. -/
def partsE (sz : Nat) : List (Nat × AV) → Nat → Option (List (List D))
  | [], _ => some []
  | (i, α) :: r, k => match avCells α with
    | some cs => match toDs cs, partsE sz r (k + 1) with
      | some ds, some l => if i = k ∧ ds.length = sz then some (ds :: l) else none
      | _, _ => none
    | none => none

theorem partsE_ok {G : Gh} {sz : Nat} : ∀ (parts : List (Nat × AV)) (vals : List (Nat × Value)) (k : Nat) (els : List (List D)) (cells : List Value),
    All2 (fun (x : Nat × AV) (y : Nat × Value) => x.1 = y.1 ∧ Ar G x.2 y.2) parts vals → partsE sz parts k = some els → cells.length = (k + els.length) * sz →
    ∃ us, Instr.fill (fun i => some (i * sz, sz)) cells.toArray vals = some (cells.take (k * sz) ++ us).toArray ∧ All2 (Dr G.V) els.flatten us ∧ (∀ e ∈ els, e.length = sz) ∧ els.length = parts.length
  | [], vals, k, els, cells, hp, hf, hl => by
    cases hp
    cases hf
    simp only [List.length_nil, Nat.add_zero] at hl
    exact ⟨[], by simp [Instr.fill, ← hl], .nil, by simp, rfl⟩
  | (i, α) :: r, vals, k, els, cells, hp, hf, hl => by
    cases hp with
    | @cons _ y _ vals h t =>
      obtain ⟨i', v⟩ := y
      obtain ⟨rfl, hr⟩ := h
      simp only [partsE] at hf
      split at hf
      · next cs h1 =>
        split at hf
        · next ds l h2 h3 =>
          split at hf
          · next h4 =>
            cases hf
            obtain ⟨rfl, hds⟩ := h4
            have hx := avCells_ok h1 hr
            rw [toDs_ok _ _ h2] at hx
            have hxd := all2_dr hx
            have hvs : v.cells.size = sz := by rw [← hds, hxd.length]; simp
            simp only [List.length_cons] at hl
            have hl' : cells.length = (i + 1 + l.length) * sz := by rw [hl]; congr 1; omega
            have hsz : i * sz + sz ≤ cells.length := by
              rw [hl', show i * sz + sz = (i + 1) * sz from by rw [Nat.add_mul]; omega]
              exact Nat.mul_le_mul_right sz (by omega)
            have hs := splice_len cells v.cells.toList (i * sz) (by simp [hvs]; exact hsz)
            obtain ⟨us, e, hc', hl1, hl2⟩ := partsE_ok r vals (i + 1) l (splice cells (i * sz) v.cells.toList) t h3 (by rw [hs, hl'])
            refine ⟨v.cells.toList ++ us, ?_, by simpa using hxd.append hc', fun e he => ?_, by simp [hl2]⟩
            · rw [fill_step _ cells.toArray i (i * sz) sz v vals rfl hvs (by simpa using hsz)]
              rw [e]
              congr 2
              have : (splice cells (i * sz) v.cells.toList).take ((i + 1) * sz) = cells.take (i * sz) ++ v.cells.toList := by
                unfold splice
                rw [List.take_append_of_le_length (by simp [hvs, Nat.add_mul]; omega), List.take_of_length_le (by simp [hvs, Nat.add_mul]; omega)]
              rw [this, List.append_assoc]
            · cases he with
              | head => exact hds
              | tail _ hm => exact hl1 e hm
          · cases hf
        · cases hf
      · cases hf

/-- A slice type over an element type whose zero value is known: the element type, its cells, its bytes. -/
def apT (P : Program) (t : TypeId) : Option (TypeId × Nat × Nat) :=
  match P.underlying t with
  | some (.slice e) => match P.info? e with
    | some i => match i.zero with
      | some z => if z.cells.size = i.size ∧ 0 < i.size then some (e, i.size, i.bytes) else none
      | none => none
    | none => none
  | _ => none

theorem apT_some {t te : TypeId} {sz by_ : Nat} (h : apT P t = some (te, sz, by_)) : P.underlying t = some (.slice te) ∧ 0 < sz ∧ ∃ i z, P.info? te = some i ∧ i.zero = some z ∧ i.size = sz ∧ i.bytes = by_ ∧ z.cells.size = sz := by
  unfold apT at h
  split at h
  · next e hu =>
    split at h
    · next i hi =>
      split at h
      · next z hz =>
        split at h
        · next hc => cases h; exact ⟨hu, hc.2, i, z, hi, hz, rfl, rfl, hc.1⟩
        · cases h
      · cases h
    · cases h
  · cases h

theorem run_buildSlice {t te : TypeId} {sz by_ n : Nat} (ht : apT P t = some (te, sz, by_)) {G : Gh} {ρ : Operand → AV} {a : Act} (ps : List (Nat × Operand)) {els : List (List D)} (hp : partsE sz (ps.map fun x => (x.1, ρ x.2)) 0 = some els) (hn : ps.length = n) (hsm : n * sz ≤ 16777216)
    (ho : ∀ x ∈ ps.map (·.2), Ar G (ρ x) (a.eval x)) (w : World) :
    ∃ us : List Value, All2 (Dr G.V) els.flatten us ∧ (∀ e ∈ els, e.length = sz) ∧ els.length = n ∧
      (Instr.buildSlice t n (ps.map fun x => (x.1, a.eval x.2)).toArray).run P w = .ok (.slice (some ⟨w.heap.size, 0, none⟩) n n) (w.alloc (.cells us.toArray te)) := by
  obtain ⟨hu, hpos, i, z, hi, hz, h1, h2, h3⟩ := apT_some ht
  have hsz : (P.info? te).map (·.size) = some sz := by simp [hi, h1]
  have helen : els.length = n := by
    obtain ⟨_, _, _, _, h⟩ := partsE_ok (G := G) (sz := sz) _ _ 0 els (List.replicate (els.length * sz) undef) (parts_ok (G := G) (a := a) ps ho) hp (by simp)
    rw [h]; simp [hn]
  obtain ⟨zr, hzr⟩ : ∃ zr : Array Value, zr = if n * sz = 0 then #[] else z.cells := ⟨_, rfl⟩
  obtain ⟨zs, hzs⟩ : ∃ zs : Array Value, zs = (Array.range (n * sz)).map (zr[· % zr.size]!) := ⟨_, rfl⟩
  obtain ⟨us, e, hc, hl1, hl2⟩ := partsE_ok (G := G) (sz := sz) _ _ 0 els zs.toList (parts_ok (G := G) (a := a) ps ho) hp (by simp [hzs, helen])
  simp only [Nat.zero_mul, List.take_zero, List.nil_append] at e
  refine ⟨us, hc, hl1, helen, ?_⟩
  have hlim : ¬ (n * sz > 2 ^ 24) := by omega
  have e' : Instr.fill (fun i => some (i * sz, sz)) zs (List.map (fun x => (x.1, a.eval x.2)) ps) = some us.toArray := by simpa using e
  have hzv : (zeroValue te).run P w = .ok z w := by simp [zeroValue, typeInfo, hi, hz]
  have e'' : ∀ zq : Array Value, zq = zr → Instr.fill (fun i => some (i * sz, sz)) ((Array.range (n * sz)).map (zq[· % zq.size]!)) (List.map (fun x => (x.1, a.eval x.2)) ps) = some us.toArray := fun zq hq => by
    rw [hq, ← hzs]; exact e'
  by_cases h0 : n * sz = 0
  · have := e'' #[] (by rw [hzr, if_pos h0])
    simp only [Instr.buildSlice, Sem.run_bind, run_underlying hu, Result.andThen_ok, run_sizeOf' hsz, if_neg hlim, Sem.run_pure, if_pos h0, this]
    simp [newRow]
  · have := e'' z.cells (by rw [hzr, if_neg h0])
    simp only [Instr.buildSlice, Sem.run_bind, run_underlying hu, Result.andThen_ok, run_sizeOf' hsz, if_neg hlim, Sem.run_pure, if_neg h0, hzv, this]
    simp [newRow]

variable {pm : Pm} {ops : Array Oper} {rest : List Oper} {st : St} {K : St → Prop} {dst : Option Tmp} {ty : TypeId} {p : String} {af : Array Edge} {gd : Option (Nat × Bool)} {h : List LB} {ρ : Operand → AV}

/-- A slice literal that nobody writes later. -/
theorem q_buildSlice (t : TypeId) (n : Nat) (ps : List (Nat × Operand)) {te : TypeId} {sz by_ : Nat} {els : List (List D)} (ht : apT P t = some (te, sz, by_)) (hp : partsE sz (ps.map fun x => (x.1, ρ x.2)) 0 = some els) (hn : ps.length = n) (hsm : n * sz ≤ 16777216) :
    Qt P pm h ⟨dst, .buildSlice t n ps.toArray, ty, p, af, gd⟩ ρ (.c (.d (.lst sz els))) := by
  intro cx G w a _ s ho next Q hnext
  obtain ⟨us, hc, hl, hen, hrun⟩ := run_buildSlice (P := P) ht ps hp hn hsm (fun x hx => ho x (by simpa [Op.operands] using hx)) w
  obtain ⟨s', hH, hne⟩ := s.alloc (.cells us.toArray te)
  have hr : (execOp a.eval ⟨dst, .buildSlice t n ps.toArray, ty, p, af, gd⟩).run P w = .ok (.value (.slice (some ⟨w.heap.size, 0, none⟩) n n)) (w.alloc (.cells us.toArray te)) := by
    simp only [execOp, List.map_toArray, Sem.run_bind, hrun, Result.andThen_ok, Sem.run_pure]
  unfold Oper.wp
  rw [hr]
  let V' : Vw := ⟨fun b => if b = w.heap.size then some (.cells us.toArray te) else G.V.H b, fun b => G.V.I b ∨ b = w.heap.size⟩
  have hV : G.V.Le V' := ⟨fun b o e => by
    have : b ≠ w.heap.size := fun e' => by rw [e', hH] at e; cases e
    simp only [V', if_neg this, e], fun b hb => .inl hb⟩
  have hG : GLe G.g.length G ⟨V', G.g⟩ := ⟨hV, fun i v n _ e => ⟨v, n, e, Nat.le_refl _, fun _ => rfl, fun _ => ⟨rfl, rfl⟩⟩⟩
  refine hnext _ _ ⟨V', G.g⟩ hG ⟨s'.len, fun i b e hi he => ?_, s'.sep, fun b o hb => ?_, fun b hb => ?_, s'.below, s'.ext.trans (hG.all _), fun q hq => (s'.glob q hq).grow hG, s'.sz⟩ ?_
  · have h0 := s'.ent i b e hi he
    refine Lr.mono' hG ?_ h0
    intro k hlv hk
    have := hne i b e hi hlv he
    have hkn : k ≠ w.heap.size := fun e' => this (by rw [hk, e'])
    simp only [V', if_neg hkn]
    exact (h0.blk hlv hk).2.2
  · simp only [V'] at hb
    split at hb
    · next e => cases hb; rw [e]; exact heap_alloc_new w _
    · exact s'.view b o hb
  · rcases hb with hb | rfl
    · obtain ⟨⟨o, h1⟩, h2⟩ := s'.imm b hb
      exact ⟨⟨o, hV.H b o h1⟩, h2⟩
    · exact ⟨⟨.cells us.toArray te, by simp [V']⟩, .inr s.below.size⟩
  · show Dr V' _ _
    have hmax : n ≤ maxLen := by
      have := (apT_some ht).2.1
      have : n ≤ n * sz := Nat.le_mul_of_pos_right n this
      unfold maxLen; omega
    have key : Dr V' (.lst sz els) (.slice (some ⟨w.heap.size, 0, none⟩) els.length n) := by
      refine .lst sz els _ n (fun i j => us.getD (i * sz + j) undef) (by omega) hmax hl (fun hn => ⟨_, rfl, .inr rfl, fun i e j c h1 h2 => ?_⟩) (fun i e j c h1 h2 => ?_)
      · obtain ⟨u, hu, _⟩ := hc.get _ _ (flat_get els hl i e j c h1 h2)
        rw [add_plain]
        simp [cellIn, V', hu]
      · obtain ⟨u, hu, hd⟩ := hc.get _ _ (flat_get els hl i e j c h1 h2)
        simpa [hu] using hd.mono hV
    rw [hen] at key
    exact key

/-- A slice literal of the call's own. -/
theorem AXl.buildSlice {t : TypeId} {n : Nat} {ps : List (Nat × Operand)} {te : TypeId} {sz by_ : Nat} {els : List (List D)} (ht : apT P t = some (te, sz, by_)) (hp : partsE sz (ps.map fun x => (x.1, ev pm.Γ st.env x.2)) 0 = some els) (hn : ps.length = n) (hsm : n * sz ≤ 16777216) (hd : dstOk pm.N dst)
    (hk : AXl P pm ops rest (St.put ⟨st.env, st.heap ++ [.row te sz els 0]⟩ dst (.c (.own st.heap.length 0))) K) : AXl P pm ops (⟨dst, .buildSlice t n ps.toArray, ty, p, af, none⟩ :: rest) st K := by
  refine AXl.eff rfl fun cx G a w hp' s => ?_
  subst hp'
  obtain ⟨us, hc, hl, hen, hrun⟩ := run_buildSlice (P := P) ht ps hp hn hsm (fun x _ => s.ev x) w
  have hmax : els.length ≤ maxLen := by
    have := (apT_some ht).2.1
    have : n ≤ n * sz := Nat.le_mul_of_pos_right n this
    unfold maxLen; omega
  have hpr := push_row s.h te 0 hc hl hmax
  rw [hen] at hpr
  refine ⟨.slice (some ⟨w.heap.size, 0, none⟩) n n, w.alloc (.cells us.toArray te), _, _, .inl ?_, s.pushed (α := .c (.own st.heap.length 0)) hpr ⟨rfl, _, 0, get_last _ _ s.h.len.symm, Nat.le_refl _, fun _ => rfl⟩ hd, hk⟩
  simp only [execOp, List.map_toArray, Sem.run_bind, hrun, Result.andThen_ok, Sem.run_pure]
end Go.Ax

/-
  Append, make, nil slices taken as rows of the call's own, and rows that become still. No condition.
-/
namespace Go.Ax
open Go Go.RowKit

variable {P : Program}

theorem run_append_of_nil (w : World) (base : Nat) (t ty e : TypeId) (i : TypeInfo) (size : Nat) (ht : P.underlying t = some (.slice e)) (hi : P.info? e = some i)
    (v : Value) (n : Nat) (xs : List Value) (hown : w.ownsRow base e size v n xs) (c : Nat) : (Builtin.append_ #[t, t] ty #[v, .slice none 0 c]).run P w = .ok v w := by
  rcases hown.2 with ⟨rfl, rfl⟩ | ⟨g, cap, cur, rfl, _, _, hnc, _⟩
  · simp [Builtin.append_, run_underlying ht, sizeOf, typeInfo, hi, Builtin.lenOf, Builtin.firstCells]
  · simp [Builtin.append_, run_underlying ht, sizeOf, typeInfo, hi, Builtin.lenOf, Builtin.firstCells, hnc, storeCells]

/-- A slice's cells in a row. -/
theorem SlAt.row {V : Vw} {w : World} {sz : Nat} {els : List (List D)} {v : Value} (hs : 0 < sz) (h : SlAt V w sz els v) :
    ∃ (A : Option Addr) (cap : Nat) (xs : List Value), v = .slice A els.length cap ∧ All2 (Dr V) els.flatten xs ∧ xs.length = els.length * sz ∧ (els ≠ [] → ∃ ad, A = some ad ∧ ∀ j u, xs[j]? = some u → w.cell? (ad.add j) = some u) := by
  obtain ⟨A, cap, u, rfl, _, _, hl, ha, hu⟩ := h.form
  have hlen := flat_len els hl
  have hget : ∀ j, j < els.length * sz → ∃ e c, els[j / sz]? = some e ∧ e[j % sz]? = some c ∧ els.flatten[j]? = some c := fun j hj => by
    have h1 : j / sz < els.length := Nat.div_lt_of_lt_mul (by rw [Nat.mul_comm]; exact hj)
    have he : els[j / sz].length = sz := hl _ (List.getElem_mem h1)
    have h2 : j % sz < els[j / sz].length := by rw [he]; exact Nat.mod_lt _ hs
    refine ⟨_, _, List.getElem?_eq_getElem h1, List.getElem?_eq_getElem h2, ?_⟩
    have := flat_get els hl (j / sz) _ (j % sz) _ (List.getElem?_eq_getElem h1) (List.getElem?_eq_getElem h2)
    rwa [show j / sz * sz + j % sz = j from by rw [Nat.mul_comm]; exact Nat.div_add_mod j sz] at this
  refine ⟨A, cap, (List.range (els.length * sz)).map fun j => u (j / sz) (j % sz), rfl, All2.of_get (by simp [hlen]) fun j a b h1 h2 => ?_, by simp, fun hn => ?_⟩
  · have hj : j < els.length * sz := by have := getElem?_lt h1; omega
    obtain ⟨e, c, e1, e2, e3⟩ := hget j hj
    rw [e3] at h1
    cases h1
    simp only [List.getElem?_map, List.getElem?_range hj, Option.map_some, Option.some.injEq] at h2
    subst h2
    exact hu _ _ _ _ e1 e2
  · obtain ⟨ad, rfl, hc⟩ := ha hn
    refine ⟨ad, rfl, fun j x hx => ?_⟩
    have hj : j < els.length * sz := by have := getElem?_lt hx; simpa using this
    obtain ⟨e, c, e1, e2, _⟩ := hget j hj
    simp only [List.getElem?_map, List.getElem?_range hj, Option.map_some, Option.some.injEq] at hx
    subst hx
    have := hc _ _ _ _ e1 e2
    rwa [show j / sz * sz + j % sz = j from by rw [Nat.mul_comm]; exact Nat.div_add_mod j sz] at this

variable {pm : Pm} {ops : Array Oper} {rest : List Oper} {st : St} {K : St → Prop} {dst : Option Tmp} {ty : TypeId} {p : String} {af : Array Edge} {gd : Option (Nat × Bool)} {h : List LB} {ρ : Operand → AV}

theorem row_form {w : World} {base : Nat} {t : TypeId} {sz : Nat} {v : Value} {n : Nat} {xs : List Value} (h : w.ownsRow base t sz v n xs) :
    (∀ q, v ≠ .pointer q) ∧ (∀ k, blkOf v = some k → v.ownBlock = some k) ∧ (∀ k, v.ownBlock = some k → blkOf v = some k) ∧ v.oneCell' = true := by
  obtain ⟨_, ⟨rfl, _⟩ | ⟨g, cap, cur, rfl, _⟩⟩ := h
  · exact ⟨fun q => (by simp), fun k h => (by cases h), fun k h => (by cases h), rfl⟩
  · exact ⟨fun q => (by simp), fun k h => h, fun k h => h, rfl⟩

theorem AXl.append0 {t : TypeId} {x y : Operand} {te : TypeId} {sz by_ i ver : Nat} {els news : List (List D)} (ht : apT P t = some (te, sz, by_)) (hx : ev pm.Γ st.env x = .c (.own i ver)) (hi : st.heap[i]? = some (.row te sz els ver))
    (hy : ∀ (cx : Cx) (G : Gh) (a : Act) (w : World), cx.pm = pm → Sat cx G st a w → SlAt G.V w sz news (a.eval y)) (hb : (els.length + news.length) * by_ ≤ 140737488355328) (hm : els.length + news.length ≤ 4294967296) (hd : dstOk pm.N dst)
    (hk : AXl P pm ops rest (St.put ⟨st.env, st.heap.set i (.row te sz (els ++ news) (ver + 1))⟩ dst (.c (.own i (ver + 1)))) K) :
    AXl P pm ops (⟨dst, .call { callee := .builtin .append, args := #[x, y], argTypes := #[t, t] }, ty, p, af, none⟩ :: rest) st K := by
  refine AXl.eff rfl fun cx G a w hp s => ?_
  subst hp
  obtain ⟨hu, hpos, ii, z, hii, hz, h1, h2, h3⟩ := apT_some ht
  obtain ⟨v, xs, hg, how, hob, hdr, hl⟩ := row_at s.h hi
  obtain ⟨_, v0, n', hg', _, hxx⟩ := (hx ▸ s.ev x : Ar G (.c (.own i ver)) (a.eval x))
  rw [hg] at hg'
  cases hg'
  have e1 := hxx rfl
  have hsl := hy cx G a w rfl s
  obtain ⟨A, cap, ys, e2, hys, hyl, hyc⟩ := hsl.row hpos
  have hlnews : ∀ e ∈ news, e.length = sz := by obtain ⟨_, _, _, _, _, _, hl, _⟩ := hsl.form; exact hl
  have hrun : ∃ v' w', (Builtin.append_ #[t, t] ty #[v, .slice A news.length cap]).run P w = .ok v' w' ∧ w'.ownsRow cx.w0.heap.size te sz v' (els.length + news.length) (xs ++ ys) ∧ w.grownBy w' v.ownBlock ∧ (v'.ownBlock = v.ownBlock ∨ v'.ownBlock = some w.heap.size) := by
    by_cases hn : news = []
    · subst hn
      have hys0 : ys = [] := List.eq_nil_of_length_eq_zero (by simpa using hyl)
      subst hys0
      cases A with
      | none => exact ⟨v, w, run_append_of_nil w _ t ty te ii sz hu hii v _ xs how cap, by simpa using how, World.grownBy.refl w _, .inl rfl⟩
      | some ad =>
        obtain ⟨v', w', q1, q2, q3, _, q5⟩ := run_append_own_at (P := P) w cx.w0.heap.size t ty te ii z sz by_ hu hii hz h1 h2 h3 hpos v els.length xs how ad 0 cap [] (by simp) (by simp) (by simp) (by unfold maxLen; simp at hm; omega) (by simpa using hb) s.h.below.size
        exact ⟨v', w', q1, by simpa using q2, q3, q5⟩
    · obtain ⟨ad, rfl, hc⟩ := hyc hn
      have h1c : ∀ u ∈ ys, u.oneCell' = true := fun u hu => by
        obtain ⟨j, hj, e⟩ := List.mem_iff_getElem.1 hu
        obtain ⟨d, _, hd⟩ := hys.getR j u (by rw [List.getElem?_eq_getElem hj, e])
        exact hd.one
      obtain ⟨v', w', q1, q2, q3, _, q5⟩ := run_append_own_at (P := P) w cx.w0.heap.size t ty te ii z sz by_ hu hii hz h1 h2 h3 hpos v els.length xs how ad news.length cap ys hyl hc h1c (by unfold maxLen; omega) hb s.h.below.size
      exact ⟨v', w', q1, q2, q3, q5⟩
  obtain ⟨v', w', hr, how', hgr, hat⟩ := hrun
  have f1 := row_form how
  have f2 := row_form how'
  have hHnone : G.V.H w.heap.size = none := by
    cases e : G.V.H w.heap.size with
    | none => rfl
    | some o => have := heap_lt (s.h.view _ _ e); omega
  have hL : ∀ G' : Gh, G'.V = G.V → Lr G' w' cx.w0.heap.size (.row te sz (els ++ news) (ver + 1)) (v', ver + 1) := fun G' hV => by
    refine ⟨rfl, xs ++ ys, by simpa using how', fun b hb => ?_, by rw [hV, List.flatten_append]; exact hdr.append hys, fun e he => ?_⟩
    · rw [hV]
      rcases hat with e | e
      · exact hob b (by rw [← e]; exact hb)
      · simp only at hb
        rw [e] at hb; cases hb; exact hHnone
    · rcases List.mem_append.1 he with h | h
      · exact hl e h
      · exact hlnews e h
  obtain ⟨hG, s'⟩ := s.h.move (w' := w') (v' := v') (n' := ver + 1) (lb' := .row te sz (els ++ news) (ver + 1)) hi trivial hg (by omega) f1.1 f1.2.1 f2.2.1 hgr hat f1.2.2.1 hL
  refine ⟨v', w', _, _, .inl ?_, (s.step hG s').put (α := .c (.own i (ver + 1))) ⟨f2.2.2.2, v', ver + 1, by simp [getElem?_lt hg], Nat.le_refl _, fun _ => rfl⟩ hd, hk⟩
  simp [execOp, resolve, invoke, builtin, e1, e2, hr]

theorem slAt_nil (V : Vw) (w : World) (sz : Nat) : SlAt V w sz [] (.slice none 0 0) := ⟨none, 0, fun _ _ => undef, rfl, Nat.le_refl _, Nat.zero_le _, by simp, by simp, by simp⟩
/-- What a slice's elements are, nil taken as empty. -/
def elsOfN (sz : Nat) (h : List LB) : AV → Option (Nat × List (List D))
  | .c (.d (.raw (.slice none 0 0))) => some (sz, [])
  | α => elsOf h α
theorem slAt_ofN {cx : Cx} {G : Gh} {h : List LB} {w : World} (s : SatH cx G h w) {α : AV} {v : Value} {sz sz' : Nat} {els : List (List D)} (hα : elsOfN sz' h α = some (sz, els)) (hv : Ar G α v) : SlAt G.V w sz els v := by
  unfold elsOfN at hα
  split at hα
  · cases hα
    rw [ar_raw hv]; exact slAt_nil _ _ _
  · exact slAt_of s hα hv
theorem AXl.append {t : TypeId} {x y : Operand} {te : TypeId} {sz by_ i ver : Nat} {els news : List (List D)} (ht : apT P t = some (te, sz, by_)) (hx : ev pm.Γ st.env x = .c (.own i ver)) (hi : st.heap[i]? = some (.row te sz els ver))
    (hy : elsOfN sz st.heap (ev pm.Γ st.env y) = some (sz, news)) (hb : (els.length + news.length) * by_ ≤ 140737488355328) (hm : els.length + news.length ≤ 4294967296) (hd : dstOk pm.N dst)
    (hk : AXl P pm ops rest (St.put ⟨st.env, st.heap.set i (.row te sz (els ++ news) (ver + 1))⟩ dst (.c (.own i (ver + 1)))) K) :
    AXl P pm ops (⟨dst, .call { callee := .builtin .append, args := #[x, y], argTypes := #[t, t] }, ty, p, af, none⟩ :: rest) st K :=
  AXl.append0 ht hx hi (fun cx G a w hp s => slAt_ofN s.h hy (by rw [← hp]; exact s.ev y)) hb hm hd hk

/-- A nil slice in a slot, taken as an empty row of the call's own. -/
theorem Sat.nilrow {cx : Cx} {G : Gh} {a : Act} {w : World} (s : Sat cx G st a w) (k : Nat) (te : TypeId) (sz : Nat) (hk : lk k st.env = .c (.d (.raw (.slice none 0 0)))) :
    Sat cx ⟨G.V, G.g ++ [(.slice none 0 0, 0)]⟩ ⟨pute k (.c (.own st.heap.length 0)) st.env, st.heap ++ [.row te sz [] 0]⟩ a w := by
  have s' := s.h.push (.slice none 0 0) 0 (.row te sz [] 0) ⟨rfl, [], World.ownsRow_nil w _ te sz, fun b hb => (by cases hb), .nil, by simp⟩ (fun k hk => by cases hk)
  refine ⟨s', fun t => ?_, s.N, s.defers⟩
  rw [lk_put]
  by_cases hkt : k = t
  · subst hkt
    rw [if_pos rfl]
    have hv := ar_raw (hk ▸ s.ev (.tmp k) : Ar G (.c (.d (.raw (.slice none 0 0)))) (a.tmps.getD k undef))
    rw [hv]
    exact ⟨rfl, _, 0, get_last _ _ s.h.len.symm, Nat.le_refl _, fun _ => rfl⟩
  · rw [if_neg hkt]; exact (s.env t).grow (gle_push _)

theorem AXl.nilrow (k : Nat) (te : TypeId) (sz : Nat) (hk : lk k st.env = .c (.d (.raw (.slice none 0 0)))) (h : AXl P pm ops rest ⟨pute k (.c (.own st.heap.length 0)) st.env, st.heap ++ [.row te sz [] 0]⟩ K) : AXl P pm ops rest st K :=
  fun cx G a w Q hp s hQ => h cx _ a w Q hp (s.nilrow k te sz hk) hQ
theorem AXc.nilrow {c : Code} {Q : Exit → St → Prop} (k : Nat) (te : TypeId) (sz : Nat) (hk : lk k st.env = .c (.d (.raw (.slice none 0 0)))) (h : AXc P pm c ⟨pute k (.c (.own st.heap.length 0)) st.env, st.heap ++ [.row te sz [] 0]⟩ Q) : AXc P pm c st Q :=
  fun cx G a w hp s => h cx _ a w hp (s.nilrow k te sz hk)

/-! ### make -/
theorem AXl.make {t : TypeId} {x y : Operand} {te : TypeId} {sz by_ n : Nat} {k k' : IntKind} {zc : List C} {zd : List D} (ht : apT P t = some (te, sz, by_)) (hz : zeroC P te = some zc) (hzd : toDs zc = some zd) (hx : ev pm.Γ st.env x = .c (.d (.int k (n : Int)))) (hy : ev pm.Γ st.env y = .c (.d (.int k' (n : Int)))) (hb : n * by_ ≤ 140737488355328) (hm : n ≤ 4294967296) (hd : dstOk pm.N dst)
    (hk : AXl P pm ops rest (St.put ⟨st.env, st.heap ++ [.row te sz (List.replicate n zd) 0]⟩ dst (.c (.own st.heap.length 0))) K) :
    AXl P pm ops (⟨dst, .makeSlice t x y, ty, p, af, none⟩ :: rest) st K := by
  refine AXl.eff rfl fun cx G a w hp s => ?_
  subst hp
  obtain ⟨hu, hpos, ii, z, hii, hzz, h1, h2, h3⟩ := apT_some ht
  have e1 := ar_int (hx ▸ s.ev x : Ar G _ (a.eval x))
  have e2 := ar_int (hy ▸ s.ev y : Ar G _ (a.eval y))
  obtain ⟨z', _, hc, hz'⟩ := zeroC_ok hz G w
  rw [hii] at hz'
  simp only [Option.bind_some, hzz, Option.some.injEq] at hz'
  subst hz'
  rw [toDs_ok _ _ hzd] at hc
  have hcd := all2_dr hc
  have hzl : zd.length = sz := by rw [hcd.length, ← h3]; simp
  have hbi : (ii.bytes : Int) * (n : Int) ≤ 281474976710656 := by
    have : n * ii.bytes ≤ 140737488355328 := by rw [h2]; exact hb
    rw [← Int.natCast_mul, Nat.mul_comm]; omega
  have hrun := run_make (P := P) w t te ii z hu hii hzz k k' n n (by omega) (by omega) hbi (by omega)
  simp only [Int.toNat_natCast] at hrun
  have hcells : All2 (Dr G.V) (List.replicate n zd).flatten (madeCells z.cells (n * ii.size)).toList := by
    refine All2.of_get ?_ fun j c b q1 q2 => ?_
    · rw [flat_len (sz := sz) _ (by simp [hzl])]
      simp [madeCells, h1]
    · have hj : j < n * sz := by have := getElem?_lt q1; rw [flat_len (sz := sz) _ (by simp [hzl])] at this; simpa using this
      have hn0 : j / sz < n := Nat.div_lt_of_lt_mul (by rw [Nat.mul_comm]; exact hj)
      have hmod : j % sz < zd.length := by rw [hzl]; exact Nat.mod_lt _ hpos
      have := flat_get (List.replicate n zd) (sz := sz) (by simp [hzl]) (j / sz) zd (j % sz) zd[j % sz] (by simp [hn0]) (List.getElem?_eq_getElem hmod)
      rw [show j / sz * sz + j % sz = j from by rw [Nat.mul_comm]; exact Nat.div_add_mod j sz] at this
      rw [this] at q1
      cases q1
      have hj' : j < n * ii.size := by rw [h1]; exact hj
      obtain ⟨b', hb', hdr⟩ := hcd.get (j % sz) _ (List.getElem?_eq_getElem hmod)
      have hb'' : z.cells[j % sz]? = some b' := by simpa using hb'
      have : b = z.cells[j % z.cells.size]! := by
        simp only [madeCells, Array.toList_map, Array.toList_range, List.getElem?_map, List.getElem?_range hj', Option.map_some, Option.some.injEq] at q2
        exact q2.symm
      rw [this, h3]
      simpa [getElem!_def, hb''] using hdr
  have hpr := push_row s.h te 0 hcells (sz := sz) (by simp [hzl]) (by simp; unfold maxLen; omega)
  simp only [List.length_replicate, Array.toArray_toList] at hpr
  refine ⟨.slice (some ⟨w.heap.size, 0, none⟩) n n, w.alloc (.cells (madeCells z.cells (n * ii.size)) te), _, _, .inl ?_, s.pushed (α := .c (.own st.heap.length 0)) hpr ⟨rfl, _, 0, get_last _ _ s.h.len.symm, Nat.le_refl _, fun _ => rfl⟩ hd, hk⟩
  simp only [execOp, e1, e2, Sem.run_bind, hrun, Result.andThen_ok, Sem.run_pure]
end Go.Ax

/-
  Contracts of functions; a function's body proves its contract; a call by its contract, and a call walked in place. No condition.
-/
namespace Go.Ax
open Go Go.RowKit

variable {P : Program}

inductive RV where
  | d (x : D)
  | agg (ds : List D)
  | fresh (t : TypeId) (sz : Nat) (els : List (List D))

def Rr (V : Vw) (w : World) (base : Nat) : RV → Value → Prop
  | .d x, v => Dr V x v
  | .agg ds, v => ∃ vs : List Value, v = .agg vs.toArray ∧ All2 (Dr V) ds vs
  | .fresh t sz els, v => ∃ xs, w.ownsRow base t sz v els.length xs ∧ (∀ b, v.ownBlock = some b → V.H b = none) ∧ All2 (Dr V) els.flatten xs ∧ ∀ e ∈ els, e.length = sz

structure ViewOk (Γ : List (Nat × List D)) (V : Vw) (w : World) : Prop where
  view : ∀ b o, V.H b = some o → w.heap[b]? = some o
  imm : ∀ b, V.I b → ∃ o, V.H b = some o
  glob : ∀ p, p ∈ Γ → Gp ⟨V, []⟩ p

def tupV : List Value → Value
  | [u] => u
  | vs => .tuple vs.toArray

/-- What is known behind a call. -/
def After (V : Vw) (w : World) (rs : List RV) : Ending → World → Prop := fun e w' =>
  ∃ (V' : Vw) (vs : List Value), e = .returned (tupV vs) ∧ V.Le V' ∧ (∀ b o, V'.H b = some o → w'.heap[b]? = some o) ∧
    (∀ b, V'.I b → (∃ o, V'.H b = some o) ∧ (V.I b ∨ w.heap.size ≤ b)) ∧ All2 (Rr V' w' w.heap.size) rs vs ∧ Below w.heap.size w w'

structure CallOk (P : Program) (f : FuncId) : Prop where
  ok : ∃ fn, P.funcs[f]? = some fn ∧ (fn.name == "runtime.NumGoroutine") = false ∧ fn.body.isNone = false

/-- THE CONTRACT: called with arguments that read so, the function returns results that read so, and nothing that was there has changed. -/
structure AFn (P : Program) (Γ : List (Nat × List D)) (f : FuncId) (args : List AV) (rs : List RV) : Prop where
  call : CallOk P f
  run : ∀ (V : Vw) (w : World) (vals : List Value), ViewOk Γ V w → All2 (Ar ⟨V, []⟩) args vals → Calls P f vals.toArray w (After V w rs)

theorem run_callFunc {f : FuncId} (h : CallOk P f) (args : Array Value) (w : World) : (callFunc f args).run P w = .ok (.enter f args) w := by
  obtain ⟨fn, h1, h2, h3⟩ := h.ok
  simp only [callFunc, Sem.run_bind, run_program, Result.andThen_ok, h1, h2, h3, Bool.false_eq_true, if_false, Sem.run_pure]

/-! ### from the body to the contract -/
def envOf : List AV → Nat → Env
  | [], _ => []
  | α :: r, k => pute k α (envOf r (k + 1))

theorem lk_nil (t : Nat) : lk t [] = .any := by unfold lk; cases t / 8 <;> rfl
theorem envOf_lk : ∀ (args : List AV) (k t : Nat), lk t (envOf args k) = .any ∨ (k ≤ t ∧ args[t - k]? = some (lk t (envOf args k)))
  | [], k, t => .inl (lk_nil t)
  | α :: r, k, t => by
    simp only [envOf]
    rw [lk_put]
    by_cases h : k = t
    · subst h
      exact .inr ⟨Nat.le_refl _, by simp⟩
    · rw [if_neg h]
      rcases envOf_lk r (k + 1) t with h1 | ⟨h1, h2⟩
      · exact .inl h1
      · refine .inr ⟨by omega, ?_⟩
        rw [show t - k = (t - (k + 1)) + 1 from by omega]
        simpa using h2
theorem envOf_ok {G : Gh} {args : List AV} {vals : List Value} (h : All2 (Ar G) args vals) (n : Nat) (t : Nat) : Ar G (lk t (envOf args 0)) ((vals.toArray ++ Array.replicate n undef).getD t undef) := by
  rcases envOf_lk args 0 t with h1 | ⟨_, h2⟩
  · rw [h1]; trivial
  · obtain ⟨v, hv, hr⟩ := h.get _ _ h2
    have hlt := getElem?_lt hv
    simp only [Nat.sub_zero] at hv hlt
    have e : vals[t] = v := by rw [List.getElem?_eq_getElem hlt] at hv; exact Option.some.inj hv
    have : (vals.toArray ++ Array.replicate n undef).getD t undef = v := by
      simp [Array.getD_eq_getD_getElem?, Array.getElem?_append, hlt, e]
    rw [this]; exact hr

/-- A cell of a result, rows of the call's own taken as still (all but one, that may be handed over). -/
def cellD (fr : Option Nat) (h : List LB) : C → Option D
  | .d x => some x
  | .own i ver => match h[i]? with
    | some (.row _ sz els v) => if v = ver ∧ fr ≠ some i then some (.lst sz els) else none
    | _ => none
  | _ => none
def cellDs (fr : Option Nat) (h : List LB) : List C → Option (List D)
  | [] => some []
  | c :: r => match cellD fr h c, cellDs fr h r with
    | some x, some l => some (x :: l)
    | _, _ => none
def rvOf (fr : Option Nat) (h : List LB) : AV → Option RV
  | .c c => match cellD fr h c with
    | some x => some (.d x)
    | none => match c with
      | .own i ver => match h[i]? with
        | some (.row t sz els v) => if v = ver ∧ fr = some i then some (.fresh t sz els) else none
        | _ => none
      | _ => none
  | .agg cs => (cellDs fr h cs).map RV.agg
  | _ => none

/-- What a result variable holds at the end. -/
def resAV (P : Program) (st : St) : ResultVar → Option AV
  | .tmp t => match lk t st.env with
    | .any => none
    | α => some α
  | .cell t ty => match lk t st.env with
    | .c (.loc i off) => match st.heap[i]?, ldT P ty with
      | some (.box _ cs), some none => (cs[off]?).map AV.c
      | some (.box _ cs), some (some n) => if off + n ≤ cs.length then some (.agg ((cs.drop off).take n)) else none
      | _, _ => none
    | _ => none

def resRun (tmps : Array Value) : ResultVar → Sem Value
  | .tmp t => pure (tmps.getD t undef)
  | .cell x t => do loadVar t (← asAddr (tmps.getD x undef))

theorem results_eq (fn : Func) (tmps : Array Value) : results fn tmps = (do let vs ← fn.results.mapM (resRun tmps); pure (if h : vs.size = 1 then vs[0] else .tuple vs)) := rfl

theorem loadAt_asAddr {t : TypeId} {q v : Value} {w : World} (h : (Instr.loadAt t q).run P w = .ok v w) : (do loadVar t (← asAddr q) : Sem Value).run P w = .ok v w := by
  cases q with
  | pointer o => cases o with
    | some ad => exact h
    | none => simp [Instr.loadAt, Instr.sureAddr] at h
  | _ => simp [Instr.loadAt, Instr.sureAddr] at h

theorem resAV_ok {cx : Cx} {G : Gh} {st : St} {a : Act} {w : World} (s : Sat cx G st a w) : ∀ (r : ResultVar) (α : AV), resAV P st r = some α →
    ∃ v, (resRun a.tmps r).run P w = .ok v w ∧ Ar G α v := by
  intro r α h
  cases r with
  | tmp t =>
    have hr : Ar G (lk t st.env) (a.tmps.getD t undef) := s.ev (.tmp t)
    refine ⟨a.tmps.getD t undef, rfl, ?_⟩
    simp only [resAV] at h
    generalize lk t st.env = β at h hr
    cases β <;> simp at h <;> subst h <;> exact hr
  | cell t ty =>
    have hr : Ar G (lk t st.env) (a.tmps.getD t undef) := s.ev (.tmp t)
    simp only [resAV] at h
    generalize lk t st.env = β at h hr
    split at h
    · next i off =>
      split at h
      · next tb cs hi hl =>
        obtain ⟨ad, vs, hv, hc, hcell⟩ := (ptAt_of s.h (α := .c (.loc i off)) (cs := cs.drop off) (by simp [cellsAt, hi]) hr).form
        cases hcs : cs[off]? with
        | none => simp [hcs] at h
        | some c =>
          simp [hcs] at h
          subst h
          obtain ⟨u, hu, hcu⟩ := hc.get 0 c (by simp [hcs])
          refine ⟨u, ?_, hcu⟩
          have := run_loadAt1 hl (hcell 0 u hu)
          simp only [add_zero] at this
          refine loadAt_asAddr ?_
          rw [hv]; exact this
      · next tb cs n hi hl =>
        split at h
        · next hle =>
          cases h
          obtain ⟨ad, vs, hv, hc, hcell⟩ := (ptAt_of s.h (α := .c (.loc i off)) (cs := cs.drop off) (by simp [cellsAt, hi]) hr).form
          have hlen := hc.length
          simp at hlen
          refine ⟨.agg (vs.take n).toArray, ?_, vs.take n, rfl, hc.take n⟩
          have := run_loadAtN (vs := vs.take n) hl (by simp; omega) (fun j u hu => hcell j u (by
            rw [List.getElem?_take] at hu
            split at hu
            · exact hu
            · cases hu))
          refine loadAt_asAddr ?_
          rw [hv]; exact this
        · cases h
      · cases h
    · cases h

def resAVs (P : Program) (st : St) : List ResultVar → Option (List AV)
  | [] => some []
  | r :: rs => match resAV P st r, resAVs P st rs with
    | some α, some l => some (α :: l)
    | _, _ => none
def rvsOf (fr : Option Nat) (h : List LB) : List AV → Option (List RV)
  | [] => some []
  | α :: r => match rvOf fr h α, rvsOf fr h r with
    | some x, some l => some (x :: l)
    | _, _ => none

theorem resAVs_ok {cx : Cx} {G : Gh} {st : St} {a : Act} {w : World} (s : Sat cx G st a w) : ∀ (rs : List ResultVar) (αs : List AV), resAVs P st rs = some αs →
    ∃ vs : List Value, (rs.mapM (resRun a.tmps)).run P w = .ok vs w ∧ All2 (Ar G) αs vs
  | [], αs, h => by cases h; exact ⟨[], rfl, .nil⟩
  | r :: rs, αs, h => by
    simp only [resAVs] at h
    split at h
    · next α l h1 h2 =>
      cases h
      obtain ⟨v, hv, hr⟩ := resAV_ok s r α h1
      obtain ⟨vs, hvs, hrs⟩ := resAVs_ok s rs l h2
      refine ⟨v :: vs, ?_, .cons hr hrs⟩
      simp only [List.mapM_cons, Sem.run_bind, hv, Result.andThen_ok, hvs, Sem.run_pure]
    · cases h

theorem run_results {cx : Cx} {G : Gh} {st : St} {a : Act} {w : World} (s : Sat cx G st a w) {fn : Func} {αs : List AV} (h : resAVs P st fn.results.toList = some αs) :
    ∃ vs : List Value, (results fn a.tmps).run P w = .ok (tupV vs) w ∧ All2 (Ar G) αs vs := by
  obtain ⟨vs, hv, hr⟩ := resAVs_ok s _ _ h
  refine ⟨vs, ?_, hr⟩
  rw [results_eq, Array.mapM_eq_mapM_toList]
  simp only [Sem.run_bind, Sem.run_map, hv, Result.andThen_ok, Sem.run_pure]
  congr 1
  match vs with
  | [] => rfl
  | [u] => rfl
  | u :: u' :: r => simp [tupV]

/-- The view behind the call: all that the call made stays, but for one row that is handed over. -/
def exitV (V : Vw) (base : Nat) (fb : Option Nat) (w : World) : Vw :=
  ⟨fun b => if some b = fb then none else if base ≤ b then w.heap[b]? else V.H b, fun b => some b ≠ fb ∧ (V.I b ∨ (base ≤ b ∧ b < w.heap.size))⟩

theorem exit_dr {cx : Cx} {G : Gh} {h : List LB} {w : World} (s : SatH cx G h w) {V : Vw} (hV : cx.G0.V = V) (hS : cx.S = V.I) (h0 : ViewOk cx.pm.Γ V cx.w0) (fb : Option Nat) (hfb : ∀ b, fb = some b → G.V.H b = none) {x : D} {v : Value} (hd : Dr G.V x v) : Dr (exitV V cx.w0.heap.size fb w) x v := by
  refine hd.move (fun b hb => ?_) (fun b o hb ho => ?_)
  · obtain ⟨⟨o, h1⟩, h2⟩ := s.imm b hb
    refine ⟨fun e => ?_, ?_⟩
    · have := hfb b e.symm
      rw [this] at h1; cases h1
    · rcases h2 with h2 | h2
      · rw [hS] at h2; exact .inl h2
      · exact .inr ⟨h2, heap_lt (s.view b o h1)⟩
  · have hne : ¬ (some b = fb) := fun e => by
      have := hfb b e.symm
      rw [this] at ho; cases ho
    simp only [exitV, if_neg hne]
    split
    · exact s.view b o ho
    · next hlt =>
      rcases (s.imm b hb).2 with h2 | h2
      · rw [hS] at h2
        obtain ⟨o', ho'⟩ := h0.imm b h2
        have e1 := h0.view b o' ho'
        have e2 := s.view b o ho
        rw [s.below.block b (by omega), e1] at e2
        rw [ho']; exact e2
      · omega

theorem exit_own {cx : Cx} {G : Gh} {h : List LB} {w : World} (s : SatH cx G h w) {V : Vw} (hV : cx.G0.V = V) (hS : cx.S = V.I) (h0 : ViewOk cx.pm.Γ V cx.w0) (fb : Option Nat) (hfb : ∀ b, fb = some b → G.V.H b = none)
    {i ver : Nat} {t : TypeId} {sz : Nat} {els : List (List D)} (hi : h[i]? = some (.row t sz els ver)) {v : Value} (hv : Cr G (.own i ver) v) (hne : ∀ b, fb = some b → v.ownBlock ≠ some b) : Dr (exitV V cx.w0.heap.size fb w) (.lst sz els) v := by
  obtain ⟨v0, xs, hg, how, _, hd, hl⟩ := row_at s hi
  obtain ⟨_, v0', n', hg', _, hx⟩ := hv
  rw [hg] at hg'
  cases hg'
  have := hx rfl
  subst this
  obtain ⟨A, cap, hvv, hc, hm⟩ := own_form how
  subst hvv
  refine .lst sz els A cap (fun i j => xs.getD (i * sz + j) undef) hc hm hl (fun hn => ?_) (fun i e j c h1 h2 => ?_)
  · have hpos : 0 < els.length := List.length_pos_iff.2 hn
    obtain ⟨g, cap', hv', hb, _, _, hcell⟩ := own_cells how hpos
    injection hv' with hA _ _
    subst hA
    have hnb : ¬ (some g = fb) := fun e => hne g e.symm rfl
    have hcell0 : ∀ (j : Nat) (u : Value), xs[j]? = some u → g < w.heap.size := fun j u hj => by
      have := hcell j u hj
      unfold World.cell? at this
      rcases Nat.lt_or_ge g w.heap.size with h | h
      · exact h
      · rw [Array.getElem?_eq_none h] at this; cases this
    have hglt : g < w.heap.size := by
      obtain ⟨_, ⟨e, _⟩ | ⟨g', cap'', cur, e, _, hh, _⟩⟩ := how
      · cases e
      · cases e; exact heap_lt hh
    refine ⟨⟨g, 0, none⟩, rfl, ⟨hnb, .inr ⟨hb, hglt⟩⟩, fun i e j c h1 h2 => ?_⟩
    obtain ⟨u, hb1, hb2⟩ := hd.get _ _ (flat_get els hl i e j c h1 h2)
    have hq := hcell _ u hb1
    rw [add_plain, Nat.zero_add]
    rw [← cellIn_world] at hq
    have : cellIn (exitV V cx.w0.heap.size fb w).H ⟨g, i * sz + j, none⟩ = cellIn (fun b => w.heap[b]?) ⟨g, i * sz + j, none⟩ := by
      simp only [cellIn, exitV, if_neg hnb, if_pos hb]
    rw [this, hq]
    simp [hb1]
  · obtain ⟨u, hb1, hb2⟩ := hd.get _ _ (flat_get els hl i e j c h1 h2)
    simpa [hb1] using exit_dr s hV hS h0 fb hfb hb2
end Go.Ax
