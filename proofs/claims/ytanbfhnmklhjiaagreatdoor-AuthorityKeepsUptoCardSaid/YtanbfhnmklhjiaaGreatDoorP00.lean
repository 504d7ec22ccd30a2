/- Part of a proof about this program; no condition of its own. -/
import Derived.WalkKit
import Derived.Scope
import Derived.OrdersIn
import Derived.TacticsIn
import Derived.OwnWalkIn
import Derived.RangeFuncCalls
import Derived.WalkLawsBesides
import Derived.WalkSpells
import Derived.Deep.Draws
import Derived.Maps.AppendAt
import Derived.Deep.AppendLies
import Derived.Laws.OwnMore
import Derived.Orders
import Derived.Lib.Strings
import Derived.Maps.OwnSet
import Derived.Maps.Range
set_option linter.all false
/- Code walked in a plain frame and in a round's frame at once. No condition. -/
namespace Go.Ax
open Go Go.RowKit
abbrev FR (l : Nat) : Fence := Fence.wide.inRound l
def nodO (o : Oper) : Bool := match o.op with | .defer _ => false | _ => true
def nodC : Code → Bool
  | .region _ ops _ => ops.toList.all nodO
  | .seq a b => nodC a && nodC b
  | .cond _ a b => nodC a && nodC b
  | .block _ a => nodC a
  | .loop a => nodC a
  | .skip => true
  | .label _ => true
  | .exit _ => true
  | .ret => true
  | _ => false
variable {P : Program}
theorem rows_in {row : String} {args : Array Value} {w : World} {R : Value → World → Prop} (l n : Nat) (h : Rows P row args w R) : RowsIn (FR l) n P row args w R :=
  fun c cs _ => let ⟨v, w', r, s⟩ := h c cs; ⟨v, w', r, stepsIn_wide.2 s⟩
theorem upon_in {o : Oper} {a : Act} {next : Act → World → Prop} {Q : Exit → Act → World → Prop} (l n : Nat) {r : Result Next} (h : o.upon P a next Q r) : o.uponIn (FR l) n P a next Q r := by
  cases r with
  | ok x w =>
    cases x <;> first
      | exact h
      | exact h.elim
      | (refine ⟨fun e => by simp [FR, Fence.inRound, Fence.wide] at e, ?_⟩; exact CallsIn.inRound l (callsIn_wide.2 h))
      | (refine ⟨fun e => by simp [FR, Fence.inRound, Fence.wide] at e, ?_⟩; exact rows_in l _ h)
  | halt x w => cases x <;> exact h
theorem wpO_in {o : Oper} {a : Act} {w : World} {next : Act → World → Prop} {Q : Exit → Act → World → Prop} (l n : Nat) (hn : nodO o = true) (h : o.wp P a w next Q) : o.wpIn (FR l) n P a w next Q := by
  refine ⟨fun _ _ => trivial, ?_⟩
  rw [Oper.semAt_plain (FR l) a.eval o (by intro c hc; unfold nodO at hn; rw [hc] at hn; cases hn)]
  exact upon_in l n h
theorem wpL_in {ops : Array Oper} {Q : Exit → Act → World → Prop} (hQ : ¬ LetsOut Q) (l n : Nat) : ∀ (r : List Oper), r.all nodO = true → ∀ (a : Act) (w : World), wpList P ops Q r a w → wpListIn (FR l) n P ops Q r a w
  | [], _, a, w, h => h
  | o :: r, hn, a, w, h => by
    simp only [List.all_cons, Bool.and_eq_true] at hn
    simp only [wpList, wpListIn] at h ⊢
    split at h
    · next hw =>
      rw [if_pos hw]
      rcases h with h | h
      · exact Oper.wpIn_mono (fun a w hk => wpL_in hQ l n r hn.2 a w hk) (wpO_in l n hn.1 h)
      · exact absurd h.2 hQ
    · next hw =>
      rw [if_neg hw]
      exact ⟨fun _ _ => trivial, wpL_in hQ l n r hn.2 _ _ h⟩
theorem wpA_in {ops : Array Oper} {Q : Exit → Act → World → Prop} (hQ : ¬ LetsOut Q) (hn : ops.toList.all nodO = true) (md : Region.Mode) (l n : Nat) : ∀ (fuel : Nat) (listed : Array Bool) (a : Act) (w : World), wpAny P md ops Q fuel listed a w → wpAnyIn (FR l) n P md ops Q fuel listed a w
  | 0, listed, a, w, h => h
  | fuel + 1, listed, a, w, h => by
    refine ⟨h.1, fun i hi => ?_⟩
    have h2 := h.2 i hi
    unfold wpOp at h2
    unfold wpOpIn
    cases ho : ops[i]? with
    | none => rw [ho] at h2; exact wpA_in hQ hn md l n fuel _ _ _ h2
    | some o =>
      rw [ho] at h2
      simp only at h2 ⊢
      have hno : nodO o = true := List.all_eq_true.1 hn o (by have := Array.mem_of_getElem? ho; simpa using this)
      split at h2
      · next hw =>
        rw [if_pos hw]
        rcases h2 with h2 | h2
        · exact Oper.wpIn_mono (fun a w hk => wpA_in hQ hn md l n fuel _ a w hk) (wpO_in l n hno h2)
        · exact absurd h2.2 hQ
      · next hw =>
        rw [if_neg hw]
        exact ⟨fun _ _ => trivial, wpA_in hQ hn md l n fuel _ _ _ h2⟩
/-! ### code in both frames -/
def wp2 (P : Program) (c : Code) (Q : Exit → Act → World → Prop) (a : Act) (w : World) : Prop := c.wp P Q a w ∧ (nodC c = true → ¬ LetsOut Q → ∀ l n, c.wpIn (FR l) n P Q a w)
variable {Q : Exit → Act → World → Prop} {a : Act} {w : World}
theorem wp2_mono {c : Code} {Q' : Exit → Act → World → Prop} (h : wp2 P c Q a w) (hq : ∀ e a w, Q e a w → Q' e a w) : wp2 P c Q' a w :=
  ⟨wp_mono h.1 hq, fun hn hl l n => wpIn_mono (h.2 hn (fun ⟨a, w, q⟩ => hl ⟨a, w, hq _ _ _ q⟩) l n) hq⟩
theorem wp2_skip (h : Q .normal a w) : wp2 P .skip Q a w := ⟨wp_skip h, fun _ _ _ _ => wpIn_skip h⟩
theorem wp2_label {i : Nat} (h : Q .normal a w) : wp2 P (.label i) Q a w := ⟨wp_label h, fun _ _ _ _ => wpIn_label h⟩
theorem wp2_exit {i : Nat} (h : Q (.exit i) a w) : wp2 P (.exit i) Q a w := ⟨wp_exit h, fun _ _ _ _ => wpIn_exit h⟩
theorem wp2_ret (h : Q .ret a w) : wp2 P .ret Q a w := ⟨wp_ret h, fun _ _ _ _ => wpIn_ret h⟩
theorem out_then {K : Act → World → Prop} (h : LetsOut (Exit.then K Q)) : LetsOut Q := h
theorem wp2_seq {x y : Code} (h : wp2 P x (Exit.then (wp2 P y Q) Q) a w) : wp2 P (.seq x y) Q a w := by
  refine ⟨wp_seq (wp_mono h.1 fun e a w hq => by cases e <;> first | exact hq.1 | exact hq), fun hn hl l n => ?_⟩
  simp only [nodC, Bool.and_eq_true] at hn
  exact wpIn_seq (wpIn_mono (h.2 hn.1 (fun q => hl (out_then q)) l n) fun e a w hq => by cases e <;> first | exact hq.2 hn.2 hl l n | exact hq)
theorem wp2_cond_split {c : Operand} {x y : Code} {t : Bool} (hc : a.eval c = .bool t) (ht : t = true → wp2 P x Q a w) (hf : t = false → wp2 P y Q a w) : wp2 P (.cond c x y) Q a w := by
  refine ⟨wp_cond_split hc (fun e => (ht e).1) (fun e => (hf e).1), fun hn hl l n => ?_⟩
  simp only [nodC, Bool.and_eq_true] at hn
  exact wpIn_cond_split hc (fun e => (ht e).2 hn.1 hl l n) (fun e => (hf e).2 hn.2 hl l n)
theorem wp2_block {id : Nat} {c : Code} (h : wp2 P c (Exit.inBlock id Q) a w) : wp2 P (.block id c) Q a w :=
  ⟨wp_block h.1, fun hn hl l n => wpIn_block (h.2 hn (fun q => hl q) l n)⟩
theorem wp2_region_lit {id : Nat} {ops : List Oper} (h : wpList P ops.toArray Q ops a w) : wp2 P (.region id ops.toArray false) Q a w :=
  ⟨wp_region_lit h, fun hn hl l n => wpIn_region_lit (wpL_in hl l n ops (by simpa [nodC] using hn) _ _ h)⟩
theorem wp2_region_any {id : Nat} {ops : Array Oper} (hm : P.follows .mixedOrders = true) (h : wpAny P .any ops Q ops.size (Array.replicate ops.size false) a { w with drawn := w.drawn + 1 }) : wp2 P (.region id ops true) Q a w :=
  ⟨wp_region_any hm h, fun hn hl l n => wpIn_region_any hm (wpA_in hl hn .any l n _ _ _ _ h)⟩
theorem wp2_scope_straight {c : Code} (h : wp2 P c (Exit.noGoto Q) a w) : wp2 P (.scope c) Q a w := ⟨wp_scope_straight h.1, fun hn => by cases hn⟩
theorem wp2_loop {S : Type} {body : Code} (I : S → Act → World → Prop) (μ : S → Nat) {s0 : S} (h0 : I s0 a w) (round : ∀ s a w, I s a w → wp2 P body (Exit.then (fun a' w' => ∃ s', μ s' < μ s ∧ I s' a' w') Q) a w) : wp2 P (.loop body) Q a w := by
  constructor
  · intro b k cs
    have key : ∀ n s, μ s = n → ∀ a w, I s a w → ∃ e a' w', Q e a' w' ∧ Arrives P (lone (b.at a (.code body :: .inLoop body :: k)) cs w) b k cs e a' w' := by
      intro n
      induction n using Nat.strongRecOn with
      | _ n ih =>
        intro s hn a w hI
        obtain ⟨e, a₁, w₁, hq, harr⟩ := (round s a w hI).1 b (.inLoop body :: k) cs
        cases e with
        | normal =>
          obtain ⟨s', hlt, hI'⟩ := hq
          obtain ⟨e₂, a₂, w₂, hq₂, harr₂⟩ := ih (μ s') (hn ▸ hlt) s' rfl a₁ w₁ hI'
          exact ⟨e₂, a₂, w₂, hq₂, .of_steps (Steps.trans harr (.one step_inLoop)) harr₂⟩
        | exit id => exact ⟨_, a₁, w₁, hq, .pass (x := .inLoop body) rfl (fun _ _ => .inl (by simp)) harr⟩
        | goto l => exact ⟨_, a₁, w₁, hq, .pass (x := .inLoop body) rfl (fun _ _ => .inl (by simp)) harr⟩
        | ret => exact ⟨_, a₁, w₁, hq, .pass (x := .inLoop body) rfl (fun _ _ => .inl (by simp)) harr⟩
        | panic ch => exact ⟨_, a₁, w₁, hq, .pass (x := .inLoop body) rfl (fun _ _ => .inl (by simp)) harr⟩
        | outgrown => exact ⟨_, a₁, w₁, hq, .pass (x := .inLoop body) rfl (fun _ _ => .inl (by simp)) harr⟩
    obtain ⟨e, a', w', hq, harr⟩ := key _ s0 rfl a w h0
    exact ⟨e, a', w', hq, .of_steps (.one step_loop) harr⟩
  · intro hn hl l n b k cs hro hb hr
    have key : ∀ j s, μ s = j → ∀ a w, I s a w → ∃ e a' w', Q e a' w' ∧ ArrivesIn (Machine.fenced P (FR l)) P (lone (b.atR a (.code body :: .inLoop body :: k)) cs w) b k cs e a' w' := by
      intro j
      induction j using Nat.strongRecOn with
      | _ j ih =>
        intro s hj a w hI
        obtain ⟨e, a₁, w₁, hq, harr⟩ := (round s a w hI).2 hn (fun q => hl (out_then q)) l n b (.inLoop body :: k) cs hro hb hr
        cases e with
        | normal =>
          obtain ⟨s', hlt, hI'⟩ := hq
          obtain ⟨e₂, a₂, w₂, hq₂, harr₂⟩ := ih (μ s') (hj ▸ hlt) s' rfl a₁ w₁ hI'
          exact ⟨e₂, a₂, w₂, hq₂, .of_steps (StepsIn.trans harr (.one (fenced_calm hb hr rfl) stepR_inLoop)) harr₂⟩
        | exit id => exact ⟨_, a₁, w₁, hq, .pass (x := .inLoop body) rfl (fun _ _ => .inl (by simp)) harr⟩
        | goto l => exact ⟨_, a₁, w₁, hq, .pass (x := .inLoop body) rfl (fun _ _ => .inl (by simp)) harr⟩
        | ret => exact ⟨_, a₁, w₁, hq, .pass (x := .inLoop body) rfl (fun _ _ => .inl (by simp)) harr⟩
        | panic ch => exact ⟨_, a₁, w₁, hq, .pass (x := .inLoop body) rfl (fun _ _ => .inl (by simp)) harr⟩
        | outgrown => exact ⟨_, a₁, w₁, hq, .pass (x := .inLoop body) rfl (fun _ _ => .inl (by simp)) harr⟩
    obtain ⟨e, a', w', hq, harr⟩ := key _ s0 rfl a w h0
    exact ⟨e, a', w', hq, .of_steps (.one (fenced_calm hb hr rfl) stepR_loop) harr⟩
end Go.Ax

/-
  An abstract state for walks: values read deeply and carried as plain data, local memory as a list of entries, the world out of sight. This file: the definitions, and that a reading stays as the world grows. No condition.
-/
namespace Go.Ax
open Go Go.RowKit
inductive KD where
  | int (k : IntKind) (n : Int)
  | str (l : List UInt8)
  deriving DecidableEq
inductive Kc where
  | int (k : IntKind)
  | str
def KD.v : KD → Value
  | .int k n => .int k n
  | .str l => .string ⟨l.toArray⟩
def Kfit : Kc → KD → Prop
  | .int k, .int k' n => k = k' ∧ (Lit.int k n).wf = true
  | .str, .str l => l.length ≤ maxLen
  | _, _ => False
def Kfits : List Kc → List KD → Prop
  | [], [] => True
  | s :: r, x :: xs => Kfit s x ∧ Kfits r xs
  | _, _ => False
def keyV : List KD → Value
  | [x] => x.v
  | xs => .agg (xs.map KD.v).toArray
abbrev Mp := List (List KD × Int)
structure MapRep (sh : List Kc) (m : Mp) (es : Array MapEntry) (clock : Nat) : Prop where
  st : MapKept.Stamped es clock
  clk : clock = es.size
  born : ∀ (i : Nat) (e : MapEntry), es[i]? = some e → e.born = i
  ent : es.toList.map (fun e => (e.key, e.val)) = m.map (fun kv => (keyV kv.1, Value.int .i64 kv.2))
  fit : ∀ kv ∈ m, Kfits sh kv.1
inductive D where
  | mp (sh : List Kc) (m : Mp)
  | int (k : IntKind) (n : Int)
  | bool (b : Bool)
  | str (l : List UInt8)
  | raw (v : Value)
  | lst (sz : Nat) (els : List (List D))
structure Vw where
  H : Nat → Option Obj
  I : Nat → Prop
def cellIn (H : Nat → Option Obj) (a : Addr) : Option Value :=
  match H a.block with
  | some (.cells c _ _) => if a.spot.isSome then none else c[a.off]?
  | _ => none
structure Vw.Le (V V' : Vw) : Prop where
  H : ∀ b o, V.H b = some o → V'.H b = some o
  I : ∀ b, V.I b → V'.I b
theorem Vw.Le.refl (V : Vw) : V.Le V := ⟨fun _ _ h => h, fun _ h => h⟩
theorem Vw.Le.trans {A B C : Vw} (h : A.Le B) (k : B.Le C) : A.Le C := ⟨fun b o e => k.H b o (h.H b o e), fun b e => k.I b (h.I b e)⟩
theorem cellIn_le {H H' : Nat → Option Obj} {a : Addr} {v : Value} (h : ∀ o, H a.block = some o → H' a.block = some o) (hc : cellIn H a = some v) : cellIn H' a = some v := by
  unfold cellIn at *
  cases e : H a.block with
  | none => rw [e] at hc; cases hc
  | some o => rw [h o e]; rw [e] at hc; exact hc
theorem cellIn_world (w : World) (a : Addr) : cellIn (fun b => w.heap[b]?) a = w.cell? a := rfl
inductive Dr (V : Vw) : D → Value → Prop where
  | mp (sh : List Kc) (m : Mp) (b : Nat) (es : Array MapEntry) (clock : Nat) (hi : V.I b) (hh : V.H b = some (.map es clock)) (hr : MapRep sh m es clock) : Dr V (.mp sh m) (.map (some b))
  | mpn (sh : List Kc) : Dr V (.mp sh []) (.map none)
  | int (k : IntKind) (n : Int) : Dr V (.int k n) (.int k n)
  | bool (b : Bool) : Dr V (.bool b) (.bool b)
  | str (l : List UInt8) : Dr V (.str l) (.string ⟨l.toArray⟩)
  | raw (v : Value) (h : v.oneCell' = true) : Dr V (.raw v) v
  | lst (sz : Nat) (els : List (List D)) (A : Option Addr) (cap : Nat) (u : Nat → Nat → Value) (hc : els.length ≤ cap) (hm : cap ≤ maxLen)
      (he : ∀ e ∈ els, e.length = sz)
      (ha : els ≠ [] → ∃ ad, A = some ad ∧ V.I ad.block ∧ ∀ i e j c, els[i]? = some e → e[j]? = some c → cellIn V.H (ad.add (i * sz + j)) = some (u i j))
      (hu : ∀ i e j c, els[i]? = some e → e[j]? = some c → Dr V c (u i j)) : Dr V (.lst sz els) (.slice A els.length cap)
theorem Dr.one {V : Vw} {x : D} {v : Value} (h : Dr V x v) : v.oneCell' = true := by
  cases h <;> first | rfl | assumption
theorem Dr.mono {V V' : Vw} (hV : V.Le V') {x : D} {v : Value} (h : Dr V x v) : Dr V' x v := by
  induction h with
  | mp sh m b es clock hi hh hr => exact .mp sh m b es clock (hV.I _ hi) (hV.H _ _ hh) hr
  | mpn sh => exact .mpn sh
  | int k n => exact .int k n
  | bool b => exact .bool b
  | str l => exact .str l
  | raw v h => exact .raw v h
  | lst sz els A cap u hc hm he ha hu ih =>
    refine .lst sz els A cap u hc hm he (fun hn => ?_) ih
    obtain ⟨ad, e, hi, hcell⟩ := ha hn
    exact ⟨ad, e, hV.I _ hi, fun i e j c h1 h2 => cellIn_le (fun o => hV.H _ o) (hcell i e j c h1 h2)⟩
theorem Dr.move {V V' : Vw} (hI : ∀ b, V.I b → V'.I b) (hH : ∀ b o, V.I b → V.H b = some o → V'.H b = some o) {x : D} {v : Value} (h : Dr V x v) : Dr V' x v := by
  induction h with
  | mp sh m b es clock hi hh hr => exact .mp sh m b es clock (hI _ hi) (hH _ _ hi hh) hr
  | mpn sh => exact .mpn sh
  | int k n => exact .int k n
  | bool b => exact .bool b
  | str l => exact .str l
  | raw v h => exact .raw v h
  | lst sz els A cap u hc hm he ha hu ih =>
    refine .lst sz els A cap u hc hm he (fun hn => ?_) ih
    obtain ⟨ad, e, hi, hcell⟩ := ha hn
    exact ⟨ad, e, hI _ hi, fun i e j c h1 h2 => cellIn_le (fun o => hH _ o (by
      have : ∀ n, (ad.add n).block = ad.block := fun n => by unfold Addr.add; split <;> rfl
      rw [this]; exact hi)) (hcell i e j c h1 h2)⟩
theorem add_block (a : Addr) (n : Nat) : (a.add n).block = a.block := by unfold Addr.add; split <;> rfl
theorem add_add (a : Addr) (i j : Nat) : (a.add i).add j = a.add (i + j) := by
  unfold Addr.add
  by_cases hi : i = 0 <;> by_cases hj : j = 0 <;> simp [hi, hj, Nat.add_assoc]
theorem add_zero (a : Addr) : a.add 0 = a := rfl
theorem add_plain (b o n : Nat) : (⟨b, o, none⟩ : Addr).add n = ⟨b, o + n, none⟩ := by
  unfold Addr.add; split
  · next h => subst h; rfl
  · rfl
inductive C where
  | d (x : D)
  | junk
  | loc (i off : Nat)
  | own (i ver : Nat)
  | sub (i ver sz lo n : Nat)
  | rowp (i ver sz k off : Nat)
  | ptr (cs : List D)
  | bor (sz : Nat) (els : List (List D))
  | clo (f : FuncId) (caps : List Nat)
  | fn (R : Vw → Value → Prop)
inductive AV where
  | any
  | c (x : C)
  | agg (cs : List C)
  | tup (vs : List AV)
structure Gh where
  V : Vw
  g : List (Value × Nat)
inductive All2 {α β : Type} (R : α → β → Prop) : List α → List β → Prop where
  | nil : All2 R [] []
  | cons {a : α} {b : β} {as : List α} {bs : List β} (h : R a b) (t : All2 R as bs) : All2 R (a :: as) (b :: bs)
section
variable {α β : Type} {R S : α → β → Prop}
theorem All2.length {as : List α} {bs : List β} (h : All2 R as bs) : as.length = bs.length := by
  induction h with
  | nil => rfl
  | cons h t ih => simp [ih]
theorem All2.imp {as : List α} {bs : List β} (h : All2 R as bs) (k : ∀ a b, R a b → S a b) : All2 S as bs := by
  induction h with
  | nil => exact .nil
  | cons h t ih => exact .cons (k _ _ h) ih
theorem All2.imp' {as : List α} {bs : List β} (h : All2 R as bs) (k : ∀ a b, a ∈ as → R a b → S a b) : All2 S as bs := by
  induction h with
  | nil => exact .nil
  | cons h t ih => exact .cons (k _ _ (by simp) h) (ih fun a b ha => k a b (by simp [ha]))
theorem All2.get {as : List α} {bs : List β} (h : All2 R as bs) : ∀ (i : Nat) (a : α), as[i]? = some a → ∃ b, bs[i]? = some b ∧ R a b := by
  induction h with
  | nil => intro i a h; simp at h
  | cons h t ih =>
    intro i a ha
    cases i with
    | zero => simp at ha; subst ha; exact ⟨_, rfl, h⟩
    | succ i => simpa using ih i a (by simpa using ha)
theorem All2.getR {as : List α} {bs : List β} (h : All2 R as bs) : ∀ (i : Nat) (b : β), bs[i]? = some b → ∃ a, as[i]? = some a ∧ R a b := by
  induction h with
  | nil => intro i a h; simp at h
  | cons h t ih =>
    intro i a ha
    cases i with
    | zero => simp at ha; subst ha; exact ⟨_, rfl, h⟩
    | succ i => simpa using ih i a (by simpa using ha)
theorem All2.set {as : List α} {bs : List β} (h : All2 R as bs) {a : α} {b : β} (hr : R a b) : ∀ i : Nat, All2 R (as.set i a) (bs.set i b) := by
  induction h with
  | nil => intro i; exact .nil
  | cons h t ih =>
    intro i
    cases i with
    | zero => exact .cons hr t
    | succ i => exact .cons h (ih i)
theorem All2.append {as as' : List α} {bs bs' : List β} (h : All2 R as bs) (h' : All2 R as' bs') : All2 R (as ++ as') (bs ++ bs') := by
  induction h with
  | nil => exact h'
  | cons h t ih => exact .cons h ih
theorem All2.drop {as : List α} {bs : List β} (h : All2 R as bs) : ∀ n : Nat, All2 R (as.drop n) (bs.drop n) := by
  induction h with
  | nil => intro n; simp; exact .nil
  | cons h t ih =>
    intro n
    cases n with
    | zero => exact .cons h t
    | succ n => exact ih n
theorem All2.take {as : List α} {bs : List β} (h : All2 R as bs) : ∀ n : Nat, All2 R (as.take n) (bs.take n) := by
  induction h with
  | nil => intro n; simp; exact .nil
  | cons h t ih =>
    intro n
    cases n with
    | zero => exact .nil
    | succ n => exact .cons h (ih n)
theorem All2.of_get {as : List α} {bs : List β} (hl : as.length = bs.length) (h : ∀ (i : Nat) a b, as[i]? = some a → bs[i]? = some b → R a b) : All2 R as bs := by
  induction as generalizing bs with
  | nil => cases bs with
    | nil => exact .nil
    | cons b bs => simp at hl
  | cons a as ih => cases bs with
    | nil => simp at hl
    | cons b bs => exact .cons (h 0 a b rfl rfl) (ih (by simpa using hl) fun i a' b' h1 h2 => h (i + 1) a' b' (by simpa using h1) (by simpa using h2))
theorem All2.map_left {γ : Type} {f : γ → α} {as : List γ} {bs : List β} (h : All2 (fun x b => R (f x) b) as bs) : All2 R (as.map f) bs := by
  induction h with
  | nil => exact .nil
  | cons h t ih => exact .cons h ih
theorem All2.of_map_left {γ : Type} {f : γ → α} {as : List γ} {bs : List β} (h : All2 R (as.map f) bs) : All2 (fun x b => R (f x) b) as bs := by
  induction as generalizing bs with
  | nil => cases h; exact .nil
  | cons a as ih => cases h with | cons h t => exact .cons h (ih t)
end
def Cr (G : Gh) : C → Value → Prop
  | .d x, v => Dr G.V x v
  | .junk, v => v.oneCell' = true
  | .loc i off, v => ∃ b n, G.g[i]? = some (.pointer (some ⟨b, 0, none⟩), n) ∧ v = .pointer (some ⟨b, off, none⟩)
  | .own i ver, v => v.oneCell' = true ∧ ∃ v0 n, G.g[i]? = some (v0, n) ∧ ver ≤ n ∧ (ver = n → v = v0)
  | .sub i ver sz lo m, v => v.oneCell' = true ∧ ∃ v0 n, G.g[i]? = some (v0, n) ∧ ver ≤ n ∧ (ver = n →
      ∃ A cap, v = .slice A m cap ∧ m ≤ cap ∧ cap ≤ maxLen ∧ (0 < m → ∃ b len0 cap0, v0 = .slice (some ⟨b, 0, none⟩) len0 cap0 ∧ A = some ⟨b, lo * sz, none⟩) ∧
        ∀ b len0 cap0, v0 = .slice (some ⟨b, 0, none⟩) len0 cap0 → lo + m ≤ cap0 ∧ cap = cap0 - lo ∧ ∃ a, A = some a ∧ (0 < cap → a = ⟨b, lo * sz, none⟩))
  | .rowp i ver sz k off, v => v.oneCell' = true ∧ ∃ v0 n, G.g[i]? = some (v0, n) ∧ ver ≤ n ∧ (ver = n → ∃ b len cap, v0 = .slice (some ⟨b, 0, none⟩) len cap ∧ v = .pointer (some ⟨b, k * sz + off, none⟩))
  | .ptr cs, v => ∃ (ad : Addr) (u : Nat → Value), v = .pointer (some ad) ∧ ∀ j c, cs[j]? = some c → cellIn G.V.H (ad.add j) = some (u j) ∧ Dr G.V c (u j)
  | .bor sz els, v => ∃ (A : Option Addr) (cap : Nat) (u : Nat → Nat → Value), v = .slice A els.length cap ∧ els.length ≤ cap ∧ cap ≤ maxLen ∧ (∀ e ∈ els, e.length = sz) ∧
      (els ≠ [] → ∃ ad, A = some ad ∧ ∀ i e j c, els[i]? = some e → e[j]? = some c → cellIn G.V.H (ad.add (i * sz + j)) = some (u i j)) ∧
      ∀ i e j c, els[i]? = some e → e[j]? = some c → Dr G.V c (u i j)
  | .clo f caps, v => ∃ bs : List Nat, v = .func (.func f) #[] (bs.map fun b => Value.pointer (some ⟨b, 0, none⟩)).toArray ∧ All2 (fun i b => ∃ n, G.g[i]? = some (.pointer (some ⟨b, 0, none⟩), n)) caps bs
  | .fn R, v => v.oneCell' = true ∧ ∀ V', G.V.Le V' → R V' v
def Wr (G : Gh) : AV → Value → Prop
  | .any, _ => True
  | .c x, v => Cr G x v
  | .agg cs, v => ∃ vs : List Value, v = .agg vs.toArray ∧ All2 (Cr G) cs vs
  | .tup _, _ => False
def Ar (G : Gh) : AV → Value → Prop
  | .tup as, v => ∃ vs : List Value, v = .tuple vs.toArray ∧ All2 (Wr G) as vs
  | a, v => Wr G a v
theorem Cr.one {G : Gh} {c : C} {v : Value} (h : Cr G c v) : v.oneCell' = true := by
  cases c with
  | d x => exact Dr.one h
  | junk => exact h
  | loc i off => obtain ⟨b, n, _, rfl⟩ := h; rfl
  | own i ver => exact h.1
  | sub i ver sz lo n => exact h.1
  | rowp i ver sz k off => exact h.1
  | ptr cs => obtain ⟨ad, u, rfl, _⟩ := h; rfl
  | bor sz els => obtain ⟨A, cap, u, rfl, _⟩ := h; rfl
  | clo f caps => obtain ⟨bs, rfl, _⟩ := h; rfl
  | fn R => exact h.1
structure GLe (m : Nat) (G G' : Gh) : Prop where
  V : G.V.Le G'.V
  g : ∀ i v n, i < m → G.g[i]? = some (v, n) → ∃ v' n', G'.g[i]? = some (v', n') ∧ n ≤ n' ∧ (n = n' → v' = v) ∧ ((∃ p, v = .pointer p) → v' = v ∧ n' = n)
theorem GLe.refl (m : Nat) (G : Gh) : GLe m G G := ⟨.refl _, fun _ v n _ h => ⟨v, n, h, Nat.le_refl _, fun _ => rfl, fun _ => ⟨rfl, rfl⟩⟩⟩
theorem GLe.trans {m : Nat} {A B C : Gh} (h : GLe m A B) (k : GLe m B C) : GLe m A C :=
  ⟨h.V.trans k.V, fun i v n hi e => by
    obtain ⟨v', n', e', h1, h2, h3⟩ := h.g i v n hi e
    obtain ⟨v'', n'', e'', k1, k2, k3⟩ := k.g i v' n' hi e'
    refine ⟨v'', n'', e'', Nat.le_trans h1 k1, fun e => ?_, fun hp => ?_⟩
    · have a1 : n = n' := by omega
      have a2 : n' = n'' := by omega
      rw [k2 a2, h2 a1]
    · obtain ⟨rfl, rfl⟩ := h3 hp
      exact k3 hp⟩
theorem GLe.mono {m m' : Nat} {A B : Gh} (h : GLe m A B) (hm : m' ≤ m) : GLe m' A B := ⟨h.V, fun i v n hi => h.g i v n (by omega)⟩
theorem All2.mono_cap {G G' : Gh} {m : Nat} {caps bs : List Nat} (hG : GLe m G G') (h : All2 (fun i b => ∃ n, G.g[i]? = some (.pointer (some ⟨b, 0, none⟩), n)) caps bs) (hm : ∀ i ∈ caps, i < m) :
    All2 (fun i b => ∃ n, G'.g[i]? = some (.pointer (some ⟨b, 0, none⟩), n)) caps bs :=
  h.imp' fun i b hi ⟨n, e⟩ => by
    obtain ⟨v', n', e', _, _, h3⟩ := hG.g i _ n (hm i hi) e
    obtain ⟨rfl, rfl⟩ := h3 ⟨_, rfl⟩
    exact ⟨_, e'⟩
def C.low (m : Nat) : C → Prop
  | .loc i _ | .own i _ | .sub i _ _ _ _ | .rowp i _ _ _ _ => i < m
  | .clo _ caps => ∀ i ∈ caps, i < m
  | _ => True
theorem getElem?_lt {α : Type} {l : List α} {i : Nat} {x : α} (h : l[i]? = some x) : i < l.length := by
  rcases Nat.lt_or_ge i l.length with h' | h'
  · exact h'
  · rw [List.getElem?_eq_none h'] at h; cases h
theorem Cr.low {G : Gh} {c : C} {v : Value} (h : Cr G c v) : c.low G.g.length := by
  cases c with
  | loc i off => obtain ⟨b, n, e, _⟩ := h; exact getElem?_lt e
  | own i ver => obtain ⟨_, v0, n, e, _⟩ := h; exact getElem?_lt e
  | sub i ver sz lo m => obtain ⟨_, v0, n, e, _⟩ := h; exact getElem?_lt e
  | rowp i ver sz k off => obtain ⟨_, v0, n, e, _⟩ := h; exact getElem?_lt e
  | clo f caps =>
    obtain ⟨bs, _, hc⟩ := h
    intro i hi
    obtain ⟨j, hj, e⟩ := List.mem_iff_getElem.1 hi
    obtain ⟨b, _, n, e'⟩ := hc.get j i (by rw [List.getElem?_eq_getElem hj, e])
    exact getElem?_lt e'
  | _ => trivial
theorem Cr.mono {G G' : Gh} {m : Nat} (hG : GLe m G G') {c : C} {v : Value} (hl : c.low m) (h : Cr G c v) : Cr G' c v := by
  cases c with
  | d x => exact Dr.mono hG.V h
  | junk => exact h
  | loc i off =>
    obtain ⟨b, n, e, rfl⟩ := h
    obtain ⟨v', n', e', _, _, h3⟩ := hG.g i _ n hl e
    obtain ⟨rfl, rfl⟩ := h3 ⟨_, rfl⟩
    exact ⟨b, _, e', rfl⟩
  | own i ver =>
    obtain ⟨h1, v0, n, e, hv, hx⟩ := h
    obtain ⟨v', n', e', k1, k2, _⟩ := hG.g i _ n hl e
    exact ⟨h1, v', n', e', by omega, fun hh => by
      have : n = n' := by omega
      rw [hx (by omega), k2 this]⟩
  | sub i ver sz lo m =>
    obtain ⟨h1, v0, n, e, hv, hx⟩ := h
    obtain ⟨v', n', e', k1, k2, _⟩ := hG.g i _ n hl e
    exact ⟨h1, v', n', e', by omega, fun hh => by
      have : n = n' := by omega
      rw [k2 this]; exact hx (by omega)⟩
  | rowp i ver sz k off =>
    obtain ⟨h1, v0, n, e, hv, hx⟩ := h
    obtain ⟨v', n', e', k1, k2, _⟩ := hG.g i _ n hl e
    exact ⟨h1, v', n', e', by omega, fun hh => by
      have : n = n' := by omega
      rw [k2 this]; exact hx (by omega)⟩
  | ptr cs =>
    obtain ⟨ad, u, rfl, hc⟩ := h
    exact ⟨ad, u, rfl, fun j c hj => ⟨cellIn_le (fun o => hG.V.H _ o) (hc j c hj).1, Dr.mono hG.V (hc j c hj).2⟩⟩
  | bor sz els =>
    obtain ⟨A, cap, u, rfl, h1, h2, h3, h4, h5⟩ := h
    refine ⟨A, cap, u, rfl, h1, h2, h3, fun hn => ?_, fun i e j c a b => Dr.mono hG.V (h5 i e j c a b)⟩
    obtain ⟨ad, e, hc⟩ := h4 hn
    exact ⟨ad, e, fun i e j c a b => cellIn_le (fun o => hG.V.H _ o) (hc i e j c a b)⟩
  | clo f caps =>
    obtain ⟨bs, rfl, hc⟩ := h
    exact ⟨bs, rfl, All2.mono_cap hG hc hl⟩
  | fn R => exact ⟨h.1, fun V' hV => h.2 V' (hG.V.trans hV)⟩
def AV.low1 (m : Nat) : AV → Prop
  | .c x => x.low m
  | .agg cs => ∀ c ∈ cs, c.low m
  | _ => True
def AV.low (m : Nat) : AV → Prop
  | .any => True
  | .c x => x.low m
  | .agg cs => ∀ c ∈ cs, c.low m
  | .tup vs => ∀ v ∈ vs, v.low1 m
theorem Wr.mono {G G' : Gh} {m : Nat} (hG : GLe m G G') {x : AV} {v : Value} (hl : x.low1 m) (h : Wr G x v) : Wr G' x v := by
  cases x with
  | any => trivial
  | c x => exact Cr.mono hG hl h
  | agg cs => obtain ⟨vs, rfl, hc⟩ := h; exact ⟨vs, rfl, hc.imp' fun c v hm => Cr.mono hG (hl c hm)⟩
  | tup vs => exact h.elim
theorem Ar.mono {G G' : Gh} {m : Nat} (hG : GLe m G G') {x : AV} {v : Value} (hl : x.low m) (h : Ar G x v) : Ar G' x v := by
  cases x with
  | tup as => obtain ⟨vs, rfl, hc⟩ := h; exact ⟨vs, rfl, hc.imp' fun a v hm ha => Wr.mono hG (hl a hm) ha⟩
  | any => trivial
  | c x => exact Wr.mono (x := .c x) hG hl h
  | agg cs => exact Wr.mono (x := .agg cs) hG hl h
theorem All2.low {G : Gh} {cs : List C} {vs : List Value} (h : All2 (Cr G) cs vs) : ∀ c ∈ cs, c.low G.g.length := by
  induction h with
  | nil => intro c hc; cases hc
  | cons h t ih => intro c hc; cases hc with | head => exact h.low | tail _ hm => exact ih c hm
theorem Wr.low {G : Gh} {x : AV} {v : Value} (h : Wr G x v) : x.low1 G.g.length := by
  cases x with
  | any => trivial
  | c x => exact Cr.low h
  | agg cs => obtain ⟨vs, _, hc⟩ := h; exact All2.low hc
  | tup vs => trivial
theorem Ar.low {G : Gh} {x : AV} {v : Value} (h : Ar G x v) : x.low G.g.length := by
  cases x with
  | tup as =>
    obtain ⟨vs, _, hc⟩ := h
    intro a ha
    obtain ⟨j, hj, e⟩ := List.mem_iff_getElem.1 ha
    obtain ⟨b, _, hw⟩ := hc.get j a (by rw [List.getElem?_eq_getElem hj, e])
    exact hw.low
  | any => trivial
  | c x => exact Wr.low (x := .c x) h
  | agg cs => exact Wr.low (x := .agg cs) h
theorem Cr.grow {G G' : Gh} (hG : GLe G.g.length G G') {c : C} {v : Value} (h : Cr G c v) : Cr G' c v := h.mono hG h.low
theorem Ar.grow {G G' : Gh} (hG : GLe G.g.length G G') {x : AV} {v : Value} (h : Ar G x v) : Ar G' x v := h.mono hG h.low
def Gp (G : Gh) (p : Nat × List D) : Prop := Cr G (.ptr p.2) (.pointer (some ⟨p.1, 0, none⟩)) ∧ ∃ c t fr, G.V.H p.1 = some (.cells c t fr) ∧ c.size = p.2.length
theorem Gp.mono {G G' : Gh} {m : Nat} {p : Nat × List D} (h : Gp G p) (hG : GLe m G G') (_ : True) : Gp G' p :=
  ⟨h.1.mono hG trivial, let ⟨c, t, fr, e, hs⟩ := h.2; ⟨c, t, fr, hG.V.H _ _ e, hs⟩⟩
theorem Gp.grow {G G' : Gh} {p : Nat × List D} (h : Gp G p) (hG : GLe G.g.length G G') : Gp G' p := h.mono hG trivial
end Go.Ax
