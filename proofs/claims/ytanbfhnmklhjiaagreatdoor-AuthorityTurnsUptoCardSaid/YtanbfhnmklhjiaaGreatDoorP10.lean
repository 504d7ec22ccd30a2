/- Part of a proof about this program; no condition of its own. -/
import Derived.Test.YtanbfhnmklhjiaaGreatDoorP09
import Derived.Laws.Externs
import Derived.Lib.Bytealg
import Derived.Lib.IndexLaws
import Derived.ChangeArms
import Derived.Deep.Slices
import Derived.OpenShut
import Derived.Below
import Derived.Carry
import Derived.ChangeSame
import Derived.Lib.ConvBytes
import Derived.Test.YtanbfhnmklhjiaaGreatDoorP07
set_option linter.all false
/- Small facts for walks: bytes as numbers, rests of lists, the first place of a byte, predicates as function values. No condition. -/
namespace Go.Ax
open Go Go.RowKit
theorem u8eq (a b : UInt8) : ((a.toNat : Int) = (b.toNat : Int)) ↔ a = b := by rw [Int.ofNat_inj, UInt8.toNat_inj]
theorem drop_cons {α : Type} {l : List α} {k : Nat} (h : k < l.length) : l.drop k = l[k] :: l.drop (k + 1) := List.drop_eq_getElem_cons h
theorem take_next {α : Type} {l : List α} {k : Nat} (h : k < l.length) : l.take (k + 1) = l.take k ++ [l[k]] := List.take_succ_eq_append_getElem h
section
variable {P : Program} {h : List LB} {ρ : Operand → AV} {dst : Option Tmp} {ty : TypeId} {p : String} {af : Array Edge} {gd : Option (Nat × Bool)}
end
def fI {α : Type} (p : α → Bool) : Nat → List α → Int
  | _, [] => -1
  | i, x :: r => if p x then (i : Int) else fI p (i + 1) r
theorem fI_spec {α : Type} (p : α → Bool) : ∀ (l : List α) (i : Nat), (fI p i l = -1 ∧ l.find? p = none) ∨ (∃ j : Nat, fI p i l = ((i + j : Nat) : Int) ∧ ∃ h : j < l.length, l.find? p = some l[j])
  | [], i => .inl ⟨rfl, rfl⟩
  | x :: r, i => by
    by_cases hp : p x = true
    · exact .inr ⟨0, by simp [fI, hp], by simp, by simp [hp]⟩
    · rcases fI_spec p r (i + 1) with ⟨h1, h2⟩ | ⟨j, h1, h2, h3⟩
      · exact .inl ⟨by simp [fI, hp, h1], by simp [hp, h2]⟩
      · exact .inr ⟨j + 1, by simp [fI, hp, h1]; omega, by simp; omega, by simp [hp, h3]⟩
theorem fI_ge {α : Type} (p : α → Bool) (l : List α) : decide (0 ≤ fI p 0 l) = l.any p := by
  rcases fI_spec p l 0 with ⟨h1, h2⟩ | ⟨j, h1, h2, h3⟩
  · rw [h1]; symm; simp at h2 ⊢; exact fun x hx => by simpa using h2 x hx
  · rw [h1]; symm
    have := List.find?_some h3
    simp
    exact ⟨_, List.getElem_mem h2, this⟩
end Go.Ax
namespace Go.Ax
open Go Go.RowKit
variable {P : Program} {pm : Pm} {st : St}
theorem SatH.relabel {cx : Cx} {G : Gh} {h : List LB} {w : World} (s : SatH cx G h w) {i : Nat} {lb lb' : LB} (hi : h[i]? = some lb) (hl : lb'.live → lb.live)
    (hn : ∀ e, G.g[i]? = some e → Lr G w cx.w0.heap.size lb e → Lr G w cx.w0.heap.size lb' e) : SatH cx G (h.set i lb') w := by
  have back : ∀ (j : Nat) (b : LB), (h.set i lb')[j]? = some b → ∃ b0, h[j]? = some b0 ∧ (b.live → b0.live) ∧ ((j = i ∧ b = lb') ∨ b = b0) := by
    intro j b hb
    rw [List.getElem?_set] at hb
    by_cases e : i = j
    · subst e
      simp only [if_true] at hb
      rw [if_pos (getElem?_lt hi)] at hb
      cases hb
      exact ⟨lb, hi, hl, .inl ⟨rfl, rfl⟩⟩
    · rw [if_neg e] at hb
      exact ⟨b, hb, id, .inr rfl⟩
  refine ⟨by rw [List.length_set]; exact s.len, fun j b e hb he => ?_, fun j k bj bk ej ek q h1 h2 l1 l2 => ?_, s.view, s.imm, s.below, s.ext, s.glob, s.sz⟩
  · obtain ⟨b0, h0, _, hc⟩ := back j b hb
    rcases hc with ⟨rfl, rfl⟩ | rfl
    · rw [hi] at h0; cases h0
      exact hn e he (s.ent _ _ _ hi he)
    · exact s.ent _ _ _ h0 he
  · obtain ⟨b1, g1, k1, _⟩ := back j bj h1
    obtain ⟨b2, g2, k2, _⟩ := back k bk h2
    exact s.sep j k b1 b2 ej ek q g1 g2 (k1 l1) (k2 l2)
end Go.Ax
namespace Go.Ax
open Go Go.RowKit
def locsOf : List AV → Option (List Nat)
  | [] => some []
  | .c (.loc i 0) :: r => (locsOf r).map (i :: ·)
  | _ => none
theorem locsOf_map : ∀ {l : List AV} {is : List Nat}, locsOf l = some is → l = is.map fun i => AV.c (.loc i 0)
  | [], is, h => by cases h; rfl
  | .c (.loc i 0) :: r, is, h => by
    simp only [locsOf, Option.map_eq_some_iff] at h
    obtain ⟨js, h1, rfl⟩ := h
    rw [locsOf_map h1]; rfl
  | .c (.loc i (n + 1)) :: r, is, h => by simp [locsOf] at h
  | .any :: r, is, h => by simp [locsOf] at h
  | .agg _ :: r, is, h => by simp [locsOf] at h
  | .tup _ :: r, is, h => by simp [locsOf] at h
  | .c (.d _) :: r, is, h => by simp [locsOf] at h
  | .c .junk :: r, is, h => by simp [locsOf] at h
  | .c (.own _ _) :: r, is, h => by simp [locsOf] at h
  | .c (.sub _ _ _ _ _) :: r, is, h => by simp [locsOf] at h
  | .c (.rowp _ _ _ _ _) :: r, is, h => by simp [locsOf] at h
  | .c (.ptr _) :: r, is, h => by simp [locsOf] at h
  | .c (.bor _ _) :: r, is, h => by simp [locsOf] at h
  | .c (.clo _ _) :: r, is, h => by simp [locsOf] at h
  | .c (.fn _) :: r, is, h => by simp [locsOf] at h
variable {P : Program} {h : List LB} {ρ : Operand → AV} {dst : Option Tmp} {ty : TypeId} {p : String} {af : Array Edge} {gd : Option (Nat × Bool)}
theorem s_makeFunc' (f : FuncId) (caps : Array Operand) {is : List Nat} (hc : locsOf (caps.toList.map ρ) = some is) : Still P h ⟨dst, .makeFunc (.func f) #[] caps, ty, p, af, gd⟩ ρ (.c (.clo f is)) := s_makeFunc f caps (locsOf_map hc)
end Go.Ax
namespace Go.Ax
end Go.Ax
namespace Go.Ax
end Go.Ax

/- Slices of an array behind a pointer; a slice against nil. No condition. -/
namespace Go.Ax
open Go Go.RowKit
variable {P : Program} {h : List LB} {ρ : Operand → AV} {dst : Option Tmp} {ty : TypeId} {p : String} {af : Array Edge} {gd : Option (Nat × Bool)}
theorem run_nilne {t e : TypeId} (hu : P.underlying t = some (.slice e)) (ad : Addr) (n c d : Nat) (w : World) : (Op.equalIn (d + 1) t (.slice (some ad) n c) (.slice none 0 0)).run P w = .ok false w := by
  simp [Op.equalIn, run_underlying hu]
theorem run_nileq {t e : TypeId} (hu : P.underlying t = some (.slice e)) (d : Nat) (w : World) : (Op.equalIn (d + 1) t (.slice none 0 0) (.slice none 0 0)).run P w = .ok true w := by
  simp [Op.equalIn, run_underlying hu]
theorem run_nilne' {t e : TypeId} (hu : P.underlying t = some (.slice e)) (ad : Addr) (n c : Nat) (w : World) : (Op.equal t (.slice (some ad) n c) (.slice none 0 0)).run P w = .ok false w := run_nilne hu ad n c 9999 w
theorem run_nileq' {t e : TypeId} (hu : P.underlying t = some (.slice e)) (w : World) : (Op.equal t (.slice none 0 0) (.slice none 0 0)).run P w = .ok true w := run_nileq hu 9999 w
def nilq : BinOp → Bool → Option Bool
  | .eql, b => some b
  | .neq, b => some (!b)
  | _, _ => none
theorem s_slnil_ne (op : BinOp) (t t' : TypeId) (x : Operand) {e : TypeId} {n sz : Nat} {els : List (List D)} {b : Bool} (hs : slT P t = some (e, n)) (hx : ρ x = .c (.d (.lst sz els)) ∨ ρ x = .c (.bor sz els)) (hne : els ≠ []) (hb : nilq op false = some b) :
    Still P h ⟨dst, .binOp op t x (.const (.slice none 0 0)) t', ty, p, af, gd⟩ ρ (.c (.d (.bool b))) := by
  intro cx G w a s ho
  obtain ⟨hu, hsz⟩ := slT_some hs
  have key : ∃ ad n c, a.eval x = .slice (some ad) n c := by
    rcases hx with hx | hx
    · obtain ⟨A, cap, u, e1, _, _, _, ha, _⟩ := dr_lst (hx ▸ ho x (by simp [Op.operands]) : Ar G (.c (.d (.lst sz els))) (a.eval x))
      obtain ⟨ad, rfl, _⟩ := ha hne
      exact ⟨_, _, _, e1⟩
    · obtain ⟨A, cap, u, e1, _, _, _, ha, _⟩ := (hx ▸ ho x (by simp [Op.operands]) : Ar G (.c (.bor sz els)) (a.eval x))
      obtain ⟨ad, rfl, _⟩ := ha hne
      exact ⟨_, _, _, e1⟩
  obtain ⟨ad, k, c, e1⟩ := key
  have e2 : a.eval (.const (.slice none 0 0)) = .slice none 0 0 := rfl
  refine ⟨.bool b, ?_, Dr.bool _⟩
  cases op <;> simp only [nilq, Option.some.injEq, reduceCtorEq] at hb <;> subst hb <;>
    simp [execOp, e1, e2, eqGuard, binOp, run_nilne' hu]
theorem s_slnil (op : BinOp) (t t' : TypeId) (x : Operand) {e : TypeId} {n : Nat} {b : Bool} (hs : slT P t = some (e, n)) (hx : ρ x = .c (.d (.raw (.slice none 0 0)))) (hb : nilq op true = some b) :
    Still P h ⟨dst, .binOp op t x (.const (.slice none 0 0)) t', ty, p, af, gd⟩ ρ (.c (.d (.bool b))) := by
  intro cx G w a s ho
  obtain ⟨hu, hsz⟩ := slT_some hs
  have e1 := ar_raw (hx ▸ ho x (by simp [Op.operands]) : Ar G (.c (.d (.raw (.slice none 0 0)))) (a.eval x))
  have e2 : a.eval (.const (.slice none 0 0)) = .slice none 0 0 := rfl
  refine ⟨.bool b, ?_, Dr.bool _⟩
  cases op <;> simp only [nilq, Option.some.injEq, reduceCtorEq] at hb <;> subst hb <;>
    simp [execOp, e1, e2, eqGuard, binOp, run_nileq' hu]
end Go.Ax

/- A row of the call's own, taken as still from here on. No condition. -/
namespace Go.Ax
open Go Go.RowKit
variable {P : Program} {pm : Pm} {st : St}
theorem freeze_core {cx : Cx} {G : Gh} {h : List LB} {w : World} (s : SatH cx G h w) {i : Nat} {t : TypeId} {sz ver : Nat} {els : List (List D)} (hi : h[i]? = some (.row t sz els ver)) :
    ∃ V', GLe G.g.length G ⟨V', G.g⟩ ∧ SatH cx ⟨V', G.g⟩ (h.set i .dead) w ∧ ∀ v, Cr G (.own i ver) v → Dr V' (.lst sz els) v := by
  obtain ⟨v0, xs, hg, how, hob, hdr, hl⟩ := row_at s hi
  have rf := row_form how
  let V' : Vw := ⟨fun b => if blkOf v0 = some b then w.heap[b]? else G.V.H b, fun b => G.V.I b ∨ blkOf v0 = some b⟩
  have hle : G.V.Le V' := ⟨fun b o ho => by
    have hne : ¬ (blkOf v0 = some b) := fun e => by
      have := hob b (rf.2.1 b e)
      rw [this] at ho; cases ho
    simp only [V', if_neg hne]; exact ho, fun b hb => .inl hb⟩
  have hG : GLe G.g.length G ⟨V', G.g⟩ := ⟨hle, fun j v n _ e => ⟨v, n, e, Nat.le_refl _, fun _ => rfl, fun _ => ⟨rfl, rfl⟩⟩⟩
  have hblk : ∀ b, blkOf v0 = some b → (∃ o, w.heap[b]? = some o) ∧ cx.w0.heap.size ≤ b := fun b hb => by
    obtain ⟨hlen, ⟨rfl, _⟩ | ⟨g, cap, cur, rfl, hge, hh, _⟩⟩ := how
    · cases hb
    · cases hb; exact ⟨⟨_, hh⟩, hge⟩
  refine ⟨V', hG, ⟨by rw [List.length_set]; exact s.len, fun j b e hb he => ?_, fun j k bj bk ej ek q h1 h2 l1 l2 g1 g2 => ?_, fun b o ho => ?_, fun b hb => ?_, s.below, s.ext.trans (hG.all _), fun q hq => (s.glob q hq).grow hG, s.sz⟩, fun v hv => ?_⟩
  · rw [List.getElem?_set] at hb
    by_cases e1 : i = j
    · subst e1
      rw [if_pos rfl, if_pos (getElem?_lt hi)] at hb
      cases hb
      trivial
    · rw [if_neg e1] at hb
      have hL := s.ent j b e hb he
      refine Lr.mono' hG (fun k hlive hk => ?_) hL
      have hne : ¬ (blkOf v0 = some k) := fun e2 => e1 (s.sep i j _ b _ e k hi hb trivial hlive hg he e2 hk)
      simp only [V', if_neg hne]
      exact (hL.blk hlive hk).2.2
  · have back : ∀ (j : Nat) (b : LB), (h.set i .dead)[j]? = some b → b.live → h[j]? = some b := fun j b hb hlive => by
      rw [List.getElem?_set] at hb
      by_cases e1 : i = j
      · subst e1
        rw [if_pos rfl, if_pos (getElem?_lt hi)] at hb
        cases hb
        exact hlive.elim
      · rwa [if_neg e1] at hb
    exact s.sep j k bj bk ej ek q (back j bj h1 l1) (back k bk h2 l2) l1 l2 g1 g2
  · simp only [V'] at ho
    split at ho
    · exact ho
    · exact s.view b o ho
  · rcases hb with hb | hb
    · obtain ⟨⟨o, ho⟩, h2⟩ := s.imm b hb
      exact ⟨⟨o, hle.H b o ho⟩, h2⟩
    · obtain ⟨⟨o, ho⟩, h2⟩ := hblk b hb
      exact ⟨⟨o, by simp only [V', if_pos hb]; exact ho⟩, .inr h2⟩
  · obtain ⟨_, v1, n1, hg', _, hxx⟩ := hv
    rw [hg] at hg'
    cases hg'
    have := hxx rfl
    subst this
    obtain ⟨A, cap, rfl, hc, hm⟩ := own_form how
    have hat : ∀ (a b : Nat) (e : List D) (c : D), els[a]? = some e → e[b]? = some c → ∃ u, xs[a * sz + b]? = some u ∧ Dr G.V c u := fun a b e c h1 h2 => hdr.get _ c (flat_get els hl a e b c h1 h2)
    refine .lst sz els A cap (fun a b => (xs[a * sz + b]?).getD undef) hc hm hl (fun hn => ?_) (fun a e b c h1 h2 => ?_)
    · have hpos : 0 < els.length := List.length_pos_iff.2 hn
      obtain ⟨g, cap', e1, hge, _, _, hcell⟩ := own_cells how hpos
      cases e1
      refine ⟨⟨g, 0, none⟩, rfl, .inr rfl, fun a e b c h1 h2 => ?_⟩
      obtain ⟨u, hu, _⟩ := hat a b e c h1 h2
      have := hcell _ _ hu
      rw [hu, add_plain]
      simp only [Option.getD_some, Nat.zero_add]
      have h3 : blkOf (Value.slice (some ⟨g, 0, none⟩) els.length cap) = some g := rfl
      simp only [cellIn, V', h3, if_true]
      rw [← cellIn_world] at this
      exact this
    · obtain ⟨u, hu, hd⟩ := hat a b e c h1 h2
      rw [hu]
      exact Dr.mono hle hd
theorem Sat.freezeVar {cx : Cx} {G : Gh} {a : Act} {w : World} (s : Sat cx G st a w) (k : Nat) {i : Nat} {t : TypeId} {sz ver : Nat} {els : List (List D)} (hk : lk k st.env = .c (.own i ver)) (hi : st.heap[i]? = some (.row t sz els ver)) :
    ∃ G', Sat cx G' ⟨pute k (.c (.d (.lst sz els))) st.env, st.heap.set i .dead⟩ a w := by
  obtain ⟨V', hG, s', hv⟩ := freeze_core s.h hi
  refine ⟨⟨V', G.g⟩, s', fun x => ?_, s.N, s.defers⟩
  rw [lk_put]
  by_cases hkx : k = x
  · subst hkx
    rw [if_pos rfl]
    exact hv _ (hk ▸ s.ev (.tmp k) : Ar G (.c (.own i ver)) (a.tmps.getD k undef))
  · rw [if_neg hkx]; exact (s.env x).grow hG
theorem Sat.freezeBox {cx : Cx} {G : Gh} {a : Act} {w : World} (s : Sat cx G st a w) (j c : Nat) {i : Nat} {t tb : TypeId} {sz ver : Nat} {els : List (List D)} {cs : List C} (hj : st.heap[j]? = some (.box tb cs)) (hc : cs[c]? = some (.own i ver)) (hi : st.heap[i]? = some (.row t sz els ver)) :
    ∃ G', Sat cx G' ⟨st.env, (st.heap.set i .dead).set j (LB.box tb (cs.set c (C.d (.lst sz els))))⟩ a w := by
  obtain ⟨V', hG, s', hv⟩ := freeze_core s.h hi
  have hne : i ≠ j := fun e => by subst e; rw [hi] at hj; cases hj
  have hj' : (st.heap.set i .dead)[j]? = some (.box tb cs) := by rw [List.getElem?_set, if_neg hne]; exact hj
  have s2 := s'.relabel (lb' := .box tb (cs.set c (C.d (.lst sz els)))) hj' id fun e he hL => by
    obtain ⟨h1, b, vs, h2, h3, h4, h5, h6⟩ := hL
    refine ⟨h1, b, vs, h2, h3, h4, h5, ?_⟩
    obtain ⟨v, hvv, hr⟩ := h6.get _ _ hc
    have hs := h6.set (i := c) (a := C.d (.lst sz els)) (b := v) (hv v hr)
    rwa [show vs.set c v = vs from by
      have := getElem?_lt hvv
      rw [List.getElem?_eq_getElem this] at hvv
      injection hvv with hvv
      rw [← hvv]; exact List.set_getElem_self this] at hs
  exact ⟨⟨V', G.g⟩, s2, fun x => (s.env x).grow hG, s.N, s.defers⟩
theorem AXc.freezeVar {c : Code} {Q : Exit → St → Prop} (k : Nat) {i : Nat} {t : TypeId} {sz ver : Nat} {els : List (List D)} (hk : lk k st.env = .c (.own i ver)) (hi : st.heap[i]? = some (.row t sz els ver))
    (h : AXc P pm c ⟨pute k (.c (.d (.lst sz els))) st.env, st.heap.set i .dead⟩ Q) : AXc P pm c st Q :=
  fun cx _ a w hp s => (s.freezeVar k hk hi).elim fun G' s' => h cx G' a w hp s'
theorem AXc.freezeBox {c : Code} {Q : Exit → St → Prop} (j k : Nat) {i : Nat} {t tb : TypeId} {sz ver : Nat} {els : List (List D)} {cs : List C} (hj : st.heap[j]? = some (.box tb cs)) (hc : cs[k]? = some (.own i ver)) (hi : st.heap[i]? = some (.row t sz els ver))
    (h : AXc P pm c ⟨st.env, (st.heap.set i .dead).set j (LB.box tb (cs.set k (C.d (.lst sz els))))⟩ Q) : AXc P pm c st Q :=
  fun cx _ a w hp s => (s.freezeBox j k hj hc hi).elim fun G' s' => h cx G' a w hp s'
variable {ops : Array Oper} {rest : List Oper} {K : St → Prop}
theorem AXl.freezeVar (k : Nat) {i : Nat} {t : TypeId} {sz ver : Nat} {els : List (List D)} (hk : lk k st.env = .c (.own i ver)) (hi : st.heap[i]? = some (.row t sz els ver))
    (h : AXl P pm ops rest ⟨pute k (.c (.d (.lst sz els))) st.env, st.heap.set i .dead⟩ K) : AXl P pm ops rest st K :=
  fun cx _ a w Q hp s hQ => (s.freezeVar k hk hi).elim fun G' s' => h cx G' a w Q hp s' hQ
end Go.Ax
namespace Go.Ax
inductive NilTo : D → D → Prop where
  | refl (x : D) : NilTo x x
  | nil (sz : Nat) : NilTo (.raw (.slice none 0 0)) (.lst sz [])
theorem NilTo.dr {V : Vw} {x y : D} {v : Value} (h : NilTo x y) (hd : Dr V x v) : Dr V y v := by
  cases h with
  | refl => exact hd
  | nil sz =>
    cases hd
    exact Dr.lst sz [] none 0 (fun _ _ => undef) (Nat.le_refl _) (Nat.zero_le _) (fun e he => by cases he) (fun hn => absurd rfl hn) (fun i e j c h1 _ => by simp at h1)
theorem ArgOk.aggn {pm : Pm} {h : List LB} {cs : List C} {ds ds' : List D} (hc : toDs cs = some ds) (hn : All2 NilTo ds ds') : ArgOk pm h (.agg cs) (.agg (ds'.map C.d)) := fun cx G w v hp s hv => by
  obtain ⟨vs, rfl, hcs⟩ := (ArgOk.agg hc cx G w v hp s hv : Ar _ (.agg (ds.map C.d)) v)
  refine ⟨vs, rfl, ?_⟩
  have h1 := All2.of_map_left hcs
  refine All2.map_left ?_
  clear hcs hv hc
  induction hn generalizing vs with
  | nil => cases h1; exact .nil
  | cons hx ht ih => cases h1 with | cons hd tl => exact .cons (hx.dr hd) (ih _ tl)
end Go.Ax

/- Arguments of a statement, read as closed data, by the shape of their type. No condition. -/
namespace Go.Ax
open Go Go.RowKit
inductive Cs where
  | int (k : IntKind)
  | bool
  | str
  | lst (el : List Cs)
def shapeFs (P : Program) (r : TypeId → Option (List Cs)) : List Field → Nat → Option (List Cs)
  | [], _ => some []
  | f :: fs, off => if f.offset = off then
      match r f.type with
      | some a => if a.length = P.cellsOf f.type then (shapeFs P r fs (off + a.length)).map (a ++ ·) else none
      | none => none
    else none
def shape (P : Program) : Nat → TypeId → Option (List Cs)
  | 0, _ => none
  | n + 1, t => match P.underlying t with
    | some .bool => some [.bool]
    | some (.int k) => some [.int k]
    | some .string => some [.str]
    | some (.slice e) => match shape P n e with
      | some el => if 0 < el.length ∧ el.length = P.cellsOf e then some [.lst el] else none
      | none => none
    | some (.struct fs) => match shapeFs P (shape P n) fs.toList 0 with
      | some sh => if sh.length = P.cellsOf t then some sh else none
      | none => none
    | _ => none
abbrev wV (w : World) : Vw := ⟨fun b => w.heap[b]?, fun b => ∃ o, w.heap[b]? = some o⟩
theorem cells_get {w : World} {base n : Nat} {a : Addr} {cs : List Value} (h : w.cells? base a n = some cs) : cs.length = n ∧ ∀ (j : Nat) (v : Value), cs[j]? = some v → w.cell? (a.add j) = some v := by
  unfold World.cells? at h
  split at h
  · have hl : cs.length = n := by simpa using mapM_some_length h
    refine ⟨hl, fun j v hj => ?_⟩
    have hlt : j < n := by rw [← hl]; exact getElem?_lt hj
    rw [mapM_some_get h j j (by simp [hlt])]
    exact hj
  · cases h
theorem heap_of_cell {w : World} {a : Addr} {v : Value} (h : w.cell? a = some v) : ∃ o, w.heap[a.block]? = some o := by
  unfold World.cell? at h
  cases e : w.heap[a.block]? with
  | some o => exact ⟨o, rfl⟩
  | none => simp [e] at h
variable {H : Type} {enc : TypeId × Value → H} {P : Program} {w : World} {base : Nat} {spare : Nat → Bool} {held : Bool}
end Go.Ax

/- A statement's row from a contract: what the arguments read as, the listed variables, and what is so behind the call. No condition. -/
namespace Go.Ax
open Go Go.RowKit Go.ChangeShapes Go.WideShapes
section
variable {H : Type} {enc : TypeId × Value → H} {P : Program} {w : World} {base : Nat} {spare : Nat → Bool} {held : Bool}
theorem cells_slice {r : Reach} {b0 : Nat} {t e : TypeId} {v : Value} (ht : P.underlying t = some (.slice e)) (h : Value.okWide P w r b0 t v) : v.cells = #[v] := by
  cases v <;> first | rfl | (simp [Value.okWide, ht, Cell.okWide, Cell.ok] at h)
theorem cells_string {r : Reach} {b0 : Nat} {t : TypeId} {v : Value} (ht : P.underlying t = some .string) (h : Value.okWide P w r b0 t v) : v.cells = #[v] := by
  cases v <;> first | rfl | (simp [Value.okWide, ht, Cell.okWide, Cell.ok] at h)
theorem cells_int {r : Reach} {b0 : Nat} {t : TypeId} {k : IntKind} {v : Value} (ht : P.underlying t = some (.int k)) (h : Value.okWide P w r b0 t v) : v.cells = #[v] := by
  cases v <;> first | rfl | (simp [Value.okWide, ht, Cell.okWide, Cell.ok] at h)
end
/-! ### what fits -/
/-! ### flat variables -/
def D.toV : D → Value
  | .int k n => .int k n
  | .bool b => .bool b
  | .str l => .string ⟨l.toArray⟩
  | .raw v => v
  | .lst _ _ => .slice none 0 0
  | .mp _ _ => .map none
def D.flat : D → Bool
  | .int _ _ | .bool _ | .str _ => true
  | _ => false
theorem D.dr {V : Vw} : ∀ {x : D}, x.flat = true → Dr V x x.toV
  | .int k n, _ => .int k n
  | .bool b, _ => .bool b
  | .str l, _ => .str l
  | .raw _, h => by cases h
  | .lst _ _, h => by cases h
  | .mp _ _, h => by cases h
def Lit.toV : Lit → List Value
  | .bool b => [.bool b]
  | .int k n => [.int k n]
  | .string l => [.string ⟨l.toArray⟩]
  | _ => []
section
variable {H : Type} {enc : TypeId × Value → H} {P : Program} {w : World} {base : Nat} {spare : Nat → Bool} {held : Bool}
end
theorem viewOk_world {Γ : List (Nat × List D)} {W : World} (hg : ∀ p, p ∈ Γ → Gp ⟨wV W, []⟩ p) : ViewOk Γ (wV W) W :=
  ⟨fun _ _ h => h, fun _ h => h, hg⟩
theorem trodAll_carry {H : Type} {enc : TypeId × Value → H} {P : Program} (hl : laidOutB P = true) {W W' : World} (hb : Below W.heap.size W W') : ∀ {ts : List TypeId} {vs : List Value} {ds : List (DataW H)} {ps : List MemPlace},
    (∀ t ∈ ts, P.readableRec t = true ∧ t < P.types.size) → DataW.TrodAll enc P W 0 (fun _ => true) true ts vs ds ps → (∀ x ∈ ps, x.block < W.heap.size) → DataW.TrodAll enc P W' 0 (fun b => decide (b < W.heap.size)) true ts vs ds ps
  | [], [], [], ps, _, h, _ => h
  | t :: ts, v :: vs, d :: ds, ps, hr, h, hlt => by
    obtain ⟨p, q, h1, h2, rfl⟩ := h
    exact ⟨p, q, Below.trod hl (hr t (by simp)).1 (hr t (by simp)).2 h1 hb (fun x hx => hlt x (by simp [hx])), trodAll_carry hl hb (fun t ht => hr t (by simp [ht])) h2 (fun x hx => hlt x (by simp [hx])), rfl⟩
  | [], _ :: _, _, _, _, h, _ => h.elim
  | [], [], _ :: _, _, _, h, _ => h.elim
  | _ :: _, [], _, _, _, h, _ => h.elim
  | _ :: _, _ :: _, [], _, _, h, _ => h.elim
theorem law_post {H : Type} {enc : TypeId × Value → H} {P : Program} {f : FuncId} {fn : Func} {s : ChangeSpec} {Γ : List (Nat × List D)} {args' : List AV} {W : World} {args : Array Value} {ds gs : List (DataW H)} {before : List MemPlace} {tb : TypeId}
    (hW : DataW.Whole enc P fn.params.toList s.vars false W args.toList ds gs before) (hv : s.vars = []) (hres : fn.resultTypes = #[tb]) (htb : P.underlying tb = some .bool)
    (hfn : s.fn H ds = { results := [.lit (.bool true)], args := ds }) (hl : laidOutB P = true) (hr : ∀ t ∈ fn.params.toList, P.readableRec t = true ∧ t < P.types.size)
    (hA : AFn P Γ f args' [.d (.bool true)]) (hΓ : ViewOk Γ (wV W) W) (hargs : All2 (Ar ⟨wV W, []⟩) args' args.toList) :
    Calls P f args W fun e W' => ∃ v, e = .returned v ∧ s.post enc P fn false true false false W args v W' := by
  have hcall := hA.run (wV W) W args.toList hΓ hargs
  rw [show args.toList.toArray = args by simp] at hcall
  refine hcall.mono fun e W' ⟨V', vs, he, hle, hview, himm, hrs, hb⟩ => ?_
  have hvs : vs = [.bool true] := by
    cases hrs with
    | cons h1 h2 => cases h2; rw [dr_bool h1]
  subst hvs
  subst he
  have hW0 := hW
  obtain ⟨p, q, hA0, hV, rfl, hfz, hnd⟩ := hW
  rw [hv] at hV
  obtain ⟨rfl, rfl⟩ := trodVars_none hV
  have hlt : ∀ x ∈ p, x.block < W.heap.size := fun x hx => hW0.lt x (by simpa using hx)
  refine ⟨_, rfl, ds, [], p ++ [], [], p, [], hW0, ?_, ?_, ?_, World.keptBut_mono (fun p' hp => ⟨hp, ?_⟩) (hb.frame (· ∈ p ++ [])), fun h => (by cases h)⟩
  all_goals simp only [List.append_nil] at *
  · rw [hfn, hres]
    exact trodAll_cons_mk (shut_bool htb true) trodAll_mk0
  · rw [hfn]
    exact trodAll_carry hl hb hr hA0 hlt
  · rw [hfn, hv]; rfl
  · exact Or.inr (by simpa using hp)
end Go.Ax

/- A string turned into a list of bytes. No condition. -/
namespace Go.Ax
open Go Go.RowKit Go.Lib
def byD (c : UInt8) : List D := [.int .u8 c.toNat]
attribute [push_cast] byD
def strB (P : Program) (t : TypeId) : Bool := match P.underlying t with | some .string => true | _ => false
def bysT (P : Program) (t : TypeId) : Bool := match P.underlying t with
  | some (.slice e) => match P.underlying e with
    | some (.int .u8) => true
    | _ => false
  | _ => false
theorem strB_ok {P : Program} {t : TypeId} (h : strB P t = true) : P.underlying t = some .string := by
  unfold strB at h
  split at h
  · assumption
  · cases h
theorem bysT_ok {P : Program} {t : TypeId} (h : bysT P t = true) : ∃ e, P.underlying t = some (.slice e) ∧ P.underlying e = some (.int .u8) := by
  unfold bysT at h
  split at h
  · next e he =>
    split at h
    · next h2 => exact ⟨e, he, h2⟩
    · cases h
  · cases h
section
variable {P : Program} {pm : Pm} {h : List LB} {ρ : Operand → AV} {dst : Option Tmp} {ty : TypeId} {p : String} {af : Array Edge} {gd : Option (Nat × Bool)}
theorem q_rune {src d' : TypeId} {x : Operand} {kd : IntKind} {n : Int} (hx : ρ x = .c (.d (.int kd n))) (hs : (P.underlying src).isSome = true) (hd : strB P d' = true) :
    Still P h ⟨dst, .convert src d' x, ty, p, af, gd⟩ ρ (.c (.d (.str (encodeRune n)))) := by
  intro cx G w a s ho
  have h1 := ar_int (hx ▸ ho x (by simp [Op.operands]))
  refine ⟨.string (Utf8.encode n), ?_, ?_⟩
  · have := run_convert_int_string (P := P) w src d' kd n hs (strB_ok hd)
    simp only [execOp, h1, Sem.run_bind, this, Result.andThen_ok, Sem.run_pure]
  · rw [encode_str]; exact Dr.str _
theorem q_bytes {src d' : TypeId} {x : Operand} {l : List UInt8} (hx : ρ x = .c (.d (.str l))) (hs : strB P src = true) (hd : bysT P d' = true) (hl : l.length ≤ 16777216) :
    Qt P pm h ⟨dst, .convert src d' x, ty, p, af, gd⟩ ρ (.c (.d (.lst 1 (l.map byD)))) := by
  intro cx G w a _ s ho next Q hnext
  obtain ⟨e, he, h8⟩ := bysT_ok hd
  have h1 : a.eval x = .string ⟨l.toArray⟩ := ar_str (hx ▸ ho x (by simp [Op.operands]))
  have hrun := Go.Lib.run_convert_string_bytes (P := P) w src d' e ⟨l.toArray⟩ (strB_ok hs) he h8
  have hsz : (⟨l.toArray⟩ : ByteArray).size = l.length := rfl
  have hr : (execOp a.eval ⟨dst, .convert src d' x, ty, p, af, gd⟩).run P w = .ok (.value (.slice (some ⟨w.heap.size, 0, none⟩) l.length (grownCap w l.length 0 e))) (bytesWorld w e ⟨l.toArray⟩) := by
    simp only [execOp, h1, Sem.run_bind, hrun, Result.andThen_ok, Sem.run_pure, hsz]
  unfold Oper.wp
  rw [hr]
  have hb : Below w.heap.size w (bytesWorld w e ⟨l.toArray⟩) := ⟨rfl, rfl, rfl, by rw [bytesWorld_size]; omega, fun k hk => bytesWorld_at_old w e _ k hk⟩
  have s' : SatH cx G h (bytesWorld w e ⟨l.toArray⟩) := s.later hb
  have hH : G.V.H w.heap.size = none := (s.alloc (.cells #[] e)).2.1
  have hne := (s.alloc (.cells #[] e)).2.2
  have hnew := bytesWorld_at_new w e ⟨l.toArray⟩
  generalize hob : Obj.cells (bytesCells w e ⟨l.toArray⟩) e ((bytesCells w e ⟨l.toArray⟩).size, (bytesCells w e ⟨l.toArray⟩).size + 1) = ob at hnew
  let V' : Vw := ⟨fun b => if b = w.heap.size then some ob else G.V.H b, fun b => G.V.I b ∨ b = w.heap.size⟩
  have hV : G.V.Le V' := ⟨fun b o e => by
    have : b ≠ w.heap.size := fun e' => by rw [e', hH] at e; cases e
    simp only [V', if_neg this, e], fun b hb => .inl hb⟩
  have hG : GLe G.g.length G ⟨V', G.g⟩ := ⟨hV, fun i v n _ e => ⟨v, n, e, Nat.le_refl _, fun _ => rfl, fun _ => ⟨rfl, rfl⟩⟩⟩
  refine hnext _ _ ⟨V', G.g⟩ hG ⟨s'.len, fun i b e hi he => ?_, s'.sep, fun b o hb => ?_, fun b hb => ?_, s'.below, s'.ext.trans (hG.all _), fun q hq => (s'.glob q hq).grow hG, s'.sz⟩ ?_
  · have h0 := s'.ent i b e hi he
    refine Lr.mono' hG ?_ h0
    intro k hlv hk
    have := hne i b e hi hlv he
    have hkn : k ≠ w.heap.size := fun e' => this (by rw [hk, e'])
    simp only [V', if_neg hkn]
    exact (h0.blk hlv hk).2.2
  · simp only [V'] at hb
    split at hb
    · next e => cases hb; rw [e]; exact hnew
    · exact s'.view b o hb
  · rcases hb with hb | rfl
    · obtain ⟨⟨o, h1⟩, h2⟩ := s'.imm b hb
      exact ⟨⟨o, hV.H b o h1⟩, h2⟩
    · exact ⟨⟨ob, by simp [V']⟩, .inr s.below.size⟩
  · show Dr V' _ _
    have key : Dr V' (.lst 1 (l.map byD)) (.slice (some ⟨w.heap.size, 0, none⟩) (l.map byD).length (grownCap w l.length 0 e)) := by
      refine .lst 1 (l.map byD) _ _ (fun i _ => .int .u8 (l.getD i 0).toNat) (by rw [List.length_map]; exact grownCap_ge w _ 0 e) (grownCap_le_maxLen w _ 0 e (by unfold maxLen; omega)) (fun x hx => ?_) (fun hn => ⟨_, rfl, .inr rfl, fun i x j c h1 h2 => ?_⟩) (fun i x j c h1 h2 => ?_)
      · obtain ⟨c, _, rfl⟩ := List.mem_map.1 hx; rfl
      · have hil : i < l.length := by have := getElem?_lt h1; simpa using this
        simp only [List.getElem?_map, List.getElem?_eq_getElem hil, Option.map_some, Option.some.injEq] at h1
        subst h1
        have hj : j = 0 := by
          cases j with
          | zero => rfl
          | succ j => simp [byD] at h2
        subst hj
        rw [add_plain]
        have hcell := bytesWorld_cell w e ⟨l.toArray⟩ i hil
        rw [show 0 + (i * 1 + 0) = i by omega]
        have e1 : cellIn V'.H ⟨w.heap.size, i, none⟩ = (bytesWorld w e ⟨l.toArray⟩).cell? ⟨w.heap.size, i, none⟩ := by
          rw [← cellIn_world]
          simp only [cellIn, V', if_true, hnew]
        rw [e1, hcell]
      · have hil : i < l.length := by have := getElem?_lt h1; simpa using this
        simp only [List.getElem?_map, List.getElem?_eq_getElem hil, Option.map_some, Option.some.injEq] at h1
        subst h1
        have hj : j = 0 := by
          cases j with
          | zero => rfl
          | succ j => simp [byD] at h2
        subst hj
        simp only [byD, List.getElem?_cons_zero, Option.some.injEq] at h2
        subst h2
        have : l.getD i 0 = l[i] := by simp [List.getElem?_eq_getElem hil]
        rw [this]
        exact .int _ _
    rw [List.length_map] at key
    exact key
end
end Go.Ax
