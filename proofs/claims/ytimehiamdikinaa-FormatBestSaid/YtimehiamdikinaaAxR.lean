/- Small facts for walks: bytes as numbers, rests of lists, the first place of a byte, predicates as function values. No condition. -/
import Derived.Test.YtimehiamdikinaaAxQ
import Derived.Laws.Externs
import Derived.Lib.Bytealg
import Derived.Lib.IndexLaws
set_option linter.all false
namespace Go.Ax
open Go Go.RowKit
theorem u8eq (a b : UInt8) : ((a.toNat : Int) = (b.toNat : Int)) ↔ a = b := by rw [Int.ofNat_inj, UInt8.toNat_inj]
theorem drop_cons {α : Type} {l : List α} {k : Nat} (h : k < l.length) : l.drop k = l[k] :: l.drop (k + 1) := List.drop_eq_getElem_cons h
theorem drop_end {α : Type} {l : List α} {k : Nat} (h : ¬ k < l.length) : l.drop k = [] := List.drop_eq_nil_of_le (by omega)
theorem take_next {α : Type} {l : List α} {k : Nat} (h : k < l.length) : l.take (k + 1) = l.take k ++ [l[k]] := List.take_succ_eq_append_getElem h
theorem icast_succ (k : Nat) : ((k + 1 : Nat) : Int) = (k : Int) + 1 := rfl

section
variable {P : Program} {h : List LB} {ρ : Operand → AV} {dst : Option Tmp} {ty : TypeId} {p : String} {af : Array Edge} {gd : Option (Nat × Bool)}
theorem s_indexByte {f : FuncId} {fn : Func} (hf : P.funcs[f]? = some fn) (hname : (fn.name == "runtime.NumGoroutine") = false) (hb : fn.body.isNone = true) (hn : Extern.findNext fn = none) (he : Extern.find fn = some Extern.BytealgIndexByte.indexByte)
    (x y : Operand) (ts : Array TypeId) {l : List UInt8} {c : UInt8} (hx : ρ x = .c (.d (.str l))) (hy : ρ y = .c (.d (.int .u8 c.toNat))) :
    Still P h ⟨dst, .call { callee := .value (.func f), args := #[x, y], argTypes := ts }, ty, p, af, gd⟩ ρ (.c (.d (.int .i64 (Lib.indexByte l c)))) := by
  intro cx G w a s ho
  have e1 := ar_str (hx ▸ ho x (by simp [Op.operands, Call.operands]))
  have e2 := ar_int (hy ▸ ho y (by simp [Op.operands, Call.operands]))
  refine ⟨_, ?_, Dr.int _ _⟩
  have e3 : ((c.toNat : Nat) : Int).toNat.toUInt8 = c := by simp
  have h0 : a.eval (.func f) = .func (.func f) #[] #[] := rfl
  simp [execOp, resolve, Deferred.ofValue, h0, invoke, run_callFunc_extern hf hname hb hn he, e1, e2, Lib.run_indexByteString, e3]
end

/-- What a function value does that tells a property of one struct. -/
def predF {α : Type} (ds : α → List D) (p : α → Bool) : List AV → List RV → Prop := fun a r => ∃ x, a = [.agg ((ds x).map C.d)] ∧ r = [.d (.bool (p x))]
/-- The first place, from a number on, or -1. -/
def fI {α : Type} (p : α → Bool) : Nat → List α → Int
  | _, [] => -1
  | i, x :: r => if p x then (i : Int) else fI p (i + 1) r
theorem fI_spec {α : Type} (p : α → Bool) : ∀ (l : List α) (i : Nat), (fI p i l = -1 ∧ l.find? p = none) ∨ (∃ j : Nat, fI p i l = ((i + j : Nat) : Int) ∧ ∃ h : j < l.length, l.find? p = some l[j])
  | [], i => .inl ⟨rfl, rfl⟩
  | x :: r, i => by
    by_cases hp : p x = true
    · exact .inr ⟨0, by simp [fI, hp], by simp, by simp [hp]⟩
    · rcases fI_spec p r (i + 1) with ⟨h1, h2⟩ | ⟨j, h1, h2, h3⟩
      · exact .inl ⟨by simp [fI, hp, h1], by simp [hp, h2]⟩
      · exact .inr ⟨j + 1, by simp [fI, hp, h1]; omega, by simp; omega, by simp [hp, h3]⟩
theorem fI_lt {α : Type} (p : α → Bool) (l : List α) : fI p 0 l < l.length := by
  rcases fI_spec p l 0 with ⟨h1, _⟩ | ⟨j, h1, h2, _⟩ <;> omega
theorem fI_ge {α : Type} (p : α → Bool) (l : List α) : decide (0 ≤ fI p 0 l) = l.any p := by
  rcases fI_spec p l 0 with ⟨h1, h2⟩ | ⟨j, h1, h2, h3⟩
  · rw [h1]; symm; simp at h2 ⊢; exact fun x hx => by simpa using h2 x hx
  · rw [h1]; symm
    have := List.find?_some h3
    simp
    exact ⟨_, List.getElem_mem h2, this⟩
theorem indexByte_any (l : List UInt8) (c : UInt8) : decide (Lib.indexByte l c < 0) = !(l.any (· == c)) := by
  have hge := Lib.indexByte_ge l c
  by_cases h : Lib.indexByte l c = -1
  · rw [h]
    have := Lib.indexByte_none h
    have hn : l.any (· == c) = false := by
      rw [List.any_eq_false]
      intro x hx
      obtain ⟨k, hk, rfl⟩ := List.getElem_of_mem hx
      have := this k
      rw [List.getElem?_eq_getElem hk] at this
      simpa using this
    rw [hn]; rfl
  · obtain ⟨o, ho⟩ : ∃ o : Nat, Lib.indexByte l c = o := ⟨(Lib.indexByte l c).toNat, by omega⟩
    have h1 := (Lib.indexByte_some ho).1
    have hy : l.any (· == c) = true := List.any_eq_true.2 ⟨c, List.mem_of_getElem? h1, by simp⟩
    rw [hy, ho]; simp
end Go.Ax

namespace Go.Ax
open Go Go.RowKit
variable {P : Program} {pm : Pm} {st : St}
/-- Another account of an entry that holds as well. -/
theorem SatH.relabel {cx : Cx} {G : Gh} {h : List LB} {w : World} (s : SatH cx G h w) {i : Nat} {lb lb' : LB} (hi : h[i]? = some lb) (hl : lb'.live → lb.live)
    (hn : ∀ e, G.g[i]? = some e → Lr G w cx.w0.heap.size lb e → Lr G w cx.w0.heap.size lb' e) : SatH cx G (h.set i lb') w := by
  have back : ∀ (j : Nat) (b : LB), (h.set i lb')[j]? = some b → ∃ b0, h[j]? = some b0 ∧ (b.live → b0.live) ∧ ((j = i ∧ b = lb') ∨ b = b0) := by
    intro j b hb
    rw [List.getElem?_set] at hb
    by_cases e : i = j
    · subst e
      simp only [if_true] at hb
      rw [if_pos (getElem?_lt hi)] at hb
      cases hb
      exact ⟨lb, hi, hl, .inl ⟨rfl, rfl⟩⟩
    · rw [if_neg e] at hb
      exact ⟨b, hb, id, .inr rfl⟩
  refine ⟨by rw [List.length_set]; exact s.len, fun j b e hb he => ?_, fun j k bj bk ej ek q h1 h2 l1 l2 => ?_, s.view, s.imm, s.below, s.ext, s.glob⟩
  · obtain ⟨b0, h0, _, hc⟩ := back j b hb
    rcases hc with ⟨rfl, rfl⟩ | rfl
    · rw [hi] at h0; cases h0
      exact hn e he (s.ent _ _ _ hi he)
    · exact s.ent _ _ _ h0 he
  · obtain ⟨b1, g1, k1, _⟩ := back j bj h1
    obtain ⟨b2, g2, k2, _⟩ := back k bk h2
    exact s.sep j k b1 b2 ej ek q g1 g2 (k1 l1) (k2 l2)

/-- A nil slice in a box, taken as an empty row of the call's own. -/
theorem Sat.nilbox {cx : Cx} {G : Gh} {a : Act} {w : World} (s : Sat cx G st a w) (i j : Nat) (te : TypeId) (sz : Nat) {t : TypeId} {cs : List C} (hi : st.heap[i]? = some (.box t cs)) (hj : cs[j]? = some (.d (.raw (.slice none 0 0)))) :
    Sat cx ⟨G.V, G.g ++ [(.slice none 0 0, 0)]⟩ ⟨st.env, (st.heap ++ [LB.row te sz [] 0]).set i (LB.box t (cs.set j (C.own st.heap.length 0)))⟩ a w := by
  have s' := s.h.push (.slice none 0 0) 0 (.row te sz [] 0) ⟨rfl, [], World.ownsRow_nil w _ te sz, fun b hb => (by cases hb), .nil, by simp⟩ (fun k hk => by cases hk)
  have hlt := getElem?_lt hi
  have hi' : (st.heap ++ [LB.row te sz [] 0])[i]? = some (.box t cs) := by rw [List.getElem?_append_left hlt]; exact hi
  have s2 := s'.relabel (lb' := .box t (cs.set j (.own st.heap.length 0))) hi' id fun e he hL => by
    obtain ⟨h1, b, vs, h2, h3, h4, h5, h6⟩ := hL
    refine ⟨h1, b, vs, h2, h3, h4, h5, ?_⟩
    obtain ⟨v, hv, hr⟩ := h6.get _ _ hj
    have e1 := ar_raw (hr : Ar _ (.c (.d (.raw (.slice none 0 0)))) v)
    have hs := h6.set (i := j) (a := C.own st.heap.length 0) (b := v) (by
      rw [e1]
      exact ⟨rfl, _, 0, get_last _ _ s.h.len.symm, Nat.le_refl _, fun _ => rfl⟩)
    rwa [show vs.set j v = vs from by
      have := getElem?_lt hv
      rw [List.getElem?_eq_getElem this] at hv
      injection hv with hv
      rw [← hv]; exact List.set_getElem_self this] at hs
  exact ⟨s2, fun t => (s.env t).grow (gle_push _), s.N, s.defers⟩
theorem AXc.nilbox {c : Code} {Q : Exit → St → Prop} (i j : Nat) (te : TypeId) (sz : Nat) {t : TypeId} {cs : List C} (hi : st.heap[i]? = some (.box t cs)) (hj : cs[j]? = some (.d (.raw (.slice none 0 0))))
    (h : AXc P pm c ⟨st.env, (st.heap ++ [LB.row te sz [] 0]).set i (LB.box t (cs.set j (C.own st.heap.length 0)))⟩ Q) : AXc P pm c st Q :=
  fun cx G a w hp s => h cx _ a w hp (s.nilbox i j te sz hi hj)
end Go.Ax

namespace Go.Ax
open Go Go.RowKit
def locsOf : List AV → Option (List Nat)
  | [] => some []
  | .c (.loc i 0) :: r => (locsOf r).map (i :: ·)
  | _ => none
theorem locsOf_map : ∀ {l : List AV} {is : List Nat}, locsOf l = some is → l = is.map fun i => AV.c (.loc i 0)
  | [], is, h => by cases h; rfl
  | .c (.loc i 0) :: r, is, h => by
    simp only [locsOf, Option.map_eq_some_iff] at h
    obtain ⟨js, h1, rfl⟩ := h
    rw [locsOf_map h1]; rfl
  | .c (.loc i (n + 1)) :: r, is, h => by simp [locsOf] at h
  | .any :: r, is, h => by simp [locsOf] at h
  | .agg _ :: r, is, h => by simp [locsOf] at h
  | .tup _ :: r, is, h => by simp [locsOf] at h
  | .c (.d _) :: r, is, h => by simp [locsOf] at h
  | .c .junk :: r, is, h => by simp [locsOf] at h
  | .c (.own _ _) :: r, is, h => by simp [locsOf] at h
  | .c (.sub _ _ _ _ _) :: r, is, h => by simp [locsOf] at h
  | .c (.rowp _ _ _ _ _) :: r, is, h => by simp [locsOf] at h
  | .c (.ptr _) :: r, is, h => by simp [locsOf] at h
  | .c (.bor _ _) :: r, is, h => by simp [locsOf] at h
  | .c (.clo _ _) :: r, is, h => by simp [locsOf] at h
  | .c (.fn _) :: r, is, h => by simp [locsOf] at h
variable {P : Program} {h : List LB} {ρ : Operand → AV} {dst : Option Tmp} {ty : TypeId} {p : String} {af : Array Edge} {gd : Option (Nat × Bool)}
theorem s_makeFunc' (f : FuncId) (caps : Array Operand) {is : List Nat} (hc : locsOf (caps.toList.map ρ) = some is) : Still P h ⟨dst, .makeFunc (.func f) #[] caps, ty, p, af, gd⟩ ρ (.c (.clo f is)) := s_makeFunc f caps (locsOf_map hc)
end Go.Ax

namespace Go.Ax
theorem indexByte_any' (l : List UInt8) (c : UInt8) : decide (0 ≤ Lib.indexByte l c) = l.any (· == c) := by
  have h := indexByte_any l c
  cases e : l.any (· == c) <;> rw [e] at h <;> simp at h ⊢ <;> omega
end Go.Ax

namespace Go.Ax
theorem rvsOf_own {h : List LB} {i ver sz : Nat} {t : TypeId} {els : List (List D)} (hi : h[i]? = some (.row t sz els ver)) : rvsOf (some i) h [.c (.own i ver)] = some [.fresh t sz els] := by
  simp [rvsOf, rvOf, cellD, hi]
end Go.Ax
