/-
  The operations that make or write local memory: variables, stores, composite values, slices of slices, append, make. No condition.
-/
import Derived.Test.YtimehiamdikinaaAxE
set_option linter.all false
namespace Go.Ax
open Go Go.RowKit

variable {P : Program} {h : List LB} {ρ : Operand → AV} {dst : Option Tmp} {ty : TypeId} {p : String} {af : Array Edge} {gd : Option (Nat × Bool)}

/-! ### s[lo:hi] -/
theorem run_slBound {k : IntKind} {i : Int} {n : Nat} (h0 : 0 ≤ i) (h1 : i ≤ n) (code : BoundsCode) (w : World) : (Instr.sliceBound (.int k i) n code).run P w = .ok i.toNat w := by
  simp [Instr.sliceBound, asIntOf, h0, h1]

/-- An operand that may be left out: the number it gives. -/
def optI (ρ : Operand → AV) (x : Option Operand) (d : Nat) (n : Nat) : Prop :=
  match x with
  | none => n = d
  | some x => ∃ k i, ρ x = .c (.d (.int k i)) ∧ 0 ≤ i ∧ i.toNat = n

theorem run_slBounds {a : Act} {G : Gh} {isSl : Bool} {lo hi : Option Operand} {len cap l r : Nat} (hho : ∀ x, (lo = some x ∨ hi = some x) → Ar G (ρ x) (a.eval x)) (hl : optI ρ lo 0 l) (hr : optI ρ hi len r) (h1 : l ≤ r) (h2 : r ≤ cap) (w : World) :
    (Instr.sliceBounds isSl len cap (lo.map a.eval) (hi.map a.eval) none).run P w = .ok (l, r, cap) w := by
  cases hi with
  | none =>
    simp only [optI] at hr; subst hr
    cases lo with
    | none => simp only [optI] at hl; subst hl; simp [Instr.sliceBounds]
    | some x =>
      obtain ⟨k, i, e, h0, hn⟩ := hl
      have e' := ar_int (e ▸ hho x (.inl rfl))
      have hb := fun code => run_slBound (P := P) (k := k) (n := r) h0 (by omega) code w
      simp [Instr.sliceBounds, e', hb, hn]
  | some y =>
    obtain ⟨k', i', e2, h0', hn'⟩ := hr
    have e2' := ar_int (e2 ▸ hho y (.inr rfl))
    have hb' := fun code => run_slBound (P := P) (k := k') (n := cap) h0' (by omega) code w
    cases lo with
    | none => simp only [optI] at hl; subst hl; simp [Instr.sliceBounds, e2', hb', hn']
    | some x =>
      obtain ⟨k, i, e, h0, hn⟩ := hl
      have e' := ar_int (e ▸ hho x (.inl rfl))
      have hb := fun code => run_slBound (P := P) (k := k) (n := r) h0 (by omega) code w
      simp [Instr.sliceBounds, e', e2', hb', hb, hn, hn']

theorem mem_slice_ops {x y : Operand} {t : TypeId} {lo hi mx : Option Operand} (hh : lo = some y ∨ hi = some y) : y ∈ (Op.slice t x lo hi mx).operands.toList := by
  rcases hh with rfl | rfl <;> simp [Op.operands]

theorem s_slice_str (t : TypeId) (x : Operand) (lo hi : Option Operand) {s : List UInt8} {l r : Nat} (ht : P.underlying t = some .string) (hx : ρ x = .c (.d (.str s))) (hl : optI ρ lo 0 l) (hr : optI ρ hi s.length r) (h1 : l ≤ r) (h2 : r ≤ s.length) :
    Still P h ⟨dst, .slice t x lo hi none, ty, p, af, gd⟩ ρ (.c (.d (.str ((s.drop l).take (r - l))))) := by
  intro cx G w a sh ho
  have e1 := ar_str (hx ▸ ho x (by simp [Op.operands]))
  refine ⟨.string ⟨((s.drop l).take (r - l)).toArray⟩, ?_, Dr.str _⟩
  have hz : (⟨s.toArray⟩ : ByteArray).size = s.length := by simp [ByteArray.size]
  have hb := run_slBounds (P := P) (isSl := false) (a := a) (G := G) (fun y hy => ho y (mem_slice_ops hy)) hl hr h1 h2 w
  simp only [execOp, e1, Instr.sliceAt, Instr.slice, Option.map_none, Sem.run_bind, run_underlying ht, Result.andThen_ok, Option.isSome_none, Bool.false_eq_true, if_false, Sem.run_pure, hz, hb, Lib.extract_eq]

theorem slice_cases (cap l sz : Nat) (ad : Addr) : (if cap = l then some ad else Option.map (fun x => x.add (l * sz)) (some ad)) = some (if cap = l then ad else ad.add (l * sz)) := by split <;> rfl

theorem get_cut {els : List (List D)} {l r i : Nat} {e : List D} (hh : ((els.drop l).take (r - l))[i]? = some e) : els[l + i]? = some e := by
  rw [List.getElem?_take] at hh
  split at hh
  · rwa [List.getElem?_drop] at hh
  · cases hh

theorem run_slice_sl {t e : TypeId} {sz : Nat} (hs : slT P t = some (e, sz)) {a : Act} {G : Gh} {lo hi : Option Operand} {A : Option Addr} {n cap l r : Nat} (hho : ∀ x, (lo = some x ∨ hi = some x) → Ar G (ρ x) (a.eval x)) (hl : optI ρ lo 0 l) (hr : optI ρ hi n r) (h1 : l ≤ r) (h2 : r ≤ cap) (w : World) :
    (Instr.sliceAt t (.slice A n cap) (lo.map a.eval) (hi.map a.eval) none).run P w = .ok (.slice (if cap = l then A else A.map (·.add (l * sz))) (r - l) (cap - l)) w := by
  obtain ⟨hu, hsz⟩ := slT_some hs
  have hb := run_slBounds (P := P) (isSl := true) (len := n) (cap := cap) hho hl hr h1 h2 w
  simp [Instr.sliceAt, Instr.slice, run_underlying hu, hb, run_sizeOf' hsz]

theorem s_slice_lst (t : TypeId) (x : Operand) (lo hi : Option Operand) {e : TypeId} {sz sz' l r : Nat} {els : List (List D)} (hs : slT P t = some (e, sz)) (hx : ρ x = .c (.d (.lst sz' els))) (hsz : sz' = sz) (hl : optI ρ lo 0 l) (hr : optI ρ hi els.length r) (h1 : l ≤ r) (h2 : r ≤ els.length) :
    Still P h ⟨dst, .slice t x lo hi none, ty, p, af, gd⟩ ρ (.c (.d (.lst sz ((els.drop l).take (r - l))))) := by
  subst hsz
  intro cx G w a sh ho
  obtain ⟨A, cap, u, e1, hc, hm, he, ha, hu⟩ := dr_lst (hx ▸ ho x (by simp [Op.operands]) : Ar G (.c (.d (.lst sz' els))) (a.eval x))
  have hrun := run_slice_sl (P := P) hs (A := A) (cap := cap) (fun y hy => ho y (mem_slice_ops hy)) hl hr h1 (by omega) w
  have hlen : ((els.drop l).take (r - l)).length = r - l := by rw [List.length_take, List.length_drop]; omega
  refine ⟨.slice (if cap = l then A else A.map (·.add (l * sz'))) (r - l) (cap - l), by simp only [execOp, e1, Option.map_none, Sem.run_bind, hrun, Result.andThen_ok, Sem.run_pure], ?_⟩
  have key : Dr G.V (.lst sz' ((els.drop l).take (r - l))) (.slice (if cap = l then A else A.map (·.add (l * sz'))) ((els.drop l).take (r - l)).length (cap - l)) → Ar G (.c (.d (.lst sz' ((els.drop l).take (r - l))))) (.slice (if cap = l then A else A.map (·.add (l * sz'))) (r - l) (cap - l)) := fun hh => by
    have := hlen
    rw [hlen] at hh; exact hh
  refine key ?_
  refine .lst sz' _ _ (cap - l) (fun i j => u (l + i) j) (by rw [hlen]; omega) (by omega) (fun e he' => he e (List.mem_of_mem_drop (List.mem_of_mem_take he'))) (fun hn => ?_) (fun i e j c h3 h4 => hu _ e j c (get_cut h3) h4)
  have hpos : 0 < r - l := by have := List.length_pos_iff.2 hn; omega
  obtain ⟨ad, rfl, hI, hcell⟩ := ha (by intro hn; subst hn; simp at h2; omega)
  rw [if_neg (by omega)]
  refine ⟨ad.add (l * sz'), rfl, by rw [add_block]; exact hI, fun i e j c h3 h4 => ?_⟩
  rw [add_add, show l * sz' + (i * sz' + j) = (l + i) * sz' + j from by rw [Nat.add_mul]; omega]
  exact hcell _ e j c (get_cut h3) h4

theorem s_slice_bor (t : TypeId) (x : Operand) (lo hi : Option Operand) {e : TypeId} {sz sz' l r : Nat} {els : List (List D)} (hs : slT P t = some (e, sz)) (hx : ρ x = .c (.bor sz' els)) (hsz : sz' = sz) (hl : optI ρ lo 0 l) (hr : optI ρ hi els.length r) (h1 : l ≤ r) (h2 : r ≤ els.length) :
    Still P h ⟨dst, .slice t x lo hi none, ty, p, af, gd⟩ ρ (.c (.bor sz ((els.drop l).take (r - l)))) := by
  subst hsz
  intro cx G w a sh ho
  obtain ⟨A, cap, u, e1, hc, hm, he, ha, hu⟩ := (hx ▸ ho x (by simp [Op.operands]) : Ar G (.c (.bor sz' els)) (a.eval x))
  have hrun := run_slice_sl (P := P) hs (A := A) (cap := cap) (fun y hy => ho y (mem_slice_ops hy)) hl hr h1 (by omega) w
  have hlen : ((els.drop l).take (r - l)).length = r - l := by rw [List.length_take, List.length_drop]; omega
  refine ⟨.slice (if cap = l then A else A.map (·.add (l * sz'))) (r - l) (cap - l), by simp only [execOp, e1, Option.map_none, Sem.run_bind, hrun, Result.andThen_ok, Sem.run_pure], ?_⟩
  refine ⟨_, cap - l, (fun i j => u (l + i) j), by rw [hlen], by rw [hlen]; omega, by omega, (fun e he' => he e (List.mem_of_mem_drop (List.mem_of_mem_take he'))), (fun hn => ?_), (fun i e j c h3 h4 => hu _ e j c (get_cut h3) h4)⟩
  have hpos : 0 < r - l := by have := List.length_pos_iff.2 hn; omega
  obtain ⟨ad, rfl, hcell⟩ := ha (by intro hn; subst hn; simp at h2; omega)
  rw [if_neg (by omega)]
  refine ⟨ad.add (l * sz'), rfl, fun i e j c h3 h4 => ?_⟩
  rw [add_add, show l * sz' + (i * sz' + j) = (l + i) * sz' + j from by rw [Nat.add_mul]; omega]
  exact hcell _ e j c (get_cut h3) h4

theorem s_slice_own (t : TypeId) (x : Operand) (lo hi : Option Operand) {e te : TypeId} {sz sz' j ver l r : Nat} {els : List (List D)} (hs : slT P t = some (e, sz)) (hx : ρ x = .c (.own j ver)) (hj : h[j]? = some (.row te sz' els ver)) (hsz : sz' = sz) (hl : optI ρ lo 0 l) (hr : optI ρ hi els.length r) (h1 : l ≤ r) (h2 : r ≤ els.length) :
    Still P h ⟨dst, .slice t x lo hi none, ty, p, af, gd⟩ ρ (.c (.sub j ver sz l (r - l))) := by
  subst hsz
  intro cx G w a sh ho
  obtain ⟨v0, xs, hg, how, _, _, _⟩ := row_at sh hj
  obtain ⟨_, v0', n', hg', _, hxx⟩ := (hx ▸ ho x (by simp [Op.operands]) : Ar G (.c (.own j ver)) (a.eval x))
  rw [hg] at hg'
  cases hg'
  have e1 := hxx rfl
  obtain ⟨A, cap, rfl, hc, hm⟩ := own_form how
  have hrun := run_slice_sl (P := P) hs (A := A) (cap := cap) (fun y hy => ho y (mem_slice_ops hy)) hl hr h1 (by omega) w
  refine ⟨.slice (if cap = l then A else A.map (·.add (l * sz'))) (r - l) (cap - l), by simp only [execOp, e1, Option.map_none, Sem.run_bind, hrun, Result.andThen_ok, Sem.run_pure], rfl, _, _, hg, Nat.le_refl _, fun _ => ⟨_, cap - l, rfl, by omega, by omega, fun hpos => ?_⟩⟩
  obtain ⟨g, cap', hv', _⟩ := own_cells how (by omega)
  injection hv' with hA _ hcap
  subst hA hcap
  refine ⟨g, els.length, cap, rfl, ?_⟩
  rw [if_neg (by omega)]
  simp [add_plain]

theorem s_makeFunc (f : FuncId) (caps : Array Operand) {is : List Nat} (hc : caps.toList.map ρ = is.map fun i => .c (.loc i 0)) : Still P h ⟨dst, .makeFunc (.func f) #[] caps, ty, p, af, gd⟩ ρ (.c (.clo f is)) := by
  intro cx G w a sh ho
  have key : ∀ (l : List Operand) (is : List Nat), l.map ρ = is.map (fun i => .c (.loc i 0)) → (∀ x ∈ l, Ar G (ρ x) (a.eval x)) →
      ∃ bs : List Nat, l.map a.eval = bs.map (fun b => Value.pointer (some ⟨b, 0, none⟩)) ∧ All2 (fun i b => ∃ n, G.g[i]? = some (.pointer (some ⟨b, 0, none⟩), n)) is bs := by
    intro l
    induction l with
    | nil => intro is hh _; cases is with
      | nil => exact ⟨[], rfl, .nil⟩
      | cons i is => simp at hh
    | cons x l ih => intro is hh hx; cases is with
      | nil => simp at hh
      | cons i is =>
        simp only [List.map_cons, List.cons.injEq] at hh
        obtain ⟨bs, h1, h2⟩ := ih is hh.2 fun y hy => hx y (by simp [hy])
        obtain ⟨b, n, hg, e⟩ := (hh.1 ▸ hx x (by simp) : Ar G (.c (.loc i 0)) (a.eval x))
        exact ⟨b :: bs, by simp [h1, e], .cons ⟨n, hg⟩ h2⟩
  obtain ⟨bs, h1, h2⟩ := key caps.toList is hc fun x hx => ho x (by simpa [Op.operands] using hx)
  refine ⟨.func (.func f) #[] (caps.map a.eval), by simp [execOp, Instr.makeFunc], bs, ?_, h2⟩
  congr 1
  apply Array.ext'
  simp [h1]
end Go.Ax
