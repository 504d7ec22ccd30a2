/- Part of a proof about this program; no condition of its own. -/
import Derived.Test.YtanbfhnmklhjiaaGreatDoorP03
set_option linter.all false
/-
  The operations that make or write local memory: variables, stores, composite values, slices of slices, append, make. No condition.
-/
namespace Go.Ax
open Go Go.RowKit
variable {P : Program} {h : List LB} {ρ : Operand → AV} {dst : Option Tmp} {ty : TypeId} {p : String} {af : Array Edge} {gd : Option (Nat × Bool)}
/-! ### s[lo:hi] -/
theorem run_slBound {k : IntKind} {i : Int} {n : Nat} (h0 : 0 ≤ i) (h1 : i ≤ n) (code : BoundsCode) (w : World) : (Instr.sliceBound (.int k i) n code).run P w = .ok i.toNat w := by
  simp [Instr.sliceBound, asIntOf, h0, h1]
def optI (ρ : Operand → AV) (x : Option Operand) (d : Nat) (n : Nat) : Prop :=
  match x with
  | none => n = d
  | some x => ∃ k i, ρ x = .c (.d (.int k i)) ∧ 0 ≤ i ∧ i.toNat = n
theorem run_slBounds {a : Act} {G : Gh} {isSl : Bool} {lo hi : Option Operand} {len cap l r : Nat} (hho : ∀ x, (lo = some x ∨ hi = some x) → Ar G (ρ x) (a.eval x)) (hl : optI ρ lo 0 l) (hr : optI ρ hi len r) (h1 : l ≤ r) (h2 : r ≤ cap) (w : World) :
    (Instr.sliceBounds isSl len cap (lo.map a.eval) (hi.map a.eval) none).run P w = .ok (l, r, cap) w := by
  cases hi with
  | none =>
    simp only [optI] at hr; subst hr
    cases lo with
    | none => simp only [optI] at hl; subst hl; simp [Instr.sliceBounds]
    | some x =>
      obtain ⟨k, i, e, h0, hn⟩ := hl
      have e' := ar_int (e ▸ hho x (.inl rfl))
      have hb := fun code => run_slBound (P := P) (k := k) (n := r) h0 (by omega) code w
      simp [Instr.sliceBounds, e', hb, hn]
  | some y =>
    obtain ⟨k', i', e2, h0', hn'⟩ := hr
    have e2' := ar_int (e2 ▸ hho y (.inr rfl))
    have hb' := fun code => run_slBound (P := P) (k := k') (n := cap) h0' (by omega) code w
    cases lo with
    | none => simp only [optI] at hl; subst hl; simp [Instr.sliceBounds, e2', hb', hn']
    | some x =>
      obtain ⟨k, i, e, h0, hn⟩ := hl
      have e' := ar_int (e ▸ hho x (.inl rfl))
      have hb := fun code => run_slBound (P := P) (k := k) (n := r) h0 (by omega) code w
      simp [Instr.sliceBounds, e', e2', hb', hb, hn, hn']
theorem mem_slice_ops {x y : Operand} {t : TypeId} {lo hi mx : Option Operand} (hh : lo = some y ∨ hi = some y) : y ∈ (Op.slice t x lo hi mx).operands.toList := by
  rcases hh with rfl | rfl <;> simp [Op.operands]
theorem s_slice_str (t : TypeId) (x : Operand) (lo hi : Option Operand) {s : List UInt8} {l r : Nat} (ht : P.underlying t = some .string) (hx : ρ x = .c (.d (.str s))) (hl : optI ρ lo 0 l) (hr : optI ρ hi s.length r) (h1 : l ≤ r) (h2 : r ≤ s.length) :
    Still P h ⟨dst, .slice t x lo hi none, ty, p, af, gd⟩ ρ (.c (.d (.str ((s.drop l).take (r - l))))) := by
  intro cx G w a sh ho
  have e1 := ar_str (hx ▸ ho x (by simp [Op.operands]))
  refine ⟨.string ⟨((s.drop l).take (r - l)).toArray⟩, ?_, Dr.str _⟩
  have hz : (⟨s.toArray⟩ : ByteArray).size = s.length := by simp [ByteArray.size]
  have hb := run_slBounds (P := P) (isSl := false) (a := a) (G := G) (fun y hy => ho y (mem_slice_ops hy)) hl hr h1 h2 w
  simp only [execOp, e1, Instr.sliceAt, Instr.slice, Option.map_none, Sem.run_bind, run_underlying ht, Result.andThen_ok, Option.isSome_none, Bool.false_eq_true, if_false, Sem.run_pure, hz, hb, Lib.extract_eq]
theorem get_cut {els : List (List D)} {l r i : Nat} {e : List D} (hh : ((els.drop l).take (r - l))[i]? = some e) : els[l + i]? = some e := by
  rw [List.getElem?_take] at hh
  split at hh
  · rwa [List.getElem?_drop] at hh
  · cases hh
theorem run_slice_sl {t e : TypeId} {sz : Nat} (hs : slT P t = some (e, sz)) {a : Act} {G : Gh} {lo hi : Option Operand} {A : Option Addr} {n cap l r : Nat} (hho : ∀ x, (lo = some x ∨ hi = some x) → Ar G (ρ x) (a.eval x)) (hl : optI ρ lo 0 l) (hr : optI ρ hi n r) (h1 : l ≤ r) (h2 : r ≤ cap) (w : World) :
    (Instr.sliceAt t (.slice A n cap) (lo.map a.eval) (hi.map a.eval) none).run P w = .ok (.slice (if cap = l then A else A.map (·.add (l * sz))) (r - l) (cap - l)) w := by
  obtain ⟨hu, hsz⟩ := slT_some hs
  have hb := run_slBounds (P := P) (isSl := true) (len := n) (cap := cap) hho hl hr h1 h2 w
  simp [Instr.sliceAt, Instr.slice, run_underlying hu, hb, run_sizeOf' hsz]
theorem s_slice_lst (t : TypeId) (x : Operand) (lo hi : Option Operand) {e : TypeId} {sz sz' l r : Nat} {els : List (List D)} (hs : slT P t = some (e, sz)) (hx : ρ x = .c (.d (.lst sz' els))) (hsz : sz' = sz) (hl : optI ρ lo 0 l) (hr : optI ρ hi els.length r) (h1 : l ≤ r) (h2 : r ≤ els.length) :
    Still P h ⟨dst, .slice t x lo hi none, ty, p, af, gd⟩ ρ (.c (.d (.lst sz ((els.drop l).take (r - l))))) := by
  subst hsz
  intro cx G w a sh ho
  obtain ⟨A, cap, u, e1, hc, hm, he, ha, hu⟩ := dr_lst (hx ▸ ho x (by simp [Op.operands]) : Ar G (.c (.d (.lst sz' els))) (a.eval x))
  have hrun := run_slice_sl (P := P) hs (A := A) (cap := cap) (fun y hy => ho y (mem_slice_ops hy)) hl hr h1 (by omega) w
  have hlen : ((els.drop l).take (r - l)).length = r - l := by rw [List.length_take, List.length_drop]; omega
  refine ⟨.slice (if cap = l then A else A.map (·.add (l * sz'))) (r - l) (cap - l), by simp only [execOp, e1, Option.map_none, Sem.run_bind, hrun, Result.andThen_ok, Sem.run_pure], ?_⟩
  have key : Dr G.V (.lst sz' ((els.drop l).take (r - l))) (.slice (if cap = l then A else A.map (·.add (l * sz'))) ((els.drop l).take (r - l)).length (cap - l)) → Ar G (.c (.d (.lst sz' ((els.drop l).take (r - l))))) (.slice (if cap = l then A else A.map (·.add (l * sz'))) (r - l) (cap - l)) := fun hh => by
    have := hlen
    rw [hlen] at hh; exact hh
  refine key ?_
  refine .lst sz' _ _ (cap - l) (fun i j => u (l + i) j) (by rw [hlen]; omega) (by omega) (fun e he' => he e (List.mem_of_mem_drop (List.mem_of_mem_take he'))) (fun hn => ?_) (fun i e j c h3 h4 => hu _ e j c (get_cut h3) h4)
  have hpos : 0 < r - l := by have := List.length_pos_iff.2 hn; omega
  obtain ⟨ad, rfl, hI, hcell⟩ := ha (by intro hn; subst hn; simp at h2; omega)
  rw [if_neg (by omega)]
  refine ⟨ad.add (l * sz'), rfl, by rw [add_block]; exact hI, fun i e j c h3 h4 => ?_⟩
  rw [add_add, show l * sz' + (i * sz' + j) = (l + i) * sz' + j from by rw [Nat.add_mul]; omega]
  exact hcell _ e j c (get_cut h3) h4
theorem s_slice_bor (t : TypeId) (x : Operand) (lo hi : Option Operand) {e : TypeId} {sz sz' l r : Nat} {els : List (List D)} (hs : slT P t = some (e, sz)) (hx : ρ x = .c (.bor sz' els)) (hsz : sz' = sz) (hl : optI ρ lo 0 l) (hr : optI ρ hi els.length r) (h1 : l ≤ r) (h2 : r ≤ els.length) :
    Still P h ⟨dst, .slice t x lo hi none, ty, p, af, gd⟩ ρ (.c (.bor sz ((els.drop l).take (r - l)))) := by
  subst hsz
  intro cx G w a sh ho
  obtain ⟨A, cap, u, e1, hc, hm, he, ha, hu⟩ := (hx ▸ ho x (by simp [Op.operands]) : Ar G (.c (.bor sz' els)) (a.eval x))
  have hrun := run_slice_sl (P := P) hs (A := A) (cap := cap) (fun y hy => ho y (mem_slice_ops hy)) hl hr h1 (by omega) w
  have hlen : ((els.drop l).take (r - l)).length = r - l := by rw [List.length_take, List.length_drop]; omega
  refine ⟨.slice (if cap = l then A else A.map (·.add (l * sz'))) (r - l) (cap - l), by simp only [execOp, e1, Option.map_none, Sem.run_bind, hrun, Result.andThen_ok, Sem.run_pure], ?_⟩
  refine ⟨_, cap - l, (fun i j => u (l + i) j), by rw [hlen], by rw [hlen]; omega, by omega, (fun e he' => he e (List.mem_of_mem_drop (List.mem_of_mem_take he'))), (fun hn => ?_), (fun i e j c h3 h4 => hu _ e j c (get_cut h3) h4)⟩
  have hpos : 0 < r - l := by have := List.length_pos_iff.2 hn; omega
  obtain ⟨ad, rfl, hcell⟩ := ha (by intro hn; subst hn; simp at h2; omega)
  rw [if_neg (by omega)]
  refine ⟨ad.add (l * sz'), rfl, fun i e j c h3 h4 => ?_⟩
  rw [add_add, show l * sz' + (i * sz' + j) = (l + i) * sz' + j from by rw [Nat.add_mul]; omega]
  exact hcell _ e j c (get_cut h3) h4
theorem s_slice_own (t : TypeId) (x : Operand) (lo hi : Option Operand) {e te : TypeId} {sz sz' j ver l r : Nat} {els : List (List D)} (hs : slT P t = some (e, sz)) (hx : ρ x = .c (.own j ver)) (hj : h[j]? = some (.row te sz' els ver)) (hsz : sz' = sz) (hl : optI ρ lo 0 l) (hr : optI ρ hi els.length r) (h1 : l ≤ r) (h2 : r ≤ els.length) :
    Still P h ⟨dst, .slice t x lo hi none, ty, p, af, gd⟩ ρ (.c (.sub j ver sz l (r - l))) := by
  subst hsz
  intro cx G w a sh ho
  obtain ⟨v0, xs, hg, how, _, _, _⟩ := row_at sh hj
  obtain ⟨_, v0', n', hg', _, hxx⟩ := (hx ▸ ho x (by simp [Op.operands]) : Ar G (.c (.own j ver)) (a.eval x))
  rw [hg] at hg'
  cases hg'
  have e1 := hxx rfl
  obtain ⟨A, cap, rfl, hc, hm⟩ := own_form how
  have hrun := run_slice_sl (P := P) hs (A := A) (cap := cap) (fun y hy => ho y (mem_slice_ops hy)) hl hr h1 (by omega) w
  refine ⟨.slice (if cap = l then A else A.map (·.add (l * sz'))) (r - l) (cap - l), by simp only [execOp, e1, Option.map_none, Sem.run_bind, hrun, Result.andThen_ok, Sem.run_pure], rfl, _, _, hg, Nat.le_refl _, fun _ => ⟨_, cap - l, rfl, by omega, by omega, fun hpos => ?_, fun b len0 cap0 hv => ?_⟩⟩
  · obtain ⟨g, cap', hv', _⟩ := own_cells how (by omega)
    injection hv' with hA _ hcap
    subst hA hcap
    refine ⟨g, els.length, cap, rfl, ?_⟩
    rw [if_neg (by omega)]
    simp [add_plain]
  · injection hv with h1' h2' h3'
    subst h1' h2' h3'
    refine ⟨by omega, rfl, ?_⟩
    by_cases hc : cap = l
    · exact ⟨_, if_pos hc, fun hp => by omega⟩
    · exact ⟨_, if_neg hc, fun _ => by simp [add_plain]⟩
theorem s_makeFunc (f : FuncId) (caps : Array Operand) {is : List Nat} (hc : caps.toList.map ρ = is.map fun i => .c (.loc i 0)) : Still P h ⟨dst, .makeFunc (.func f) #[] caps, ty, p, af, gd⟩ ρ (.c (.clo f is)) := by
  intro cx G w a sh ho
  have key : ∀ (l : List Operand) (is : List Nat), l.map ρ = is.map (fun i => .c (.loc i 0)) → (∀ x ∈ l, Ar G (ρ x) (a.eval x)) →
      ∃ bs : List Nat, l.map a.eval = bs.map (fun b => Value.pointer (some ⟨b, 0, none⟩)) ∧ All2 (fun i b => ∃ n, G.g[i]? = some (.pointer (some ⟨b, 0, none⟩), n)) is bs := by
    intro l
    induction l with
    | nil => intro is hh _; cases is with
      | nil => exact ⟨[], rfl, .nil⟩
      | cons i is => simp at hh
    | cons x l ih => intro is hh hx; cases is with
      | nil => simp at hh
      | cons i is =>
        simp only [List.map_cons, List.cons.injEq] at hh
        obtain ⟨bs, h1, h2⟩ := ih is hh.2 fun y hy => hx y (by simp [hy])
        obtain ⟨b, n, hg, e⟩ := (hh.1 ▸ hx x (by simp) : Ar G (.c (.loc i 0)) (a.eval x))
        exact ⟨b :: bs, by simp [h1, e], .cons ⟨n, hg⟩ h2⟩
  obtain ⟨bs, h1, h2⟩ := key caps.toList is hc fun x hx => ho x (by simpa [Op.operands] using hx)
  refine ⟨.func (.func f) #[] (caps.map a.eval), by simp [execOp, Instr.makeFunc], bs, ?_, h2⟩
  congr 1
  apply Array.ext'
  simp [h1]
end Go.Ax

/-
  How the state follows the world: later worlds, new entries, entries that are written or moved, entries that become still. No condition.
-/
namespace Go.Ax
open Go Go.RowKit
variable {P : Program}
theorem heap_lt {w : World} {k : Nat} {o : Obj} (h : w.heap[k]? = some o) : k < w.heap.size := by
  rcases Nat.lt_or_ge k w.heap.size with h' | h'
  · exact h'
  · rw [Array.getElem?_eq_none h'] at h; cases h
theorem own_world {w w' : World} {base : Nat} {t : TypeId} {sz : Nat} {v : Value} {n : Nat} {xs : List Value} (h : w.ownsRow base t sz v n xs) (hk : ∀ k, blkOf v = some k → w'.heap[k]? = w.heap[k]?) : w'.ownsRow base t sz v n xs := by
  obtain ⟨hl, h1 | ⟨g, cap, cur, rfl, hg, hh, r⟩⟩ := h
  · exact ⟨hl, .inl h1⟩
  · exact ⟨hl, .inr ⟨g, cap, cur, rfl, hg, by rw [hk g rfl]; exact hh, r⟩⟩
theorem Lr.world {G : Gh} {w w' : World} {base : Nat} {b : LB} {e : Value × Nat} (h : Lr G w base b e) (hk : b.live → ∀ k, blkOf e.1 = some k → w'.heap[k]? = w.heap[k]?) : Lr G w' base b e := by
  cases b with
  | dead => trivial
  | box t cs =>
    obtain ⟨h1, b, vs, h2, h3, h4, h5, h6⟩ := h
    exact ⟨h1, b, vs, h2, h3, h4, by rw [hk trivial b (by rw [h2]; rfl)]; exact h5, h6⟩
  | row t sz els ver =>
    obtain ⟨h1, xs, h2, h3⟩ := h
    exact ⟨h1, xs, own_world h2 (hk trivial), h3⟩
  | mp sh m =>
    obtain ⟨h1, b, es, clock, h2, h3, h4, h5, h6⟩ := h
    exact ⟨h1, b, es, clock, h2, h3, h4, by rw [hk trivial b (by rw [h2]; rfl)]; exact h5, h6⟩
  | it todo last =>
    obtain ⟨h1, b, o, h2, h3, h4, h5, h6⟩ := h
    exact ⟨h1, b, o, h2, h3, h4, by rw [hk trivial b (by rw [h2]; rfl)]; exact h5, h6⟩
  | sit s pos =>
    obtain ⟨h1, b, h2, h3, h4, h5⟩ := h
    exact ⟨h1, b, h2, h3, h4, by rw [hk trivial b (by rw [h2]; rfl)]; exact h5⟩
  | opn t sz els kk cs ver =>
    obtain ⟨h1, h0, xs, h2, h3⟩ := h
    exact ⟨h1, h0, xs, own_world h2 (hk trivial), h3⟩
theorem Lr.blk {G : Gh} {w : World} {base : Nat} {b : LB} {e : Value × Nat} (h : Lr G w base b e) (hl : b.live) {k : Nat} (hk : blkOf e.1 = some k) : base ≤ k ∧ k < w.heap.size ∧ G.V.H k = none := by
  cases b with
  | dead => exact hl.elim
  | box t cs =>
    obtain ⟨h1, b, vs, h2, h3, h4, h5, h6⟩ := h
    rw [h2] at hk
    cases hk
    exact ⟨h3, heap_lt h5, h4⟩
  | row t sz els ver =>
    obtain ⟨h1, xs, ⟨_, h2⟩, h3, _⟩ := h
    rcases h2 with ⟨e2, _⟩ | ⟨g, cap, cur, e2, hg, hh, _⟩
    · rw [e2] at hk; cases hk
    · have h3' := h3 g (by rw [e2]; rfl)
      rw [e2] at hk
      cases hk
      exact ⟨hg, heap_lt hh, h3'⟩
  | mp sh m =>
    obtain ⟨h1, b, es, clock, h2, h3, h4, h5, h6⟩ := h
    rw [h2] at hk
    cases hk
    exact ⟨h3, heap_lt h5, h4⟩
  | it todo last =>
    obtain ⟨h1, b, o, h2, h3, h4, h5, h6⟩ := h
    rw [h2] at hk
    cases hk
    exact ⟨h3, heap_lt h5, h4⟩
  | sit s pos =>
    obtain ⟨h1, b, h2, h3, h4, h5⟩ := h
    rw [h2] at hk
    cases hk
    exact ⟨h3, heap_lt h5, h4⟩
  | opn t sz els kk cs ver =>
    obtain ⟨h1, h0, xs, ⟨_, h2⟩, h3, _⟩ := h
    rcases h2 with ⟨e2, _⟩ | ⟨g, cap, cur, e2, hg, hh, _⟩
    · rw [e2] at hk; cases hk
    · have h3' := h3 g (by rw [e2]; rfl)
      rw [e2] at hk
      cases hk
      exact ⟨hg, heap_lt hh, h3'⟩
theorem SatH.entry {cx : Cx} {G : Gh} {h : List LB} {w : World} (s : SatH cx G h w) {i : Nat} {b : LB} (hi : h[i]? = some b) : ∃ e, G.g[i]? = some e ∧ Lr G w cx.w0.heap.size b e := by
  have hlt : i < G.g.length := by rw [s.len]; exact getElem?_lt hi
  exact ⟨_, List.getElem?_eq_getElem hlt, s.ent i _ _ hi (List.getElem?_eq_getElem hlt)⟩
theorem SatH.later {cx : Cx} {G : Gh} {h : List LB} {w w' : World} (s : SatH cx G h w) (hb : Below w.heap.size w w') : SatH cx G h w' := by
  refine ⟨s.len, fun i b e hi he => (s.ent i b e hi he).world fun hl k hk => hb.block k ((s.ent i b e hi he).blk hl hk).2.1, s.sep, fun b o ho => ?_, s.imm, s.below.trans (hb.mono s.below.size), s.ext, s.glob, Nat.le_trans s.sz hb.size⟩
  have := s.view b o ho
  rw [hb.block b (heap_lt this)]
  exact this
theorem gle_push {G : Gh} (x : Value × Nat) : GLe G.g.length G ⟨G.V, G.g ++ [x]⟩ :=
  ⟨.refl _, fun i v n hi e => ⟨v, n, by simp [List.getElem?_append_left hi, e], Nat.le_refl _, fun _ => rfl, fun _ => ⟨rfl, rfl⟩⟩⟩
theorem getElem?_push {α : Type} {l : List α} {x : α} {i : Nat} {y : α} (h : (l ++ [x])[i]? = some y) : l[i]? = some y ∨ (i = l.length ∧ y = x) := by
  rcases Nat.lt_or_ge i l.length with hlt | hge
  · rw [List.getElem?_append_left hlt] at h; exact .inl h
  · rw [List.getElem?_append_right hge] at h
    have : i - l.length = 0 := by
      rcases Nat.eq_zero_or_pos (i - l.length) with h0 | h0
      · exact h0
      · rw [List.getElem?_eq_none (by simp; omega)] at h; cases h
    rw [this] at h
    simp at h
    exact .inr ⟨by omega, h.symm⟩
theorem SatH.push {cx : Cx} {G : Gh} {h : List LB} {w : World} (s : SatH cx G h w) (v : Value) (n : Nat) (lb : LB) (hl : Lr G w cx.w0.heap.size lb (v, n))
    (hf : ∀ k, blkOf v = some k → ∀ (i : Nat) (b : LB) (e : Value × Nat), h[i]? = some b → b.live → G.g[i]? = some e → blkOf e.1 ≠ some k) : SatH cx ⟨G.V, G.g ++ [(v, n)]⟩ (h ++ [lb]) w := by
  have hg := gle_push (G := G) (v, n)
  have hlen := s.len
  have hlow : ∀ {b : LB} {e : Value × Nat}, Lr G w cx.w0.heap.size b e → b.low G.g.length := by
    intro b e hb
    cases b with
    | box t cs => obtain ⟨_, b, vs, _, _, _, _, h6⟩ := hb; exact All2.low h6
    | opn t sz els kk cs ver => obtain ⟨_, _, xs, _, _, h6, _⟩ := hb; exact fun c hc => All2.low h6 c (opnC_mem hc)
    | _ => trivial
  refine ⟨by simp [hlen], fun i b e hi he => ?_, ?_, s.view, s.imm, s.below, s.ext.trans (hg.all _), fun p hp => (s.glob p hp).grow hg, s.sz⟩
  · rcases getElem?_push hi with hi | ⟨rfl, rfl⟩
    · rcases getElem?_push he with he | ⟨rfl, rfl⟩
      · exact (s.ent i b e hi he).mono hg (fun _ h => h) (hlow (s.ent i b e hi he))
      · have := getElem?_lt hi; omega
    · rw [← hlen, List.getElem?_append_right (Nat.le_refl _)] at he
      simp at he
      subst he
      exact hl.mono hg (fun _ h => h) (hlow hl)
  · intro i j bi bj ei ej k h1 h2 h3 h4 h5 h6 h7 h8
    rcases getElem?_push h1 with q1 | ⟨rfl, rfl⟩ <;> rcases getElem?_push h2 with q2 | ⟨rfl, rfl⟩
    · simp only [List.getElem?_append_left (show i < G.g.length by rw [hlen]; exact getElem?_lt q1)] at h5
      simp only [List.getElem?_append_left (show j < G.g.length by rw [hlen]; exact getElem?_lt q2)] at h6
      exact s.sep i j bi bj ei ej k q1 q2 h3 h4 h5 h6 h7 h8
    · simp only [List.getElem?_append_left (show i < G.g.length by rw [hlen]; exact getElem?_lt q1)] at h5
      rw [← hlen] at h6
      simp at h6
      subst h6
      exact absurd h7 (hf k h8 i bi ei q1 h3 h5)
    · simp only [List.getElem?_append_left (show j < G.g.length by rw [hlen]; exact getElem?_lt q2)] at h6
      rw [← hlen] at h5
      simp at h5
      subst h5
      exact absurd h8 (hf k h7 j bj ej q2 h4 h6)
    · rfl
theorem SatH.alloc {cx : Cx} {G : Gh} {h : List LB} {w : World} (s : SatH cx G h w) (o : Obj) : SatH cx G h (w.alloc o) ∧ G.V.H w.heap.size = none ∧
    ∀ (i : Nat) (b : LB) (e : Value × Nat), h[i]? = some b → b.live → G.g[i]? = some e → blkOf e.1 ≠ some w.heap.size := by
  refine ⟨s.later ((Below.refl _ _).alloc (Nat.le_refl _) o), ?_, fun i b e hi hl he hk => ?_⟩
  · cases e : G.V.H w.heap.size with
    | none => rfl
    | some o =>
      have := heap_lt (s.view _ _ e)
      omega
  · have := ((s.ent i b e hi he).blk hl hk).2.1
    omega
theorem getElem?_set' {α : Type} {l : List α} {i j : Nat} {x y : α} (h : (l.set i x)[j]? = some y) : (j = i ∧ y = x) ∨ (j ≠ i ∧ l[j]? = some y) := by
  by_cases hij : i = j
  · subst hij
    have hlt := getElem?_lt h
    rw [List.length_set] at hlt
    rw [List.getElem?_set_self hlt] at h
    exact .inl ⟨rfl, (Option.some.inj h).symm⟩
  · rw [List.getElem?_set_ne hij] at h
    exact .inr ⟨fun e => hij e.symm, h⟩
theorem SatH.upd {cx : Cx} {G : Gh} {h : List LB} {w w' : World} (s : SatH cx G h w) {i b : Nat} {lb lb' : LB} {e : Value × Nat} (hi : h[i]? = some lb) (hlv : lb.live) (he : G.g[i]? = some e) (hb : blkOf e.1 = some b)
    (os : w'.os = w.os) (tape : w'.tape = w.tape) (output : w'.output = w.output) (size : w'.heap.size = w.heap.size) (hw : ∀ k, k ≠ b → w'.heap[k]? = w.heap[k]?)
    (hl : Lr G w' cx.w0.heap.size lb' e) : SatH cx G (h.set i lb') w' := by
  have hbb := (s.ent i _ _ hi he).blk hlv hb
  refine ⟨by simp [s.len], fun j b' e' hj he' => ?_, ?_, fun k o ho => ?_, s.imm, s.below.trans ⟨os, tape, output, by omega, fun k hk => hw k (by omega)⟩, s.ext, s.glob, by rw [size]; exact s.sz⟩
  · rcases getElem?_set' hj with ⟨rfl, rfl⟩ | ⟨hne, hj⟩
    · rw [he] at he'; cases he'; exact hl
    · exact (s.ent j _ _ hj he').world fun hlj k hk => hw k fun e => hne (s.sep j i b' lb e' _ k hj hi hlj hlv he' he hk (e ▸ hb))
  · intro j k bj bk ej ek x h1 h2 h3 h4 h5 h6 h7 h8
    rcases getElem?_set' h1 with ⟨rfl, rfl⟩ | ⟨hne, q1⟩ <;> rcases getElem?_set' h2 with ⟨rfl, rfl⟩ | ⟨hne', q2⟩
    · rfl
    · exact s.sep _ _ lb bk ej ek x hi q2 hlv h4 h5 h6 h7 h8
    · exact s.sep _ _ bj lb ej ek x q1 hi h3 hlv h5 h6 h7 h8
    · exact s.sep _ _ bj bk ej ek x q1 q2 h3 h4 h5 h6 h7 h8
  · rw [hw k (fun e => by rw [e, hbb.2.2] at ho; cases ho)]
    exact s.view k o ho
theorem SatH.move {cx : Cx} {G : Gh} {h : List LB} {w w' : World} (s : SatH cx G h w) {i n n' : Nat} {lb lb' : LB} {v v' : Value} (hi : h[i]? = some lb) (hlv : lb.live) (he : G.g[i]? = some (v, n)) (hn : n < n') (hp : ∀ p, v ≠ .pointer p)
    (hob : ∀ k, blkOf v = some k → v.ownBlock = some k) (hob' : ∀ k, blkOf v' = some k → v'.ownBlock = some k) (hg : w.grownBy w' v.ownBlock) (hat : v'.ownBlock = v.ownBlock ∨ v'.ownBlock = some w.heap.size) (hvb : ∀ k, v.ownBlock = some k → blkOf v = some k)
    (hl : ∀ G', G'.V = G.V → Lr G' w' cx.w0.heap.size lb' (v', n')) : GLe G.g.length G ⟨G.V, G.g.set i (v', n')⟩ ∧ SatH cx ⟨G.V, G.g.set i (v', n')⟩ (h.set i lb') w' := by
  have hilt := getElem?_lt he
  have hG : GLe G.g.length G ⟨G.V, G.g.set i (v', n')⟩ := by
    refine ⟨.refl _, fun j u m hj e => ?_⟩
    by_cases hij : i = j
    · subst hij
      rw [he] at e
      cases e
      exact ⟨v', n', by simp [hilt], by omega, fun h => by omega, fun ⟨p, e⟩ => absurd e (hp p)⟩
    · exact ⟨u, m, by simp [List.getElem?_set_ne hij, e], Nat.le_refl _, fun _ => rfl, fun _ => ⟨rfl, rfl⟩⟩
  have hother : ∀ (j : Nat) (bj : LB) (ej : Value × Nat) (k : Nat), j ≠ i → h[j]? = some bj → bj.live → G.g[j]? = some ej → blkOf ej.1 = some k → k < w.heap.size ∧ some k ≠ v.ownBlock := by
    intro j bj ej k hne hj hlj hej hk
    refine ⟨((s.ent j _ _ hj hej).blk hlj hk).2.1, fun e => hne ?_⟩
    exact s.sep j i bj lb ej (v, n) k hj hi hlj hlv hej he hk (hvb k e.symm)
  have hlow : ∀ {b : LB} {e : Value × Nat}, Lr G w cx.w0.heap.size b e → b.low G.g.length := by
    intro b e hb
    cases b with
    | box t cs => obtain ⟨_, b, vs, _, _, _, _, h6⟩ := hb; exact All2.low h6
    | opn t sz els kk cs ver => obtain ⟨_, _, xs, _, _, h6, _⟩ := hb; exact fun c hc => All2.low h6 c (opnC_mem hc)
    | _ => trivial
  have hvbase : ∀ k, v.ownBlock = some k → cx.w0.heap.size ≤ k ∧ G.V.H k = none := fun k hk => by
    have := (s.ent i _ _ hi he).blk hlv (hvb k hk)
    exact ⟨this.1, this.2.2⟩
  refine ⟨hG, by simp [s.len], fun j b' e' hj he' => ?_, ?_, fun k o ho => ?_, s.imm, s.below.grown hg s.below.size (fun k hk => (hvbase k hk).1), s.ext.trans (hG.all _), fun p hp => (s.glob p hp).grow hG, Nat.le_trans s.sz hg.size⟩
  · rcases getElem?_set' hj with ⟨rfl, rfl⟩ | ⟨hne, hj⟩
    · simp only [List.getElem?_set_self hilt, Option.some.injEq] at he'
      subst he'
      exact hl _ rfl
    · simp only [List.getElem?_set_ne (fun e => hne e.symm)] at he'
      have h0 := s.ent j _ _ hj he'
      refine (h0.world fun hlj k hk => ?_).mono hG (fun _ h => h) (hlow h0)
      obtain ⟨a, b⟩ := hother j b' e' k hne hj hlj he' hk
      exact hg.block k a b
  · have hnew : ∀ (j : Nat) (bj : LB) (ej : Value × Nat) (k : Nat), j ≠ i → h[j]? = some bj → bj.live → G.g[j]? = some ej → blkOf ej.1 = some k → blkOf v' = some k → False := by
      intro j bj ej k hne hj hlj hej hk hk'
      obtain ⟨a, b⟩ := hother j bj ej k hne hj hlj hej hk
      have := hob' k hk'
      rcases hat with e | e
      · exact b (by rw [← e, this])
      · rw [this] at e; cases e; omega
    intro j k bj bk ej ek x h1 h2 h3 h4 h5 h6 h7 h8
    rcases getElem?_set' h1 with ⟨rfl, rfl⟩ | ⟨hne, q1⟩ <;> rcases getElem?_set' h2 with ⟨rfl, rfl⟩ | ⟨hne', q2⟩
    · rfl
    · simp only [List.getElem?_set_self hilt, Option.some.injEq] at h5
      simp only [List.getElem?_set_ne (fun e => hne' e.symm)] at h6
      subst h5
      exact (hnew _ _ _ _ hne' q2 h4 h6 h8 h7).elim
    · simp only [List.getElem?_set_self hilt, Option.some.injEq] at h6
      simp only [List.getElem?_set_ne (fun e => hne e.symm)] at h5
      subst h6
      exact (hnew _ _ _ _ hne q1 h3 h5 h7 h8).elim
    · simp only [List.getElem?_set_ne (fun e => hne e.symm)] at h5
      simp only [List.getElem?_set_ne (fun e => hne' e.symm)] at h6
      exact s.sep _ _ bj bk ej ek x q1 q2 h3 h4 h5 h6 h7 h8
  · have := s.view k o ho
    rw [hg.block k (heap_lt this) (fun e => by rw [(hvbase k e.symm).2] at ho; cases ho)]
    exact this
end Go.Ax
