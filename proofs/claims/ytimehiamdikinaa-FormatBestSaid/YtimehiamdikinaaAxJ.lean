/-
  Slices made of parts, append, make, and entries that become still. No condition.
-/
import Derived.Test.YtimehiamdikinaaAxI
set_option linter.all false
namespace Go.Ax
open Go Go.RowKit

variable {P : Program}

def toDs : List C → Option (List D)
  | [] => some []
  | .d x :: r => match toDs r with
    | some l => some (x :: l)
    | none => none
  | _ :: _ => none
theorem toDs_ok : ∀ (cs : List C) (ds : List D), toDs cs = some ds → cs = ds.map C.d
  | [], ds, h => by cases h; rfl
  | c :: r, ds, h => by
    cases c <;> simp only [toDs, reduceCtorEq] at h
    split at h
    · next l hl => cases h; simp [toDs_ok r l hl]
    · cases h
theorem toDs_map (ds : List D) : toDs (ds.map C.d) = some ds := by
  induction ds with
  | nil => rfl
  | cons d ds ih => simp [toDs, ih]

/-- The parts of a slice literal, one for each place, in order. -/
def partsE (sz : Nat) : List (Nat × AV) → Nat → Option (List (List D))
  | [], _ => some []
  | (i, α) :: r, k => match avCells α with
    | some cs => match toDs cs, partsE sz r (k + 1) with
      | some ds, some l => if i = k ∧ ds.length = sz then some (ds :: l) else none
      | _, _ => none
    | none => none

theorem partsE_ok {G : Gh} {sz : Nat} : ∀ (parts : List (Nat × AV)) (vals : List (Nat × Value)) (k : Nat) (els : List (List D)) (cells : List Value),
    All2 (fun (x : Nat × AV) (y : Nat × Value) => x.1 = y.1 ∧ Ar G x.2 y.2) parts vals → partsE sz parts k = some els → cells.length = (k + els.length) * sz →
    ∃ us, Instr.fill (fun i => some (i * sz, sz)) cells.toArray vals = some (cells.take (k * sz) ++ us).toArray ∧ All2 (Dr G.V) els.flatten us ∧ (∀ e ∈ els, e.length = sz) ∧ els.length = parts.length
  | [], vals, k, els, cells, hp, hf, hl => by
    cases hp
    cases hf
    simp only [List.length_nil, Nat.add_zero] at hl
    exact ⟨[], by simp [Instr.fill, ← hl], .nil, by simp, rfl⟩
  | (i, α) :: r, vals, k, els, cells, hp, hf, hl => by
    cases hp with
    | @cons _ y _ vals h t =>
      obtain ⟨i', v⟩ := y
      obtain ⟨rfl, hr⟩ := h
      simp only [partsE] at hf
      split at hf
      · next cs h1 =>
        split at hf
        · next ds l h2 h3 =>
          split at hf
          · next h4 =>
            cases hf
            obtain ⟨rfl, hds⟩ := h4
            have hx := avCells_ok h1 hr
            rw [toDs_ok _ _ h2] at hx
            have hxd := all2_dr hx
            have hvs : v.cells.size = sz := by rw [← hds, hxd.length]; simp
            simp only [List.length_cons] at hl
            have hl' : cells.length = (i + 1 + l.length) * sz := by rw [hl]; congr 1; omega
            have hsz : i * sz + sz ≤ cells.length := by
              rw [hl', show i * sz + sz = (i + 1) * sz from by rw [Nat.add_mul]; omega]
              exact Nat.mul_le_mul_right sz (by omega)
            have hs := splice_len cells v.cells.toList (i * sz) (by simp [hvs]; exact hsz)
            obtain ⟨us, e, hc', hl1, hl2⟩ := partsE_ok r vals (i + 1) l (splice cells (i * sz) v.cells.toList) t h3 (by rw [hs, hl'])
            refine ⟨v.cells.toList ++ us, ?_, by simpa using hxd.append hc', fun e he => ?_, by simp [hl2]⟩
            · rw [fill_step _ cells.toArray i (i * sz) sz v vals rfl hvs (by simpa using hsz)]
              rw [e]
              congr 2
              have : (splice cells (i * sz) v.cells.toList).take ((i + 1) * sz) = cells.take (i * sz) ++ v.cells.toList := by
                unfold splice
                rw [List.take_append_of_le_length (by simp [hvs, Nat.add_mul]; omega), List.take_of_length_le (by simp [hvs, Nat.add_mul]; omega)]
              rw [this, List.append_assoc]
            · cases he with
              | head => exact hds
              | tail _ hm => exact hl1 e hm
          · cases hf
        · cases hf
      · cases hf

/-- A slice type over an element type whose zero value is known: the element type, its cells, its bytes. -/
def apT (P : Program) (t : TypeId) : Option (TypeId × Nat × Nat) :=
  match P.underlying t with
  | some (.slice e) => match P.info? e with
    | some i => match i.zero with
      | some z => if z.cells.size = i.size ∧ 0 < i.size then some (e, i.size, i.bytes) else none
      | none => none
    | none => none
  | _ => none

theorem apT_some {t te : TypeId} {sz by_ : Nat} (h : apT P t = some (te, sz, by_)) : P.underlying t = some (.slice te) ∧ 0 < sz ∧ ∃ i z, P.info? te = some i ∧ i.zero = some z ∧ i.size = sz ∧ i.bytes = by_ ∧ z.cells.size = sz := by
  unfold apT at h
  split at h
  · next e hu =>
    split at h
    · next i hi =>
      split at h
      · next z hz =>
        split at h
        · next hc => cases h; exact ⟨hu, hc.2, i, z, hi, hz, rfl, rfl, hc.1⟩
        · cases h
      · cases h
    · cases h
  · cases h

theorem run_buildSlice {t te : TypeId} {sz by_ n : Nat} (ht : apT P t = some (te, sz, by_)) {G : Gh} {ρ : Operand → AV} {a : Act} (ps : List (Nat × Operand)) {els : List (List D)} (hp : partsE sz (ps.map fun x => (x.1, ρ x.2)) 0 = some els) (hn : ps.length = n) (hsm : n * sz ≤ 16777216)
    (ho : ∀ x ∈ ps.map (·.2), Ar G (ρ x) (a.eval x)) (w : World) :
    ∃ us : List Value, All2 (Dr G.V) els.flatten us ∧ (∀ e ∈ els, e.length = sz) ∧ els.length = n ∧
      (Instr.buildSlice t n (ps.map fun x => (x.1, a.eval x.2)).toArray).run P w = .ok (.slice (some ⟨w.heap.size, 0, none⟩) n n) (w.alloc (.cells us.toArray te)) := by
  obtain ⟨hu, hpos, i, z, hi, hz, h1, h2, h3⟩ := apT_some ht
  have hsz : (P.info? te).map (·.size) = some sz := by simp [hi, h1]
  have helen : els.length = n := by
    obtain ⟨_, _, _, _, h⟩ := partsE_ok (G := G) (sz := sz) _ _ 0 els (List.replicate (els.length * sz) undef) (parts_ok (G := G) (a := a) ps ho) hp (by simp)
    rw [h]; simp [hn]
  obtain ⟨zr, hzr⟩ : ∃ zr : Array Value, zr = if n * sz = 0 then #[] else z.cells := ⟨_, rfl⟩
  obtain ⟨zs, hzs⟩ : ∃ zs : Array Value, zs = (Array.range (n * sz)).map (zr[· % zr.size]!) := ⟨_, rfl⟩
  obtain ⟨us, e, hc, hl1, hl2⟩ := partsE_ok (G := G) (sz := sz) _ _ 0 els zs.toList (parts_ok (G := G) (a := a) ps ho) hp (by simp [hzs, helen])
  simp only [Nat.zero_mul, List.take_zero, List.nil_append] at e
  refine ⟨us, hc, hl1, helen, ?_⟩
  have hlim : ¬ (n * sz > 2 ^ 24) := by omega
  have e' : Instr.fill (fun i => some (i * sz, sz)) zs (List.map (fun x => (x.1, a.eval x.2)) ps) = some us.toArray := by simpa using e
  have hzv : (zeroValue te).run P w = .ok z w := by simp [zeroValue, typeInfo, hi, hz]
  have e'' : ∀ zq : Array Value, zq = zr → Instr.fill (fun i => some (i * sz, sz)) ((Array.range (n * sz)).map (zq[· % zq.size]!)) (List.map (fun x => (x.1, a.eval x.2)) ps) = some us.toArray := fun zq hq => by
    rw [hq, ← hzs]; exact e'
  by_cases h0 : n * sz = 0
  · have := e'' #[] (by rw [hzr, if_pos h0])
    simp only [Instr.buildSlice, Sem.run_bind, run_underlying hu, Result.andThen_ok, run_sizeOf' hsz, if_neg hlim, Sem.run_pure, if_pos h0, this]
    simp [newRow]
  · have := e'' z.cells (by rw [hzr, if_neg h0])
    simp only [Instr.buildSlice, Sem.run_bind, run_underlying hu, Result.andThen_ok, run_sizeOf' hsz, if_neg hlim, Sem.run_pure, if_neg h0, hzv, this]
    simp [newRow]

variable {pm : Pm} {ops : Array Oper} {rest : List Oper} {st : St} {K : St → Prop} {dst : Option Tmp} {ty : TypeId} {p : String} {af : Array Edge} {gd : Option (Nat × Bool)} {h : List LB} {ρ : Operand → AV}

/-- A slice literal that nobody writes later. -/
theorem q_buildSlice (t : TypeId) (n : Nat) (ps : List (Nat × Operand)) {te : TypeId} {sz by_ : Nat} {els : List (List D)} (ht : apT P t = some (te, sz, by_)) (hp : partsE sz (ps.map fun x => (x.1, ρ x.2)) 0 = some els) (hn : ps.length = n) (hsm : n * sz ≤ 16777216) :
    Qt P pm h ⟨dst, .buildSlice t n ps.toArray, ty, p, af, gd⟩ ρ (.c (.d (.lst sz els))) := by
  intro cx G w a _ s ho next Q hnext
  obtain ⟨us, hc, hl, hen, hrun⟩ := run_buildSlice (P := P) ht ps hp hn hsm (fun x hx => ho x (by simpa [Op.operands] using hx)) w
  obtain ⟨s', hH, hne⟩ := s.alloc (.cells us.toArray te)
  have hr : (execOp a.eval ⟨dst, .buildSlice t n ps.toArray, ty, p, af, gd⟩).run P w = .ok (.value (.slice (some ⟨w.heap.size, 0, none⟩) n n)) (w.alloc (.cells us.toArray te)) := by
    simp only [execOp, List.map_toArray, Sem.run_bind, hrun, Result.andThen_ok, Sem.run_pure]
  unfold Oper.wp
  rw [hr]
  let V' : Vw := ⟨fun b => if b = w.heap.size then some (.cells us.toArray te) else G.V.H b, fun b => G.V.I b ∨ b = w.heap.size⟩
  have hV : G.V.Le V' := ⟨fun b o e => by
    have : b ≠ w.heap.size := fun e' => by rw [e', hH] at e; cases e
    simp only [V', if_neg this, e], fun b hb => .inl hb⟩
  have hG : GLe G.g.length G ⟨V', G.g⟩ := ⟨hV, fun i v n _ e => ⟨v, n, e, Nat.le_refl _, fun _ => rfl, fun _ => ⟨rfl, rfl⟩⟩⟩
  refine hnext _ _ ⟨V', G.g⟩ hG ⟨s'.len, fun i b e hi he => ?_, s'.sep, fun b o hb => ?_, fun b hb => ?_, s'.below, s'.ext.trans (hG.all _), fun q hq => (s'.glob q hq).grow hG⟩ ?_
  · have h0 := s'.ent i b e hi he
    refine Lr.mono' hG ?_ h0
    intro k hlv hk
    have := hne i b e hi hlv he
    have hkn : k ≠ w.heap.size := fun e' => this (by rw [hk, e'])
    simp only [V', if_neg hkn]
    exact (h0.blk hlv hk).2.2
  · simp only [V'] at hb
    split at hb
    · next e => cases hb; rw [e]; exact heap_alloc_new w _
    · exact s'.view b o hb
  · rcases hb with hb | rfl
    · obtain ⟨⟨o, h1⟩, h2⟩ := s'.imm b hb
      exact ⟨⟨o, hV.H b o h1⟩, h2⟩
    · exact ⟨⟨.cells us.toArray te, by simp [V']⟩, .inr s.below.size⟩
  · show Dr V' _ _
    have hmax : n ≤ maxLen := by
      have := (apT_some ht).2.1
      have : n ≤ n * sz := Nat.le_mul_of_pos_right n this
      unfold maxLen; omega
    have key : Dr V' (.lst sz els) (.slice (some ⟨w.heap.size, 0, none⟩) els.length n) := by
      refine .lst sz els _ n (fun i j => us.getD (i * sz + j) undef) (by omega) hmax hl (fun hn => ⟨_, rfl, .inr rfl, fun i e j c h1 h2 => ?_⟩) (fun i e j c h1 h2 => ?_)
      · obtain ⟨u, hu, _⟩ := hc.get _ _ (flat_get els hl i e j c h1 h2)
        rw [add_plain]
        simp [cellIn, V', hu]
      · obtain ⟨u, hu, hd⟩ := hc.get _ _ (flat_get els hl i e j c h1 h2)
        simpa [hu] using hd.mono hV
    rw [hen] at key
    exact key

/-- A slice literal of the call's own. -/
theorem AXl.buildSlice {t : TypeId} {n : Nat} {ps : List (Nat × Operand)} {te : TypeId} {sz by_ : Nat} {els : List (List D)} (ht : apT P t = some (te, sz, by_)) (hp : partsE sz (ps.map fun x => (x.1, ev pm.Γ st.env x.2)) 0 = some els) (hn : ps.length = n) (hsm : n * sz ≤ 16777216) (hd : dstOk pm.N dst)
    (hk : AXl P pm ops rest (St.put ⟨st.env, st.heap ++ [.row te sz els 0]⟩ dst (.c (.own st.heap.length 0))) K) : AXl P pm ops (⟨dst, .buildSlice t n ps.toArray, ty, p, af, none⟩ :: rest) st K := by
  refine AXl.eff rfl fun cx G a w hp' s => ?_
  subst hp'
  obtain ⟨us, hc, hl, hen, hrun⟩ := run_buildSlice (P := P) ht ps hp hn hsm (fun x _ => s.ev x) w
  have hmax : els.length ≤ maxLen := by
    have := (apT_some ht).2.1
    have : n ≤ n * sz := Nat.le_mul_of_pos_right n this
    unfold maxLen; omega
  have hpr := push_row s.h te 0 hc hl hmax
  rw [hen] at hpr
  refine ⟨.slice (some ⟨w.heap.size, 0, none⟩) n n, w.alloc (.cells us.toArray te), _, _, .inl ?_, s.pushed (α := .c (.own st.heap.length 0)) hpr ⟨rfl, _, 0, get_last _ _ s.h.len.symm, Nat.le_refl _, fun _ => rfl⟩ hd, hk⟩
  simp only [execOp, List.map_toArray, Sem.run_bind, hrun, Result.andThen_ok, Sem.run_pure]
end Go.Ax
