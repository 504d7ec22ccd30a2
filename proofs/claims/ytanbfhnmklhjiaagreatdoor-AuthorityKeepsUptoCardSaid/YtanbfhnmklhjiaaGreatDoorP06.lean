/- Part of a proof about this program; no condition of its own. -/
import Derived.Test.YtanbfhnmklhjiaaGreatDoorP05
set_option linter.all false
/-
  Slices made of parts, append, make, and entries that become still. No condition.
-/
namespace Go.Ax
open Go Go.RowKit
variable {P : Program}
def toDs : List C → Option (List D)
  | [] => some []
  | .d x :: r => match toDs r with
    | some l => some (x :: l)
    | none => none
  | _ :: _ => none
theorem toDs_ok : ∀ (cs : List C) (ds : List D), toDs cs = some ds → cs = ds.map C.d
  | [], ds, h => by cases h; rfl
  | c :: r, ds, h => by
    cases c <;> simp only [toDs, reduceCtorEq] at h
    split at h
    · next l hl => cases h; simp [toDs_ok r l hl]
    · cases h
theorem toDs_map (ds : List D) : toDs (ds.map C.d) = some ds := by
  induction ds with
  | nil => rfl
  | cons d ds ih => simp [toDs, ih]
def partsE (sz : Nat) : List (Nat × AV) → Nat → Option (List (List D))
  | [], _ => some []
  | (i, α) :: r, k => match avCells α with
    | some cs => match toDs cs, partsE sz r (k + 1) with
      | some ds, some l => if i = k ∧ ds.length = sz then some (ds :: l) else none
      | _, _ => none
    | none => none
theorem partsE_ok {G : Gh} {sz : Nat} : ∀ (parts : List (Nat × AV)) (vals : List (Nat × Value)) (k : Nat) (els : List (List D)) (cells : List Value),
    All2 (fun (x : Nat × AV) (y : Nat × Value) => x.1 = y.1 ∧ Ar G x.2 y.2) parts vals → partsE sz parts k = some els → cells.length = (k + els.length) * sz →
    ∃ us, Instr.fill (fun i => some (i * sz, sz)) cells.toArray vals = some (cells.take (k * sz) ++ us).toArray ∧ All2 (Dr G.V) els.flatten us ∧ (∀ e ∈ els, e.length = sz) ∧ els.length = parts.length
  | [], vals, k, els, cells, hp, hf, hl => by
    cases hp
    cases hf
    simp only [List.length_nil, Nat.add_zero] at hl
    exact ⟨[], by simp [Instr.fill, ← hl], .nil, by simp, rfl⟩
  | (i, α) :: r, vals, k, els, cells, hp, hf, hl => by
    cases hp with
    | @cons _ y _ vals h t =>
      obtain ⟨i', v⟩ := y
      obtain ⟨rfl, hr⟩ := h
      simp only [partsE] at hf
      split at hf
      · next cs h1 =>
        split at hf
        · next ds l h2 h3 =>
          split at hf
          · next h4 =>
            cases hf
            obtain ⟨rfl, hds⟩ := h4
            have hx := avCells_ok h1 hr
            rw [toDs_ok _ _ h2] at hx
            have hxd := all2_dr hx
            have hvs : v.cells.size = sz := by rw [← hds, hxd.length]; simp
            simp only [List.length_cons] at hl
            have hl' : cells.length = (i + 1 + l.length) * sz := by rw [hl]; congr 1; omega
            have hsz : i * sz + sz ≤ cells.length := by
              rw [hl', show i * sz + sz = (i + 1) * sz from by rw [Nat.add_mul]; omega]
              exact Nat.mul_le_mul_right sz (by omega)
            have hs := splice_len cells v.cells.toList (i * sz) (by simp [hvs]; exact hsz)
            obtain ⟨us, e, hc', hl1, hl2⟩ := partsE_ok r vals (i + 1) l (splice cells (i * sz) v.cells.toList) t h3 (by rw [hs, hl'])
            refine ⟨v.cells.toList ++ us, ?_, by simpa using hxd.append hc', fun e he => ?_, by simp [hl2]⟩
            · rw [fill_step _ cells.toArray i (i * sz) sz v vals rfl hvs (by simpa using hsz)]
              rw [e]
              congr 2
              have : (splice cells (i * sz) v.cells.toList).take ((i + 1) * sz) = cells.take (i * sz) ++ v.cells.toList := by
                unfold splice
                rw [List.take_append_of_le_length (by simp [hvs, Nat.add_mul]; omega), List.take_of_length_le (by simp [hvs, Nat.add_mul]; omega)]
              rw [this, List.append_assoc]
            · cases he with
              | head => exact hds
              | tail _ hm => exact hl1 e hm
          · cases hf
        · cases hf
      · cases hf
def apT (P : Program) (t : TypeId) : Option (TypeId × Nat × Nat) :=
  match P.underlying t with
  | some (.slice e) => match P.info? e with
    | some i => match i.zero with
      | some z => if z.cells.size = i.size ∧ 0 < i.size then some (e, i.size, i.bytes) else none
      | none => none
    | none => none
  | _ => none
theorem apT_some {t te : TypeId} {sz by_ : Nat} (h : apT P t = some (te, sz, by_)) : P.underlying t = some (.slice te) ∧ 0 < sz ∧ ∃ i z, P.info? te = some i ∧ i.zero = some z ∧ i.size = sz ∧ i.bytes = by_ ∧ z.cells.size = sz := by
  unfold apT at h
  split at h
  · next e hu =>
    split at h
    · next i hi =>
      split at h
      · next z hz =>
        split at h
        · next hc => cases h; exact ⟨hu, hc.2, i, z, hi, hz, rfl, rfl, hc.1⟩
        · cases h
      · cases h
    · cases h
  · cases h
theorem run_buildSlice {t te : TypeId} {sz by_ n : Nat} (ht : apT P t = some (te, sz, by_)) {G : Gh} {ρ : Operand → AV} {a : Act} (ps : List (Nat × Operand)) {els : List (List D)} (hp : partsE sz (ps.map fun x => (x.1, ρ x.2)) 0 = some els) (hn : ps.length = n) (hsm : n * sz ≤ 16777216)
    (ho : ∀ x ∈ ps.map (·.2), Ar G (ρ x) (a.eval x)) (w : World) :
    ∃ us : List Value, All2 (Dr G.V) els.flatten us ∧ (∀ e ∈ els, e.length = sz) ∧ els.length = n ∧
      (Instr.buildSlice t n (ps.map fun x => (x.1, a.eval x.2)).toArray).run P w = .ok (.slice (some ⟨w.heap.size, 0, none⟩) n n) (w.alloc (.cells us.toArray te)) := by
  obtain ⟨hu, hpos, i, z, hi, hz, h1, h2, h3⟩ := apT_some ht
  have hsz : (P.info? te).map (·.size) = some sz := by simp [hi, h1]
  have helen : els.length = n := by
    obtain ⟨_, _, _, _, h⟩ := partsE_ok (G := G) (sz := sz) _ _ 0 els (List.replicate (els.length * sz) undef) (parts_ok (G := G) (a := a) ps ho) hp (by simp)
    rw [h]; simp [hn]
  obtain ⟨zr, hzr⟩ : ∃ zr : Array Value, zr = if n * sz = 0 then #[] else z.cells := ⟨_, rfl⟩
  obtain ⟨zs, hzs⟩ : ∃ zs : Array Value, zs = (Array.range (n * sz)).map (zr[· % zr.size]!) := ⟨_, rfl⟩
  obtain ⟨us, e, hc, hl1, hl2⟩ := partsE_ok (G := G) (sz := sz) _ _ 0 els zs.toList (parts_ok (G := G) (a := a) ps ho) hp (by simp [hzs, helen])
  simp only [Nat.zero_mul, List.take_zero, List.nil_append] at e
  refine ⟨us, hc, hl1, helen, ?_⟩
  have hlim : ¬ (n * sz > 2 ^ 24) := by omega
  have e' : Instr.fill (fun i => some (i * sz, sz)) zs (List.map (fun x => (x.1, a.eval x.2)) ps) = some us.toArray := by simpa using e
  have hzv : (zeroValue te).run P w = .ok z w := by simp [zeroValue, typeInfo, hi, hz]
  have e'' : ∀ zq : Array Value, zq = zr → Instr.fill (fun i => some (i * sz, sz)) ((Array.range (n * sz)).map (zq[· % zq.size]!)) (List.map (fun x => (x.1, a.eval x.2)) ps) = some us.toArray := fun zq hq => by
    rw [hq, ← hzs]; exact e'
  by_cases h0 : n * sz = 0
  · have := e'' #[] (by rw [hzr, if_pos h0])
    simp only [Instr.buildSlice, Sem.run_bind, run_underlying hu, Result.andThen_ok, run_sizeOf' hsz, if_neg hlim, Sem.run_pure, if_pos h0, this]
    simp [newRow]
  · have := e'' z.cells (by rw [hzr, if_neg h0])
    simp only [Instr.buildSlice, Sem.run_bind, run_underlying hu, Result.andThen_ok, run_sizeOf' hsz, if_neg hlim, Sem.run_pure, if_neg h0, hzv, this]
    simp [newRow]
variable {pm : Pm} {ops : Array Oper} {rest : List Oper} {st : St} {K : St → Prop} {dst : Option Tmp} {ty : TypeId} {p : String} {af : Array Edge} {gd : Option (Nat × Bool)} {h : List LB} {ρ : Operand → AV}
theorem q_buildSlice (t : TypeId) (n : Nat) (ps : List (Nat × Operand)) {te : TypeId} {sz by_ : Nat} {els : List (List D)} (ht : apT P t = some (te, sz, by_)) (hp : partsE sz (ps.map fun x => (x.1, ρ x.2)) 0 = some els) (hn : ps.length = n) (hsm : n * sz ≤ 16777216) :
    Qt P pm h ⟨dst, .buildSlice t n ps.toArray, ty, p, af, gd⟩ ρ (.c (.d (.lst sz els))) := by
  intro cx G w a _ s ho next Q hnext
  obtain ⟨us, hc, hl, hen, hrun⟩ := run_buildSlice (P := P) ht ps hp hn hsm (fun x hx => ho x (by simpa [Op.operands] using hx)) w
  obtain ⟨s', hH, hne⟩ := s.alloc (.cells us.toArray te)
  have hr : (execOp a.eval ⟨dst, .buildSlice t n ps.toArray, ty, p, af, gd⟩).run P w = .ok (.value (.slice (some ⟨w.heap.size, 0, none⟩) n n)) (w.alloc (.cells us.toArray te)) := by
    simp only [execOp, List.map_toArray, Sem.run_bind, hrun, Result.andThen_ok, Sem.run_pure]
  unfold Oper.wp
  rw [hr]
  let V' : Vw := ⟨fun b => if b = w.heap.size then some (.cells us.toArray te) else G.V.H b, fun b => G.V.I b ∨ b = w.heap.size⟩
  have hV : G.V.Le V' := ⟨fun b o e => by
    have : b ≠ w.heap.size := fun e' => by rw [e', hH] at e; cases e
    simp only [V', if_neg this, e], fun b hb => .inl hb⟩
  have hG : GLe G.g.length G ⟨V', G.g⟩ := ⟨hV, fun i v n _ e => ⟨v, n, e, Nat.le_refl _, fun _ => rfl, fun _ => ⟨rfl, rfl⟩⟩⟩
  refine hnext _ _ ⟨V', G.g⟩ hG ⟨s'.len, fun i b e hi he => ?_, s'.sep, fun b o hb => ?_, fun b hb => ?_, s'.below, s'.ext.trans (hG.all _), fun q hq => (s'.glob q hq).grow hG, s'.sz⟩ ?_
  · have h0 := s'.ent i b e hi he
    refine Lr.mono' hG ?_ h0
    intro k hlv hk
    have := hne i b e hi hlv he
    have hkn : k ≠ w.heap.size := fun e' => this (by rw [hk, e'])
    simp only [V', if_neg hkn]
    exact (h0.blk hlv hk).2.2
  · simp only [V'] at hb
    split at hb
    · next e => cases hb; rw [e]; exact heap_alloc_new w _
    · exact s'.view b o hb
  · rcases hb with hb | rfl
    · obtain ⟨⟨o, h1⟩, h2⟩ := s'.imm b hb
      exact ⟨⟨o, hV.H b o h1⟩, h2⟩
    · exact ⟨⟨.cells us.toArray te, by simp [V']⟩, .inr s.below.size⟩
  · show Dr V' _ _
    have hmax : n ≤ maxLen := by
      have := (apT_some ht).2.1
      have : n ≤ n * sz := Nat.le_mul_of_pos_right n this
      unfold maxLen; omega
    have key : Dr V' (.lst sz els) (.slice (some ⟨w.heap.size, 0, none⟩) els.length n) := by
      refine .lst sz els _ n (fun i j => us.getD (i * sz + j) undef) (by omega) hmax hl (fun hn => ⟨_, rfl, .inr rfl, fun i e j c h1 h2 => ?_⟩) (fun i e j c h1 h2 => ?_)
      · obtain ⟨u, hu, _⟩ := hc.get _ _ (flat_get els hl i e j c h1 h2)
        rw [add_plain]
        simp [cellIn, V', hu]
      · obtain ⟨u, hu, hd⟩ := hc.get _ _ (flat_get els hl i e j c h1 h2)
        simpa [hu] using hd.mono hV
    rw [hen] at key
    exact key
theorem AXl.buildSlice {t : TypeId} {n : Nat} {ps : List (Nat × Operand)} {te : TypeId} {sz by_ : Nat} {els : List (List D)} (ht : apT P t = some (te, sz, by_)) (hp : partsE sz (ps.map fun x => (x.1, ev pm.Γ st.env x.2)) 0 = some els) (hn : ps.length = n) (hsm : n * sz ≤ 16777216) (hd : dstOk pm.N dst)
    (hk : AXl P pm ops rest (St.put ⟨st.env, st.heap ++ [.row te sz els 0]⟩ dst (.c (.own st.heap.length 0))) K) : AXl P pm ops (⟨dst, .buildSlice t n ps.toArray, ty, p, af, none⟩ :: rest) st K := by
  refine AXl.eff rfl fun cx G a w hp' s => ?_
  subst hp'
  obtain ⟨us, hc, hl, hen, hrun⟩ := run_buildSlice (P := P) ht ps hp hn hsm (fun x _ => s.ev x) w
  have hmax : els.length ≤ maxLen := by
    have := (apT_some ht).2.1
    have : n ≤ n * sz := Nat.le_mul_of_pos_right n this
    unfold maxLen; omega
  have hpr := push_row s.h te 0 hc hl hmax
  rw [hen] at hpr
  refine ⟨.slice (some ⟨w.heap.size, 0, none⟩) n n, w.alloc (.cells us.toArray te), _, _, .inl ?_, s.pushed (α := .c (.own st.heap.length 0)) hpr ⟨rfl, _, 0, get_last _ _ s.h.len.symm, Nat.le_refl _, fun _ => rfl⟩ hd, hk⟩
  simp only [execOp, List.map_toArray, Sem.run_bind, hrun, Result.andThen_ok, Sem.run_pure]
end Go.Ax

/-
  Append, make, nil slices taken as rows of the call's own, and rows that become still. No condition.
-/
namespace Go.Ax
open Go Go.RowKit
variable {P : Program}
theorem run_append_of_nil (w : World) (base : Nat) (t ty e : TypeId) (i : TypeInfo) (size : Nat) (ht : P.underlying t = some (.slice e)) (hi : P.info? e = some i)
    (v : Value) (n : Nat) (xs : List Value) (hown : w.ownsRow base e size v n xs) (c : Nat) : (Builtin.append_ #[t, t] ty #[v, .slice none 0 c]).run P w = .ok v w := by
  rcases hown.2 with ⟨rfl, rfl⟩ | ⟨g, cap, cur, rfl, _, _, hnc, _⟩
  · simp [Builtin.append_, run_underlying ht, sizeOf, typeInfo, hi, Builtin.lenOf, Builtin.firstCells]
  · simp [Builtin.append_, run_underlying ht, sizeOf, typeInfo, hi, Builtin.lenOf, Builtin.firstCells, hnc, storeCells]
theorem SlAt.row {V : Vw} {w : World} {sz : Nat} {els : List (List D)} {v : Value} (hs : 0 < sz) (h : SlAt V w sz els v) :
    ∃ (A : Option Addr) (cap : Nat) (xs : List Value), v = .slice A els.length cap ∧ All2 (Dr V) els.flatten xs ∧ xs.length = els.length * sz ∧ (els ≠ [] → ∃ ad, A = some ad ∧ ∀ j u, xs[j]? = some u → w.cell? (ad.add j) = some u) := by
  obtain ⟨A, cap, u, rfl, _, _, hl, ha, hu⟩ := h.form
  have hlen := flat_len els hl
  have hget : ∀ j, j < els.length * sz → ∃ e c, els[j / sz]? = some e ∧ e[j % sz]? = some c ∧ els.flatten[j]? = some c := fun j hj => by
    have h1 : j / sz < els.length := Nat.div_lt_of_lt_mul (by rw [Nat.mul_comm]; exact hj)
    have he : els[j / sz].length = sz := hl _ (List.getElem_mem h1)
    have h2 : j % sz < els[j / sz].length := by rw [he]; exact Nat.mod_lt _ hs
    refine ⟨_, _, List.getElem?_eq_getElem h1, List.getElem?_eq_getElem h2, ?_⟩
    have := flat_get els hl (j / sz) _ (j % sz) _ (List.getElem?_eq_getElem h1) (List.getElem?_eq_getElem h2)
    rwa [show j / sz * sz + j % sz = j from by rw [Nat.mul_comm]; exact Nat.div_add_mod j sz] at this
  refine ⟨A, cap, (List.range (els.length * sz)).map fun j => u (j / sz) (j % sz), rfl, All2.of_get (by simp [hlen]) fun j a b h1 h2 => ?_, by simp, fun hn => ?_⟩
  · have hj : j < els.length * sz := by have := getElem?_lt h1; omega
    obtain ⟨e, c, e1, e2, e3⟩ := hget j hj
    rw [e3] at h1
    cases h1
    simp only [List.getElem?_map, List.getElem?_range hj, Option.map_some, Option.some.injEq] at h2
    subst h2
    exact hu _ _ _ _ e1 e2
  · obtain ⟨ad, rfl, hc⟩ := ha hn
    refine ⟨ad, rfl, fun j x hx => ?_⟩
    have hj : j < els.length * sz := by have := getElem?_lt hx; simpa using this
    obtain ⟨e, c, e1, e2, _⟩ := hget j hj
    simp only [List.getElem?_map, List.getElem?_range hj, Option.map_some, Option.some.injEq] at hx
    subst hx
    have := hc _ _ _ _ e1 e2
    rwa [show j / sz * sz + j % sz = j from by rw [Nat.mul_comm]; exact Nat.div_add_mod j sz] at this
variable {pm : Pm} {ops : Array Oper} {rest : List Oper} {st : St} {K : St → Prop} {dst : Option Tmp} {ty : TypeId} {p : String} {af : Array Edge} {gd : Option (Nat × Bool)} {h : List LB} {ρ : Operand → AV}
theorem row_form {w : World} {base : Nat} {t : TypeId} {sz : Nat} {v : Value} {n : Nat} {xs : List Value} (h : w.ownsRow base t sz v n xs) :
    (∀ q, v ≠ .pointer q) ∧ (∀ k, blkOf v = some k → v.ownBlock = some k) ∧ (∀ k, v.ownBlock = some k → blkOf v = some k) ∧ v.oneCell' = true := by
  obtain ⟨_, ⟨rfl, _⟩ | ⟨g, cap, cur, rfl, _⟩⟩ := h
  · exact ⟨fun q => (by simp), fun k h => (by cases h), fun k h => (by cases h), rfl⟩
  · exact ⟨fun q => (by simp), fun k h => h, fun k h => h, rfl⟩
theorem AXl.append0 {t : TypeId} {x y : Operand} {te : TypeId} {sz by_ i ver : Nat} {els news : List (List D)} (ht : apT P t = some (te, sz, by_)) (hx : ev pm.Γ st.env x = .c (.own i ver)) (hi : st.heap[i]? = some (.row te sz els ver))
    (hy : ∀ (cx : Cx) (G : Gh) (a : Act) (w : World), cx.pm = pm → Sat cx G st a w → SlAt G.V w sz news (a.eval y)) (hb : (els.length + news.length) * by_ ≤ 140737488355328) (hm : els.length + news.length ≤ 4294967296) (hd : dstOk pm.N dst)
    (hk : AXl P pm ops rest (St.put ⟨st.env, st.heap.set i (.row te sz (els ++ news) (ver + 1))⟩ dst (.c (.own i (ver + 1)))) K) :
    AXl P pm ops (⟨dst, .call { callee := .builtin .append, args := #[x, y], argTypes := #[t, t] }, ty, p, af, none⟩ :: rest) st K := by
  refine AXl.eff rfl fun cx G a w hp s => ?_
  subst hp
  obtain ⟨hu, hpos, ii, z, hii, hz, h1, h2, h3⟩ := apT_some ht
  obtain ⟨v, xs, hg, how, hob, hdr, hl⟩ := row_at s.h hi
  obtain ⟨_, v0, n', hg', _, hxx⟩ := (hx ▸ s.ev x : Ar G (.c (.own i ver)) (a.eval x))
  rw [hg] at hg'
  cases hg'
  have e1 := hxx rfl
  have hsl := hy cx G a w rfl s
  obtain ⟨A, cap, ys, e2, hys, hyl, hyc⟩ := hsl.row hpos
  have hlnews : ∀ e ∈ news, e.length = sz := by obtain ⟨_, _, _, _, _, _, hl, _⟩ := hsl.form; exact hl
  have hrun : ∃ v' w', (Builtin.append_ #[t, t] ty #[v, .slice A news.length cap]).run P w = .ok v' w' ∧ w'.ownsRow cx.w0.heap.size te sz v' (els.length + news.length) (xs ++ ys) ∧ w.grownBy w' v.ownBlock ∧ (v'.ownBlock = v.ownBlock ∨ v'.ownBlock = some w.heap.size) := by
    by_cases hn : news = []
    · subst hn
      have hys0 : ys = [] := List.eq_nil_of_length_eq_zero (by simpa using hyl)
      subst hys0
      cases A with
      | none => exact ⟨v, w, run_append_of_nil w _ t ty te ii sz hu hii v _ xs how cap, by simpa using how, World.grownBy.refl w _, .inl rfl⟩
      | some ad =>
        obtain ⟨v', w', q1, q2, q3, _, q5⟩ := run_append_own_at (P := P) w cx.w0.heap.size t ty te ii z sz by_ hu hii hz h1 h2 h3 hpos v els.length xs how ad 0 cap [] (by simp) (by simp) (by simp) (by unfold maxLen; simp at hm; omega) (by simpa using hb) s.h.below.size
        exact ⟨v', w', q1, by simpa using q2, q3, q5⟩
    · obtain ⟨ad, rfl, hc⟩ := hyc hn
      have h1c : ∀ u ∈ ys, u.oneCell' = true := fun u hu => by
        obtain ⟨j, hj, e⟩ := List.mem_iff_getElem.1 hu
        obtain ⟨d, _, hd⟩ := hys.getR j u (by rw [List.getElem?_eq_getElem hj, e])
        exact hd.one
      obtain ⟨v', w', q1, q2, q3, _, q5⟩ := run_append_own_at (P := P) w cx.w0.heap.size t ty te ii z sz by_ hu hii hz h1 h2 h3 hpos v els.length xs how ad news.length cap ys hyl hc h1c (by unfold maxLen; omega) hb s.h.below.size
      exact ⟨v', w', q1, q2, q3, q5⟩
  obtain ⟨v', w', hr, how', hgr, hat⟩ := hrun
  have f1 := row_form how
  have f2 := row_form how'
  have hHnone : G.V.H w.heap.size = none := by
    cases e : G.V.H w.heap.size with
    | none => rfl
    | some o => have := heap_lt (s.h.view _ _ e); omega
  have hL : ∀ G' : Gh, G'.V = G.V → Lr G' w' cx.w0.heap.size (.row te sz (els ++ news) (ver + 1)) (v', ver + 1) := fun G' hV => by
    refine ⟨rfl, xs ++ ys, by simpa using how', fun b hb => ?_, by rw [hV, List.flatten_append]; exact hdr.append hys, fun e he => ?_⟩
    · rw [hV]
      rcases hat with e | e
      · exact hob b (by rw [← e]; exact hb)
      · simp only at hb
        rw [e] at hb; cases hb; exact hHnone
    · rcases List.mem_append.1 he with h | h
      · exact hl e h
      · exact hlnews e h
  obtain ⟨hG, s'⟩ := s.h.move (w' := w') (v' := v') (n' := ver + 1) (lb' := .row te sz (els ++ news) (ver + 1)) hi trivial hg (by omega) f1.1 f1.2.1 f2.2.1 hgr hat f1.2.2.1 hL
  refine ⟨v', w', _, _, .inl ?_, (s.step hG s').put (α := .c (.own i (ver + 1))) ⟨f2.2.2.2, v', ver + 1, by simp [getElem?_lt hg], Nat.le_refl _, fun _ => rfl⟩ hd, hk⟩
  simp [execOp, resolve, invoke, builtin, e1, e2, hr]
theorem slAt_nil (V : Vw) (w : World) (sz : Nat) : SlAt V w sz [] (.slice none 0 0) := ⟨none, 0, fun _ _ => undef, rfl, Nat.le_refl _, Nat.zero_le _, by simp, by simp, by simp⟩
def elsOfN (sz : Nat) (h : List LB) : AV → Option (Nat × List (List D))
  | .c (.d (.raw (.slice none 0 0))) => some (sz, [])
  | α => elsOf h α
theorem slAt_ofN {cx : Cx} {G : Gh} {h : List LB} {w : World} (s : SatH cx G h w) {α : AV} {v : Value} {sz sz' : Nat} {els : List (List D)} (hα : elsOfN sz' h α = some (sz, els)) (hv : Ar G α v) : SlAt G.V w sz els v := by
  unfold elsOfN at hα
  split at hα
  · cases hα
    rw [ar_raw hv]; exact slAt_nil _ _ _
  · exact slAt_of s hα hv
theorem AXl.append {t : TypeId} {x y : Operand} {te : TypeId} {sz by_ i ver : Nat} {els news : List (List D)} (ht : apT P t = some (te, sz, by_)) (hx : ev pm.Γ st.env x = .c (.own i ver)) (hi : st.heap[i]? = some (.row te sz els ver))
    (hy : elsOfN sz st.heap (ev pm.Γ st.env y) = some (sz, news)) (hb : (els.length + news.length) * by_ ≤ 140737488355328) (hm : els.length + news.length ≤ 4294967296) (hd : dstOk pm.N dst)
    (hk : AXl P pm ops rest (St.put ⟨st.env, st.heap.set i (.row te sz (els ++ news) (ver + 1))⟩ dst (.c (.own i (ver + 1)))) K) :
    AXl P pm ops (⟨dst, .call { callee := .builtin .append, args := #[x, y], argTypes := #[t, t] }, ty, p, af, none⟩ :: rest) st K :=
  AXl.append0 ht hx hi (fun cx G a w hp s => slAt_ofN s.h hy (by rw [← hp]; exact s.ev y)) hb hm hd hk
theorem Sat.nilrow {cx : Cx} {G : Gh} {a : Act} {w : World} (s : Sat cx G st a w) (k : Nat) (te : TypeId) (sz : Nat) (hk : lk k st.env = .c (.d (.raw (.slice none 0 0)))) :
    Sat cx ⟨G.V, G.g ++ [(.slice none 0 0, 0)]⟩ ⟨pute k (.c (.own st.heap.length 0)) st.env, st.heap ++ [.row te sz [] 0]⟩ a w := by
  have s' := s.h.push (.slice none 0 0) 0 (.row te sz [] 0) ⟨rfl, [], World.ownsRow_nil w _ te sz, fun b hb => (by cases hb), .nil, by simp⟩ (fun k hk => by cases hk)
  refine ⟨s', fun t => ?_, s.N, s.defers⟩
  rw [lk_put]
  by_cases hkt : k = t
  · subst hkt
    rw [if_pos rfl]
    have hv := ar_raw (hk ▸ s.ev (.tmp k) : Ar G (.c (.d (.raw (.slice none 0 0)))) (a.tmps.getD k undef))
    rw [hv]
    exact ⟨rfl, _, 0, get_last _ _ s.h.len.symm, Nat.le_refl _, fun _ => rfl⟩
  · rw [if_neg hkt]; exact (s.env t).grow (gle_push _)
theorem AXl.nilrow (k : Nat) (te : TypeId) (sz : Nat) (hk : lk k st.env = .c (.d (.raw (.slice none 0 0)))) (h : AXl P pm ops rest ⟨pute k (.c (.own st.heap.length 0)) st.env, st.heap ++ [.row te sz [] 0]⟩ K) : AXl P pm ops rest st K :=
  fun cx G a w Q hp s hQ => h cx _ a w Q hp (s.nilrow k te sz hk) hQ
theorem AXc.nilrow {c : Code} {Q : Exit → St → Prop} (k : Nat) (te : TypeId) (sz : Nat) (hk : lk k st.env = .c (.d (.raw (.slice none 0 0)))) (h : AXc P pm c ⟨pute k (.c (.own st.heap.length 0)) st.env, st.heap ++ [.row te sz [] 0]⟩ Q) : AXc P pm c st Q :=
  fun cx G a w hp s => h cx _ a w hp (s.nilrow k te sz hk)
/-! ### make -/
theorem AXl.make {t : TypeId} {x y : Operand} {te : TypeId} {sz by_ n : Nat} {k k' : IntKind} {zc : List C} {zd : List D} (ht : apT P t = some (te, sz, by_)) (hz : zeroC P te = some zc) (hzd : toDs zc = some zd) (hx : ev pm.Γ st.env x = .c (.d (.int k (n : Int)))) (hy : ev pm.Γ st.env y = .c (.d (.int k' (n : Int)))) (hb : n * by_ ≤ 140737488355328) (hm : n ≤ 4294967296) (hd : dstOk pm.N dst)
    (hk : AXl P pm ops rest (St.put ⟨st.env, st.heap ++ [.row te sz (List.replicate n zd) 0]⟩ dst (.c (.own st.heap.length 0))) K) :
    AXl P pm ops (⟨dst, .makeSlice t x y, ty, p, af, none⟩ :: rest) st K := by
  refine AXl.eff rfl fun cx G a w hp s => ?_
  subst hp
  obtain ⟨hu, hpos, ii, z, hii, hzz, h1, h2, h3⟩ := apT_some ht
  have e1 := ar_int (hx ▸ s.ev x : Ar G _ (a.eval x))
  have e2 := ar_int (hy ▸ s.ev y : Ar G _ (a.eval y))
  obtain ⟨z', _, hc, hz'⟩ := zeroC_ok hz G w
  rw [hii] at hz'
  simp only [Option.bind_some, hzz, Option.some.injEq] at hz'
  subst hz'
  rw [toDs_ok _ _ hzd] at hc
  have hcd := all2_dr hc
  have hzl : zd.length = sz := by rw [hcd.length, ← h3]; simp
  have hbi : (ii.bytes : Int) * (n : Int) ≤ 281474976710656 := by
    have : n * ii.bytes ≤ 140737488355328 := by rw [h2]; exact hb
    rw [← Int.natCast_mul, Nat.mul_comm]; omega
  have hrun := run_make (P := P) w t te ii z hu hii hzz k k' n n (by omega) (by omega) hbi (by omega)
  simp only [Int.toNat_natCast] at hrun
  have hcells : All2 (Dr G.V) (List.replicate n zd).flatten (madeCells z.cells (n * ii.size)).toList := by
    refine All2.of_get ?_ fun j c b q1 q2 => ?_
    · rw [flat_len (sz := sz) _ (by simp [hzl])]
      simp [madeCells, h1]
    · have hj : j < n * sz := by have := getElem?_lt q1; rw [flat_len (sz := sz) _ (by simp [hzl])] at this; simpa using this
      have hn0 : j / sz < n := Nat.div_lt_of_lt_mul (by rw [Nat.mul_comm]; exact hj)
      have hmod : j % sz < zd.length := by rw [hzl]; exact Nat.mod_lt _ hpos
      have := flat_get (List.replicate n zd) (sz := sz) (by simp [hzl]) (j / sz) zd (j % sz) zd[j % sz] (by simp [hn0]) (List.getElem?_eq_getElem hmod)
      rw [show j / sz * sz + j % sz = j from by rw [Nat.mul_comm]; exact Nat.div_add_mod j sz] at this
      rw [this] at q1
      cases q1
      have hj' : j < n * ii.size := by rw [h1]; exact hj
      obtain ⟨b', hb', hdr⟩ := hcd.get (j % sz) _ (List.getElem?_eq_getElem hmod)
      have hb'' : z.cells[j % sz]? = some b' := by simpa using hb'
      have : b = z.cells[j % z.cells.size]! := by
        simp only [madeCells, Array.toList_map, Array.toList_range, List.getElem?_map, List.getElem?_range hj', Option.map_some, Option.some.injEq] at q2
        exact q2.symm
      rw [this, h3]
      simpa [getElem!_def, hb''] using hdr
  have hpr := push_row s.h te 0 hcells (sz := sz) (by simp [hzl]) (by simp; unfold maxLen; omega)
  simp only [List.length_replicate, Array.toArray_toList] at hpr
  refine ⟨.slice (some ⟨w.heap.size, 0, none⟩) n n, w.alloc (.cells (madeCells z.cells (n * ii.size)) te), _, _, .inl ?_, s.pushed (α := .c (.own st.heap.length 0)) hpr ⟨rfl, _, 0, get_last _ _ s.h.len.symm, Nat.le_refl _, fun _ => rfl⟩ hd, hk⟩
  simp only [execOp, e1, e2, Sem.run_bind, hrun, Result.andThen_ok, Sem.run_pure]
end Go.Ax
