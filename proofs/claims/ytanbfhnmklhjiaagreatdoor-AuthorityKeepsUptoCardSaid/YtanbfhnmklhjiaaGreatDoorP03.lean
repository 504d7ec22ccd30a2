/- Part of a proof about this program; no condition of its own. -/
import Derived.Test.YtanbfhnmklhjiaaGreatDoorP02
set_option linter.all false
/-
  The operations that read memory or make addresses: lengths, indices, fields, loads, slices. No condition.
-/
namespace Go.Ax
open Go Go.RowKit
variable {P : Program} {h : List LB} {ρ : Operand → AV} {dst : Option Tmp} {ty : TypeId} {p : String} {af : Array Edge} {gd : Option (Nat × Bool)}
def slT (P : Program) (t : TypeId) : Option (TypeId × Nat) :=
  match P.underlying t with
  | some (.slice e) => ((P.info? e).map (·.size)).map fun n => (e, n)
  | _ => none
def arT (P : Program) (t : TypeId) : Option (Nat × TypeId × Nat) :=
  match P.underlying t with
  | some (.array n e) => ((P.info? e).map (·.size)).map fun s => (n, e, s)
  | _ => none
def ldT (P : Program) (t : TypeId) : Option (Option Nat) :=
  match P.underlying t with
  | some (.struct _) | some (.array _ _) => ((P.info? t).map (·.size)).map some
  | some _ => some none
  | none => none
def fdT (P : Program) (t : TypeId) (k : Nat) : Option Nat :=
  match P.underlying t with
  | some (.struct fs) => match fs[k]? with
    | some f => match (P.info? f.type).map (·.size) with
      | some n => if n = 0 then none else some f.offset
      | none => none
    | none => none
  | _ => none
theorem slT_some {t e : TypeId} {n : Nat} (hh : slT P t = some (e, n)) : P.underlying t = some (.slice e) ∧ (P.info? e).map (·.size) = some n := by
  unfold slT at hh
  split at hh
  · next e' he =>
    cases hi : P.info? e' with
    | none => simp [hi] at hh
    | some i => simp [hi] at hh; obtain ⟨rfl, rfl⟩ := hh; exact ⟨he, by simp [hi]⟩
  · cases hh
theorem arT_some {t e : TypeId} {m n : Nat} (hh : arT P t = some (m, e, n)) : P.underlying t = some (.array m e) ∧ (P.info? e).map (·.size) = some n := by
  unfold arT at hh
  split at hh
  · next m' e' he =>
    cases hi : P.info? e' with
    | none => simp [hi] at hh
    | some i => simp [hi] at hh; obtain ⟨rfl, rfl, rfl⟩ := hh; exact ⟨he, by simp [hi]⟩
  · cases hh
theorem run_sizeOf' {t : TypeId} {n : Nat} (hh : (P.info? t).map (·.size) = some n) (w : World) : (sizeOf t).run P w = .ok n w := by
  cases hi : P.info? t with
  | none => simp [hi] at hh
  | some i => simp [hi] at hh; simp [sizeOf, typeInfo, hi, hh]
def cellsAt (h : List LB) : AV → Option (List C)
  | .c (.ptr cs) => some (cs.map C.d)
  | .c (.loc i off) => match h[i]? with
    | some (.box _ cs) => some (cs.drop off)
    | _ => none
  | _ => none
structure PtAt (G : Gh) (w : World) (cs : List C) (v : Value) : Prop where
  form : ∃ (ad : Addr) (vs : List Value), v = .pointer (some ad) ∧ All2 (Cr G) cs vs ∧ ∀ j u, vs[j]? = some u → w.cell? (ad.add j) = some u
theorem all2_fn {G : Gh} {cs : List D} (u : Nat → Value) (hc : ∀ j c, cs[j]? = some c → Dr G.V c (u j)) : All2 (Cr G) (cs.map C.d) ((List.range cs.length).map u) :=
  All2.of_get (by simp) fun i a b h1 h2 => by
    rw [List.getElem?_map] at h1
    cases e : cs[i]? with
    | none => simp [e] at h1
    | some c =>
      simp [e] at h1
      subst h1
      have hi := getElem?_lt e
      simp [List.getElem?_map, List.getElem?_range hi] at h2
      subst h2
      exact hc i c e
theorem box_at {cx : Cx} {G : Gh} {h : List LB} {w : World} (s : SatH cx G h w) {i : Nat} {t : TypeId} {cs : List C} (hi : h[i]? = some (.box t cs)) :
    ∃ b vs, G.g[i]? = some (.pointer (some ⟨b, 0, none⟩), 0) ∧ cx.w0.heap.size ≤ b ∧ G.V.H b = none ∧ w.heap[b]? = some (.cells vs.toArray t (0, 0)) ∧ All2 (Cr G) cs vs := by
  have hlt : i < G.g.length := by rw [s.len]; exact getElem?_lt hi
  obtain ⟨⟨v, n⟩, he⟩ : ∃ e, G.g[i]? = some e := ⟨_, List.getElem?_eq_getElem hlt⟩
  obtain ⟨h1, b, vs, h2, h3, h4, h5, h6⟩ := s.ent i _ _ hi he
  simp only at h1 h2
  subst h1 h2
  exact ⟨b, vs, he, h3, h4, h5, h6⟩
theorem ptAt_of {cx : Cx} {G : Gh} {w : World} (s : SatH cx G h w) {α : AV} {v : Value} {cs : List C} (hα : cellsAt h α = some cs) (hv : Ar G α v) : PtAt G w cs v := by
  unfold cellsAt at hα
  split at hα
  · next ds =>
    cases hα
    obtain ⟨ad, u, rfl, hc⟩ := hv
    refine ⟨ad, _, rfl, all2_fn u (fun j c hj => (hc j c hj).2), fun j x hx => ?_⟩
    have hj : j < ds.length := by have := getElem?_lt hx; simpa using this
    simp [List.getElem?_map, List.getElem?_range hj] at hx
    subst hx
    exact cell_of_view s.view (hc j _ (List.getElem?_eq_getElem hj)).1
  · next i off =>
    split at hα
    · next t cs' hi =>
      cases hα
      obtain ⟨b, n, hg, rfl⟩ := hv
      obtain ⟨b', vs, hg', _, _, hb, hc⟩ := box_at s hi
      rw [hg] at hg'
      cases hg'
      refine ⟨_, _, rfl, hc.drop off, fun j u hu => ?_⟩
      rw [List.getElem?_drop] at hu
      rw [add_plain]
      simp [World.cell?, hb, hu]
    · cases hα
  · cases hα
theorem run_loadAt1 {t : TypeId} (hl : ldT P t = some none) {w : World} {ad : Addr} {u : Value} (hc : w.cell? ad = some u) : (Instr.loadAt t (.pointer (some ad))).run P w = .ok u w := by
  have : (isAgg t).run P w = .ok false w := by
    unfold ldT at hl
    split at hl
    · cases hi : P.info? t <;> simp [hi] at hl
    · cases hi : P.info? t <;> simp [hi] at hl
    · next q h1 h2 hq =>
      cases q <;> simp_all [isAgg, run_underlying hq]
    · cases hl
  simp only [Instr.loadAt, Instr.sureAddr, Sem.run_bind, Sem.run_pure, Result.andThen_ok, loadVar, this, Bool.false_eq_true, if_false, run_load, hc]
theorem run_loadAtN {t : TypeId} {n : Nat} (hl : ldT P t = some (some n)) {w : World} {ad : Addr} {vs : List Value} (hn : vs.length = n) (hc : ∀ j u, vs[j]? = some u → w.cell? (ad.add j) = some u) :
    (Instr.loadAt t (.pointer (some ad))).run P w = .ok (.agg vs.toArray) w := by
  have h1 : (isAgg t).run P w = .ok true w ∧ (P.info? t).map (·.size) = some n := by
    unfold ldT at hl
    split at hl
    · next hq => cases hi : P.info? t <;> simp [hi] at hl; simp [isAgg, run_underlying hq, hl]
    · next hq => cases hi : P.info? t <;> simp [hi] at hl; simp [isAgg, run_underlying hq, hl]
    · cases hl
    · cases hl
  have h2 := run_sizeOf' h1.2 w
  have h3 := run_loadCells_list (P := P) (w := w) ad vs hc
  rw [hn] at h3
  simp [Instr.loadAt, Instr.sureAddr, loadVar, h1.1, h2, h3]
theorem s_load1 (t : TypeId) (x : Operand) {c : C} {cs : List C} (hl : ldT P t = some none) (hx : cellsAt h (ρ x) = some (c :: cs)) : Still P h ⟨dst, .load t x, ty, p, af, gd⟩ ρ (.c c) := by
  intro cx G w a s ho
  obtain ⟨ad, vs, hv, hc, hr⟩ := (ptAt_of s hx (ho x (by simp [Op.operands]))).form
  cases hc with
  | @cons _ u _ vs hcu _ =>
    refine ⟨u, ?_, hcu⟩
    have := run_loadAt1 hl (hr 0 u rfl)
    simp only [add_zero] at this
    simp [execOp, hv, this]
theorem s_loadN (t : TypeId) (x : Operand) {n : Nat} {cs : List C} (hl : ldT P t = some (some n)) (hx : cellsAt h (ρ x) = some cs) (hn : n ≤ cs.length) : Still P h ⟨dst, .load t x, ty, p, af, gd⟩ ρ (.agg (cs.take n)) := by
  intro cx G w a s ho
  obtain ⟨ad, vs, hv, hc, hr⟩ := (ptAt_of s hx (ho x (by simp [Op.operands]))).form
  refine ⟨.agg (vs.take n).toArray, ?_, vs.take n, rfl, hc.take n⟩
  have := run_loadAtN (vs := vs.take n) hl (by rw [List.length_take, ← hc.length]; omega) fun j u hu => hr j u (by
    rw [List.getElem?_take] at hu
    split at hu
    · exact hu
    · cases hu)
  simp [execOp, hv, this]
theorem rowp_at {cx : Cx} {G : Gh} {w : World} (s : SatH cx G h w) {i ver sz k off : Nat} {t : TypeId} {els : List (List D)} {e : List D} {v : Value} (hi : h[i]? = some (.row t sz els ver)) (hk : els[k]? = some e) (hv : Ar G (.c (.rowp i ver sz k off)) v) :
    PtAt G w ((e.drop off).map C.d) v := by
  obtain ⟨v0, xs, hg, how, _, hd, hl⟩ := row_at s hi
  obtain ⟨_, v0', n', hg', _, hx⟩ := hv
  rw [hg] at hg'
  cases hg'
  obtain ⟨b, len, cap, rfl, rfl⟩ := hx rfl
  obtain ⟨g, cap', hv', hb, _, _, hcell⟩ := own_cells how (by have := getElem?_lt hk; omega)
  injection hv' with hv' _ _
  injection hv' with hv'
  injection hv' with hv' _ _
  subst hv'
  have hel := hl e (List.mem_of_getElem? hk)
  have hget : ∀ j c, e[j]? = some c → ∃ u, xs[k * sz + j]? = some u ∧ Dr G.V c u := fun j c hj => hd.get _ _ (flat_get els hl k e j c hk hj)
  refine ⟨_, _, rfl, all2_fn (fun j => xs.getD (k * sz + off + j) undef) (fun j c hj => ?_), fun j u hu => ?_⟩
  · rw [List.getElem?_drop] at hj
    obtain ⟨u, h1, h2⟩ := hget _ c hj
    rw [show k * sz + (off + j) = k * sz + off + j from by omega] at h1
    simpa [List.getD, h1] using h2
  · have hj : j < (e.drop off).length := by have := getElem?_lt hu; simpa using this
    simp only [List.getElem?_map, List.getElem?_range hj, Option.map_some, Option.some.injEq] at hu
    obtain ⟨c, hc⟩ : ∃ c, e[off + j]? = some c := ⟨_, List.getElem?_eq_getElem (by rw [List.length_drop] at hj; omega)⟩
    obtain ⟨u', h1, h2⟩ := hget _ c hc
    rw [show k * sz + (off + j) = k * sz + off + j from by omega] at h1
    simp only [List.getD, h1, Option.getD_some] at hu
    subst hu
    rw [add_plain, hcell _ _ h1]
theorem opnrow_at {cx : Cx} {G : Gh} {w : World} (s : SatH cx G h w) {i ver sz kk : Nat} {t : TypeId} {els : List (List D)} {cs : List C} (hi : h[i]? = some (.opn t sz els kk cs ver)) :
    ∃ v xs, G.g[i]? = some (v, ver) ∧ w.ownsRow cx.w0.heap.size t sz v els.length xs ∧ (∀ b, v.ownBlock = some b → G.V.H b = none) ∧ All2 (Cr G) (opnC els kk cs) xs ∧ kk < els.length ∧ cs.length = sz ∧ ∀ x ∈ els, x.length = sz := by
  have hlt : i < G.g.length := by rw [s.len]; exact getElem?_lt hi
  obtain ⟨⟨v, n⟩, he⟩ : ∃ e, G.g[i]? = some e := ⟨_, List.getElem?_eq_getElem hlt⟩
  obtain ⟨h1, ⟨h0, h00⟩, xs, h2, h3, h4, h5⟩ := s.ent i _ _ hi he
  simp only at h1 h2 h3
  subst h1
  exact ⟨v, xs, he, h2, h3, h4, h0, h00, h5⟩
theorem opnC_pre {els : List (List D)} {kk sz : Nat} {cs : List C} (hl : ∀ x ∈ els, x.length = sz) (hk : kk < els.length) : ((els.take kk).flatten.map C.d).length = kk * sz := by
  rw [List.length_map, flat_len _ fun x hx => hl x (List.mem_of_mem_take hx), List.length_take, Nat.min_eq_left (by omega)]
theorem opn_at {cx : Cx} {G : Gh} {w : World} (s : SatH cx G h w) {i ver sz kk off : Nat} {t : TypeId} {els : List (List D)} {cs : List C} {v : Value} (hi : h[i]? = some (.opn t sz els kk cs ver)) (hv : Ar G (.c (.rowp i ver sz kk off)) v) :
    PtAt G w (cs.drop off) v := by
  obtain ⟨v0, xs, hg, how, _, hd, hk, hcs, hl⟩ := opnrow_at s hi
  obtain ⟨_, v0', n', hg', _, hx⟩ := hv
  rw [hg] at hg'
  cases hg'
  obtain ⟨b, len, cap, rfl, rfl⟩ := hx rfl
  obtain ⟨g, cap', hv', hb, _, _, hcell⟩ := own_cells how (by omega)
  injection hv' with hv' _ _
  injection hv' with hv'
  injection hv' with hv' _ _
  subst hv'
  have hpre := opnC_pre (cs := cs) hl hk
  have h1 : All2 (Cr G) (cs ++ (els.drop (kk + 1)).flatten.map C.d) (xs.drop (kk * sz)) := by
    have := hd.drop (kk * sz)
    unfold opnC at this
    rwa [List.append_assoc, ← hpre, List.drop_left, hpre] at this
  have h2 : All2 (Cr G) cs ((xs.drop (kk * sz)).take sz) := by
    have := h1.take cs.length
    rwa [List.take_left, hcs] at this
  refine ⟨_, _, rfl, h2.drop off, fun j u hu => ?_⟩
  rw [List.getElem?_drop, List.getElem?_take] at hu
  split at hu
  · rw [List.getElem?_drop] at hu
    rw [add_plain, Nat.add_assoc]
    exact hcell _ _ hu
  · cases hu
theorem s_load1_opn (t : TypeId) (x : Operand) {i ver sz k off : Nat} {te : TypeId} {els : List (List D)} {cs rs : List C} {c : C} (hl : ldT P t = some none) (hx : ρ x = .c (.rowp i ver sz k off)) (hi : h[i]? = some (.opn te sz els k cs ver)) (he : cs.drop off = c :: rs) :
    Still P h ⟨dst, .load t x, ty, p, af, gd⟩ ρ (.c c) := by
  intro cx G w a s ho
  obtain ⟨ad, vs, hv, hc, hr⟩ := (opn_at s hi (hx ▸ ho x (by simp [Op.operands]))).form
  rw [he] at hc
  cases hc with
  | @cons _ u _ vs hcu _ =>
    refine ⟨u, ?_, hcu⟩
    have := run_loadAt1 hl (hr 0 u rfl)
    simp only [add_zero] at this
    simp [execOp, hv, this]
theorem s_loadN_opn (t : TypeId) (x : Operand) {n i ver sz k off : Nat} {te : TypeId} {els : List (List D)} {cs : List C} (hl : ldT P t = some (some n)) (hx : ρ x = .c (.rowp i ver sz k off)) (hi : h[i]? = some (.opn te sz els k cs ver)) (hn : off + n ≤ cs.length) :
    Still P h ⟨dst, .load t x, ty, p, af, gd⟩ ρ (.agg ((cs.drop off).take n)) := by
  intro cx G w a s ho
  obtain ⟨ad, vs, hv, hc, hr⟩ := (opn_at s hi (hx ▸ ho x (by simp [Op.operands]))).form
  refine ⟨.agg (vs.take n).toArray, ?_, vs.take n, rfl, hc.take n⟩
  have hlen := hc.length
  rw [List.length_drop] at hlen
  have := run_loadAtN (vs := vs.take n) hl (by rw [List.length_take, ← hlen]; omega) fun j u hu => hr j u (by
    rw [List.getElem?_take] at hu
    split at hu
    · exact hu
    · cases hu)
  simp [execOp, hv, this]
theorem s_load1_row (t : TypeId) (x : Operand) {i ver sz k off : Nat} {te : TypeId} {els : List (List D)} {e : List D} {c : D} {cs : List D} (hl : ldT P t = some none) (hx : ρ x = .c (.rowp i ver sz k off)) (hi : h[i]? = some (.row te sz els ver)) (hk : els[k]? = some e) (he : e.drop off = c :: cs) :
    Still P h ⟨dst, .load t x, ty, p, af, gd⟩ ρ (.c (.d c)) := by
  intro cx G w a s ho
  obtain ⟨ad, vs, hv, hc, hr⟩ := (rowp_at s hi hk (hx ▸ ho x (by simp [Op.operands]))).form
  rw [he] at hc
  cases hc with
  | @cons _ u _ vs hcu _ =>
    refine ⟨u, ?_, hcu⟩
    have := run_loadAt1 hl (hr 0 u rfl)
    simp only [add_zero] at this
    simp [execOp, hv, this]
theorem s_loadN_row (t : TypeId) (x : Operand) {n i ver sz k off : Nat} {te : TypeId} {els : List (List D)} {e : List D} (hl : ldT P t = some (some n)) (hx : ρ x = .c (.rowp i ver sz k off)) (hi : h[i]? = some (.row te sz els ver)) (hk : els[k]? = some e) (hn : off + n ≤ e.length) :
    Still P h ⟨dst, .load t x, ty, p, af, gd⟩ ρ (.agg (((e.drop off).take n).map C.d)) := by
  intro cx G w a s ho
  obtain ⟨ad, vs, hv, hc, hr⟩ := (rowp_at s hi hk (hx ▸ ho x (by simp [Op.operands]))).form
  refine ⟨.agg (vs.take n).toArray, ?_, vs.take n, rfl, by rw [List.map_take]; exact hc.take n⟩
  have hlen := hc.length
  simp at hlen
  have := run_loadAtN (vs := vs.take n) hl (by rw [List.length_take, ← hlen]; omega) fun j u hu => hr j u (by
    rw [List.getElem?_take] at hu
    split at hu
    · exact hu
    · cases hu)
  simp [execOp, hv, this]
/-! ### lengths -/
theorem s_len (t : TypeId) (x : Operand) {sz : Nat} {els : List (List D)} {e : TypeId} (ht : P.underlying t = some (.slice e)) (hx : elsOf h (ρ x) = some (sz, els)) :
    Still P h ⟨dst, .call { callee := .builtin .len, args := #[x], argTypes := #[t] }, ty, p, af, gd⟩ ρ (.c (.d (.int .i64 els.length))) := by
  intro cx G w a s ho
  obtain ⟨A, cap, u, hv, _⟩ := (slAt_of s hx (ho x (by simp [Op.operands, Call.operands]))).form
  refine ⟨.int .i64 els.length, ?_, Dr.int _ _⟩
  simp [execOp, resolve, invoke, builtin, Builtin.len_, hv, run_underlying ht, goInt]
theorem s_len_nil (t : TypeId) (x : Operand) {e : TypeId} (ht : P.underlying t = some (.slice e)) (hx : ρ x = .c (.d (.raw (.slice none 0 0)))) :
    Still P h ⟨dst, .call { callee := .builtin .len, args := #[x], argTypes := #[t] }, ty, p, af, gd⟩ ρ (.c (.d (.int .i64 0))) := by
  intro cx G w a s ho
  have hv := ar_raw (hx ▸ ho x (by simp [Op.operands, Call.operands]))
  refine ⟨.int .i64 0, ?_, Dr.int _ _⟩
  simp [execOp, resolve, invoke, builtin, Builtin.len_, hv, run_underlying ht, goInt]
theorem s_len_str (t : TypeId) (x : Operand) {l : List UInt8} (ht : P.underlying t = some .string) (hx : ρ x = .c (.d (.str l))) :
    Still P h ⟨dst, .call { callee := .builtin .len, args := #[x], argTypes := #[t] }, ty, p, af, gd⟩ ρ (.c (.d (.int .i64 l.length))) := by
  intro cx G w a s ho
  have hv := ar_str (hx ▸ ho x (by simp [Op.operands, Call.operands]))
  refine ⟨.int .i64 l.length, ?_, Dr.int _ _⟩
  have hz : (⟨l.toArray⟩ : ByteArray).size = l.length := by simp [ByteArray.size]
  have hl := run_len_string (P := P) (w := w) t ty ⟨l.toArray⟩ ht
  rw [hz] at hl
  simp [execOp, resolve, invoke, builtin, hv, hl, goInt]
/-! ### indices -/
theorem run_indexAt {t e : TypeId} {sz : Nat} (hs : slT P t = some (e, sz)) {k : IntKind} {i : Int} {n cap : Nat} {ad : Addr} (h0 : 0 ≤ i) (h1 : i < n) (w : World) :
    (Instr.indexAt t (.slice (some ad) n cap) (.int k i)).run P w = .ok (.pointer (some (ad.add (i.toNat * sz)))) w := by
  obtain ⟨hu, hsz⟩ := slT_some hs
  simp [Instr.indexAt, asIntOf, run_underlying hu, h0, h1, run_sizeOf' hsz]
theorem s_index (t : TypeId) (x y : Operand) {e : TypeId} {sz sz' : Nat} {k : IntKind} {i : Int} {els : List (List D)} {el : List D} (hs : slT P t = some (e, sz)) (hx : (ρ x = .c (.d (.lst sz' els))) ∨ (ρ x = .c (.bor sz' els))) (hy : ρ y = .c (.d (.int k i))) (hsz : sz' = sz) (h0 : 0 ≤ i) (hk : els[i.toNat]? = some el) :
    Still P h ⟨dst, .indexAddr t x y, ty, p, af, gd⟩ ρ (.c (.ptr el)) := by
  subst hsz
  intro cx G w a s ho
  have e2 := ar_int (hy ▸ ho y (by simp [Op.operands]))
  have hlt := getElem?_lt hk
  have key : ∃ (A : Option Addr) (cap : Nat) (u : Nat → Nat → Value), a.eval x = .slice A els.length cap ∧
      (els ≠ [] → ∃ ad, A = some ad ∧ ∀ i e j c, els[i]? = some e → e[j]? = some c → cellIn G.V.H (ad.add (i * sz' + j)) = some (u i j)) ∧
      ∀ i e j c, els[i]? = some e → e[j]? = some c → Dr G.V c (u i j) := by
    have hr := ho x (by simp [Op.operands])
    rcases hx with hx | hx
    · rw [hx] at hr
      obtain ⟨A, cap, u, hv, _, _, _, ha, hu⟩ := dr_lst hr
      exact ⟨A, cap, u, hv, fun hn => by obtain ⟨ad, e, _, hc⟩ := ha hn; exact ⟨ad, e, hc⟩, hu⟩
    · rw [hx] at hr
      obtain ⟨A, cap, u, hv, _, _, _, ha, hu⟩ := hr
      exact ⟨A, cap, u, hv, ha, hu⟩
  obtain ⟨A, cap, u, hv, ha, hu⟩ := key
  obtain ⟨ad, rfl, hc⟩ := ha (by intro hn; rw [hn] at hlt; simp at hlt)
  refine ⟨.pointer (some (ad.add (i.toNat * sz'))), ?_, _, fun j => u i.toNat j, rfl, fun j c hj => ⟨by rw [add_add]; exact hc _ _ j c hk hj, hu _ _ j c hk hj⟩⟩
  have := run_indexAt (k := k) (cap := cap) (ad := ad) hs h0 (show i < els.length by omega) w
  simp [execOp, hv, e2, this]
theorem s_index_own (t : TypeId) (x y : Operand) {te e : TypeId} {sz sz' j ver : Nat} {k : IntKind} {i : Int} {els : List (List D)} (hs : slT P t = some (e, sz)) (hx : ρ x = .c (.own j ver)) (hj : h[j]? = some (.row te sz' els ver)) (hy : ρ y = .c (.d (.int k i))) (hsz : sz' = sz) (h0 : 0 ≤ i) (h1 : i < els.length) :
    Still P h ⟨dst, .indexAddr t x y, ty, p, af, gd⟩ ρ (.c (.rowp j ver sz i.toNat 0)) := by
  subst hsz
  intro cx G w a s ho
  have e2 := ar_int (hy ▸ ho y (by simp [Op.operands]))
  obtain ⟨v0, xs, hg, how, _, _, _⟩ := row_at s hj
  have hr := ho x (by simp [Op.operands])
  rw [hx] at hr
  obtain ⟨_, v0', n', hg', _, hxx⟩ := hr
  rw [hg] at hg'
  cases hg'
  have e1 := hxx rfl
  obtain ⟨g, cap, rfl, _⟩ := own_cells how (by omega)
  refine ⟨.pointer (some ⟨g, i.toNat * sz', none⟩), ?_, rfl, _, _, hg, Nat.le_refl _, fun _ => ⟨g, els.length, cap, rfl, by simp⟩⟩
  have := run_indexAt (k := k) (cap := cap) (ad := ⟨g, 0, none⟩) hs h0 h1 w
  rw [add_plain, Nat.zero_add] at this
  simp [execOp, e1, e2, this]
theorem run_indexArr {t e : TypeId} {m sz : Nat} (hs : arT P t = some (m, e, sz)) {k : IntKind} {i : Int} {ad : Addr} (h0 : 0 ≤ i) (h1 : i < m) (w : World) :
    (Instr.indexAt t (.pointer (some ad)) (.int k i)).run P w = .ok (.pointer (some (ad.add (i.toNat * sz)))) w := by
  obtain ⟨hu, hsz⟩ := arT_some hs
  simp [Instr.indexAt, Instr.sureAddr, asIntOf, run_underlying hu, h0, h1, run_sizeOf' hsz]
theorem s_index_arr (t : TypeId) (x y : Operand) {e : TypeId} {m sz : Nat} {k : IntKind} {i : Int} {cs : List D} (hs : arT P t = some (m, e, sz)) (hx : ρ x = .c (.ptr cs)) (hy : ρ y = .c (.d (.int k i))) (h0 : 0 ≤ i) (h1 : i < m) :
    Still P h ⟨dst, .indexAddr t x y, ty, p, af, gd⟩ ρ (.c (.ptr (cs.drop (i.toNat * sz)))) := by
  intro cx G w a s ho
  have e2 := ar_int (hy ▸ ho y (by simp [Op.operands]))
  obtain ⟨ad, u, e1, hc⟩ := (hx ▸ ho x (by simp [Op.operands]) : Ar G (.c (.ptr cs)) (a.eval x))
  refine ⟨.pointer (some (ad.add (i.toNat * sz))), ?_, _, fun j => u (i.toNat * sz + j), rfl, fun j c hj => ?_⟩
  · have := run_indexArr (k := k) (ad := ad) hs h0 h1 w
    simp only [execOp, e1, e2, Sem.run_bind, this, Result.andThen_ok, Sem.run_pure]
  · rw [List.getElem?_drop] at hj
    rw [add_add]
    exact hc _ c hj
theorem s_index_box (t : TypeId) (x y : Operand) {e : TypeId} {m sz j off : Nat} {k : IntKind} {i : Int} (hs : arT P t = some (m, e, sz)) (hx : ρ x = .c (.loc j off)) (hy : ρ y = .c (.d (.int k i))) (h0 : 0 ≤ i) (h1 : i < m) :
    Still P h ⟨dst, .indexAddr t x y, ty, p, af, gd⟩ ρ (.c (.loc j (off + i.toNat * sz))) := by
  intro cx G w a s ho
  have e2 := ar_int (hy ▸ ho y (by simp [Op.operands]))
  obtain ⟨b, n, hg, e1⟩ := (hx ▸ ho x (by simp [Op.operands]) : Ar G (.c (.loc j off)) (a.eval x))
  refine ⟨.pointer (some ⟨b, off + i.toNat * sz, none⟩), ?_, b, n, hg, rfl⟩
  have := run_indexArr (k := k) (ad := ⟨b, off, none⟩) hs h0 h1 w
  rw [add_plain] at this
  simp only [execOp, e1, e2, Sem.run_bind, this, Result.andThen_ok, Sem.run_pure]
theorem s_index_str (t : TypeId) (x y : Operand) {l : List UInt8} {k : IntKind} {i : Int} {c : UInt8} (ht : P.underlying t = some .string) (hx : ρ x = .c (.d (.str l))) (hy : ρ y = .c (.d (.int k i))) (h0 : 0 ≤ i) (hk : l[i.toNat]? = some c) :
    Still P h ⟨dst, .index t x y, ty, p, af, gd⟩ ρ (.c (.d (.int .u8 c.toNat))) := by
  intro cx G w a s ho
  have e1 := ar_str (hx ▸ ho x (by simp [Op.operands]))
  have e2 := ar_int (hy ▸ ho y (by simp [Op.operands]))
  refine ⟨.int .u8 c.toNat, ?_, Dr.int _ _⟩
  have hlt := getElem?_lt hk
  have hb : (⟨l.toArray⟩ : ByteArray)[i.toNat]? = some c := by
    have hs : i.toNat < (⟨l.toArray⟩ : ByteArray).size := by simpa [ByteArray.size] using hlt
    rw [ByteArray.getElem?_lt' _ _ hs]
    have : (⟨l.toArray⟩ : ByteArray)[i.toNat] = l[i.toNat] := by
      show l.toArray[i.toNat] = _
      simp
    rw [this, ← hk, List.getElem?_eq_getElem hlt]
  simp [execOp, Instr.index, asIntOf, e1, e2, run_underlying ht, h0, hb]
/-! ### fields -/
theorem run_fieldAt {t : TypeId} {k off : Nat} (hf : fdT P t k = some off) (ad : Addr) (w : World) : (Instr.fieldAt t (.pointer (some ad)) k).run P w = .ok (.pointer (some (ad.add off))) w := by
  unfold fdT at hf
  split at hf
  · next fs hu =>
    split at hf
    · next f hfk =>
      split at hf
      · next n hn =>
        split at hf
        · cases hf
        · next hne =>
          cases hf
          simp [Instr.fieldAt, Instr.sureAddr, run_underlying hu, hfk, fieldPlace, run_sizeOf' hn, hne]
      · cases hf
    · cases hf
  · cases hf
theorem s_field_ptr (t : TypeId) (x : Operand) (k : Nat) {off : Nat} {cs : List D} (hf : fdT P t k = some off) (hx : ρ x = .c (.ptr cs)) : Still P h ⟨dst, .fieldAddr t x k, ty, p, af, gd⟩ ρ (.c (.ptr (cs.drop off))) := by
  intro cx G w a s ho
  obtain ⟨ad, u, e1, hc⟩ := (hx ▸ ho x (by simp [Op.operands]) : Ar G (.c (.ptr cs)) (a.eval x))
  refine ⟨.pointer (some (ad.add off)), ?_, _, fun j => u (off + j), rfl, fun j c hj => ?_⟩
  · simp [execOp, e1, run_fieldAt hf]
  · rw [List.getElem?_drop] at hj
    rw [add_add]
    exact hc _ c hj
theorem s_field_loc (t : TypeId) (x : Operand) (k : Nat) {off i o : Nat} (hf : fdT P t k = some off) (hx : ρ x = .c (.loc i o)) : Still P h ⟨dst, .fieldAddr t x k, ty, p, af, gd⟩ ρ (.c (.loc i (o + off))) := by
  intro cx G w a s ho
  obtain ⟨b, n, hg, e1⟩ := (hx ▸ ho x (by simp [Op.operands]) : Ar G (.c (.loc i o)) (a.eval x))
  refine ⟨.pointer (some ⟨b, o + off, none⟩), ?_, b, n, hg, rfl⟩
  have := run_fieldAt hf ⟨b, o, none⟩ w
  rw [add_plain] at this
  simp [execOp, e1, this]
theorem s_field_row (t : TypeId) (x : Operand) (k : Nat) {off i ver sz j o : Nat} {te : TypeId} {els : List (List D)} (hf : fdT P t k = some off) (hx : ρ x = .c (.rowp i ver sz j o)) (hi : h[i]? = some (.row te sz els ver)) : Still P h ⟨dst, .fieldAddr t x k, ty, p, af, gd⟩ ρ (.c (.rowp i ver sz j (o + off))) := by
  intro cx G w a s ho
  obtain ⟨v0, xs, hg0, _⟩ := row_at s hi
  obtain ⟨_, v0', n, hg, hle, hxx⟩ := (hx ▸ ho x (by simp [Op.operands]) : Ar G (.c (.rowp i ver sz j o)) (a.eval x))
  rw [hg0] at hg
  cases hg
  obtain ⟨b, len, cap, rfl, e1⟩ := hxx rfl
  refine ⟨.pointer (some ⟨b, j * sz + (o + off), none⟩), ?_, rfl, _, _, hg0, Nat.le_refl _, fun _ => ⟨b, len, cap, rfl, rfl⟩⟩
  have := run_fieldAt hf ⟨b, j * sz + o, none⟩ w
  rw [add_plain, Nat.add_assoc] at this
  simp [execOp, e1, this]
theorem s_field_opn (t : TypeId) (x : Operand) (k : Nat) {off i ver sz j o kk : Nat} {te : TypeId} {els : List (List D)} {cs : List C} (hf : fdT P t k = some off) (hx : ρ x = .c (.rowp i ver sz j o)) (hi : h[i]? = some (.opn te sz els kk cs ver)) : Still P h ⟨dst, .fieldAddr t x k, ty, p, af, gd⟩ ρ (.c (.rowp i ver sz j (o + off))) := by
  intro cx G w a s ho
  obtain ⟨v0, xs, hg0, _⟩ := opnrow_at s hi
  obtain ⟨_, v0', n, hg, hle, hxx⟩ := (hx ▸ ho x (by simp [Op.operands]) : Ar G (.c (.rowp i ver sz j o)) (a.eval x))
  rw [hg0] at hg
  cases hg
  obtain ⟨b, len, cap, rfl, e1⟩ := hxx rfl
  refine ⟨.pointer (some ⟨b, j * sz + (o + off), none⟩), ?_, rfl, _, _, hg0, Nat.le_refl _, fun _ => ⟨b, len, cap, rfl, rfl⟩⟩
  have := run_fieldAt hf ⟨b, j * sz + o, none⟩ w
  rw [add_plain, Nat.add_assoc] at this
  simp [execOp, e1, this]
theorem s_nilCheckR (x : Operand) {i ver sz j o : Nat} (hx : ρ x = .c (.rowp i ver sz j o)) (hi : ∀ (cx : Cx) (G : Gh) (w : World), SatH cx G h w → ∃ v, G.g[i]? = some (v, ver)) : Still P h ⟨dst, .nilCheck x, ty, p, af, gd⟩ ρ (.c (.rowp i ver sz j o)) := by
  intro cx G w a s ho
  have hr := ho x (by simp [Op.operands])
  rw [hx] at hr
  refine ⟨a.eval x, ?_, hr⟩
  obtain ⟨v0, hg0⟩ := hi cx G w s
  obtain ⟨_, v0', n, hg, hle, hxx⟩ := hr
  rw [hg0] at hg
  cases hg
  obtain ⟨b, len, cap, _, e1⟩ := hxx rfl
  simp [execOp, e1]
theorem s_nilCheck (x : Operand) (hx : (∃ cs, ρ x = .c (.ptr cs)) ∨ (∃ i o, ρ x = .c (.loc i o))) : Still P h ⟨dst, .nilCheck x, ty, p, af, gd⟩ ρ (ρ x) := by
  intro cx G w a s ho
  have hr := ho x (by simp [Op.operands])
  refine ⟨a.eval x, ?_, hr⟩
  rcases hx with ⟨cs, hx⟩ | ⟨i, o, hx⟩
  · rw [hx] at hr
    obtain ⟨ad, u, e1, _⟩ := hr
    simp [execOp, e1]
  · rw [hx] at hr
    obtain ⟨b, n, hg, e1⟩ := hr
    simp [execOp, e1]
theorem s_extract (x : Operand) (k : Nat) {vs : List AV} {α : AV} (hx : ρ x = .tup vs) (hk : vs[k]? = some α) (hα : ∀ us, α ≠ .tup us) : Still P h ⟨dst, .extract x k, ty, p, af, gd⟩ ρ α := by
  intro cx G w a s ho
  obtain ⟨us, e1, hc⟩ := (hx ▸ ho x (by simp [Op.operands]) : Ar G (.tup vs) (a.eval x))
  obtain ⟨u, hu, hr⟩ := hc.get k α hk
  refine ⟨u, ?_, by cases α <;> first | exact hr | (exact absurd rfl (hα _))⟩
  simp [execOp, e1, Instr.extract, hu]
end Go.Ax
