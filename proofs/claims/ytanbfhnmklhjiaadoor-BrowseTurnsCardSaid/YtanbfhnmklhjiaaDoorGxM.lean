/- Part of a proof about this program; no condition of its own. -/
import Derived.Test.YtanbfhnmklhjiaaDoorGxB
import Derived.Lib.OthersKept
import Derived.Lib.TrimUEq
import Derived.DeepKeys5
set_option linter.all false
/- Maps that a call makes, as lists of entries in the order in which they were laid in; maps that nobody writes any more, as data; iterators over these. No condition. -/
namespace Go.Ax
open Go Go.RowKit
open Go.Maps (Keyed)

/-! ### entries -/
def mhas (m : Mp) (k : List KD) : Bool := m.any fun kv => decide (kv.1 = k)
def midx : Mp → List KD → Nat
  | [], _ => 0
  | kv :: r, k => if kv.1 = k then 0 else midx r k + 1
def mget : Mp → List KD → Int
  | [], _ => 0
  | kv :: r, k => if kv.1 = k then kv.2 else mget r k
/-- The entries, one of them at the key. -/
def mpre (m : Mp) (k : List KD) : Mp := if mhas m k then m else m ++ [(k, 0)]
def mset (m : Mp) (i : Nat) (v : Int) : Mp := m.modify i fun kv => (kv.1, v)
def mput (m : Mp) (k : List KD) (v : Int) : Mp := mset (mpre m k) (midx m k) v
def kdC : KD → C
  | .int k n => .d (.int k n)
  | .str l => .d (.str l)
def keyAV : List KD → AV
  | [x] => .c (kdC x)
  | xs => .agg (xs.map kdC)
def keyC1 : C → Option KD
  | .d (.int k n) => some (.int k n)
  | .d (.str l) => some (.str l)
  | _ => none
def keyCs : List C → Option (List KD)
  | [] => some []
  | c :: r => match keyC1 c, keyCs r with
    | some x, some xs => some (x :: xs)
    | _, _ => none
/-- A key as it stands in a slot. -/
def keyC : AV → Option (List KD)
  | .c (.d (.int k n)) => some [.int k n]
  | .c (.d (.str l)) => some [.str l]
  | .agg (c :: c' :: r) => keyCs (c :: c' :: r)
  | _ => none

theorem KD.v_inj {x y : KD} (h : x.v = y.v) : x = y := by
  cases x <;> cases y <;> simp only [KD.v, Value.int.injEq, Value.string.injEq, reduceCtorEq] at h
  · rw [h.1, h.2]
  · have := congrArg ByteArray.data h
    simp at this
    rw [this]
theorem Kfits.length : ∀ {sh : List Kc} {ks : List KD}, Kfits sh ks → ks.length = sh.length
  | [], [], _ => rfl
  | _ :: r, _ :: xs, h => by simp [Kfits.length h.2]
  | [], _ :: _, h => h.elim
  | _ :: _, [], h => h.elim
theorem map_inj {xs ys : List KD} (h : xs.map KD.v = ys.map KD.v) : xs = ys := by
  induction xs generalizing ys with
  | nil => cases ys with | nil => rfl | cons y ys => simp at h
  | cons x xs ih => cases ys with
    | nil => simp at h
    | cons y ys =>
      simp only [List.map_cons, List.cons.injEq] at h
      rw [KD.v_inj h.1, ih h.2]
theorem keyV_inj {a b : List KD} (hl : a.length = b.length) (h : keyV a = keyV b) : a = b := by
  match a, b, hl with
  | [], [], _ => rfl
  | [x], [y], _ => rw [KD.v_inj (h : x.v = y.v)]
  | x :: x' :: r, y :: y' :: s, _ =>
    have h' : Value.agg ((x :: x' :: r).map KD.v).toArray = .agg ((y :: y' :: s).map KD.v).toArray := h
    injection h' with h'
    exact map_inj (by simpa using h')

/-! ### the types -/
/-- A map's type: its keys' cells, its elements of kind int. -/
structure MapT (P : Program) (t : TypeId) (sh : List Kc) : Prop where
  ex : ∃ K E, P.underlying t = some (.map K E) ∧ P.underlying E = some (.int .i64) ∧ (∀ w, (zeroValue E).run P w = .ok (.int .i64 0) w) ∧ Keyed P K ∧ ∀ ks, Kfits sh ks → ∃ l, keyOf P K (keyV ks) = some l
def kshape (P : Program) (t : TypeId) : Option Kc :=
  match P.underlying t with
  | some (.int k) => some (.int k)
  | some .string => some .str
  | _ => none
def kshapes (P : Program) : List Field → Option (List Kc)
  | [] => some []
  | f :: r => match kshape P f.type, kshapes P r with
    | some x, some xs => some (x :: xs)
    | _, _ => none
def mapSh (P : Program) (t : TypeId) : Option (List Kc) :=
  match P.underlying t with
  | some (.map K _) => match P.underlying K with
    | some (.int k) => some [.int k]
    | some .string => some [.str]
    | some (.array n e) => (kshape P e).map (List.replicate n)
    | some (.struct fs) => kshapes P fs.toList
    | _ => none
  | _ => none

theorem MapT.int {P : Program} {t K E : TypeId} {q : IntKind} (ht : P.underlying t = some (.map K E)) (hk : P.underlying K = some (.int q)) (he : P.underlying E = some (.int .i64)) (hz : ∀ w, (zeroValue E).run P w = .ok (.int .i64 0) w) : MapT P t [.int q] :=
  ⟨K, E, ht, he, hz, Maps.int_keyed hk, fun ks hf => by
    match ks, hf with
    | [.int q' n], hf =>
      obtain ⟨⟨rfl, hw⟩, _⟩ := hf
      exact ⟨_, Maps.keyOf_int_mk hk hw⟩
    | [.str l], hf => exact hf.1.elim
    | _ :: _ :: _, hf => exact hf.2.elim
    | [], hf => exact hf.elim⟩
theorem MapT.str {P : Program} {t K E : TypeId} (ht : P.underlying t = some (.map K E)) (hk : P.underlying K = some .string) (he : P.underlying E = some (.int .i64)) (hz : ∀ w, (zeroValue E).run P w = .ok (.int .i64 0) w) : MapT P t [.str] :=
  ⟨K, E, ht, he, hz, Maps.string_keyed hk, fun ks hf => by
    match ks, hf with
    | [.str l], hf =>
      have := hf.1
      exact ⟨_, WideMaps.keyOf_string_mk hk (s := ⟨l.toArray⟩) (by simpa [ByteArray.size, Kfit] using this)⟩
    | [.int _ _], hf => exact hf.1.elim
    | _ :: _ :: _, hf => exact hf.2.elim
    | [], hf => exact hf.elim⟩

variable {P : Program}

/-! ### what a map's block gives -/
theorem MapRep.keyAt {sh : List Kc} {m : Mp} {es : Array MapEntry} {clock : Nat} (hr : MapRep sh m es clock) {i : Nat} {e : MapEntry} (he : es[i]? = some e) : ∃ kv, m[i]? = some kv ∧ e.key = keyV kv.1 ∧ e.val = .int .i64 kv.2 ∧ Kfits sh kv.1 := by
  have h1 := congrArg (·[i]?) hr.ent
  simp only [List.getElem?_map] at h1
  have he' : es.toList[i]? = some e := by simpa using he
  rw [he'] at h1
  cases hm : m[i]? with
  | none => rw [hm] at h1; simp at h1
  | some kv =>
    rw [hm] at h1
    simp only [Option.map_some, Option.some.injEq, Prod.mk.injEq] at h1
    exact ⟨kv, rfl, h1.1, h1.2, hr.fit kv (List.mem_of_getElem? hm)⟩
theorem MapRep.len {sh : List Kc} {m : Mp} {es : Array MapEntry} {clock : Nat} (hr : MapRep sh m es clock) : es.size = m.length := by
  have := congrArg List.length hr.ent
  simpa using this

theorem midx_of {m : Mp} (hn : (m.map (·.1)).Nodup) {k : List KD} {j : Nat} {kv : List KD × Int} (hj : m[j]? = some kv) (hk : kv.1 = k) : midx m k = j ∧ mget m k = kv.2 ∧ mhas m k = true := by
  induction m generalizing j with
  | nil => simp at hj
  | cons x r ih =>
    simp only [List.map_cons, List.nodup_cons] at hn
    cases j with
    | zero =>
      simp at hj
      subst hj
      simp [midx, mget, mhas, hk]
    | succ j =>
      simp at hj
      have hne : x.1 ≠ k := fun e => hn.1 (by rw [e, ← hk]; exact List.mem_map.2 ⟨kv, List.mem_of_getElem? hj, rfl⟩)
      obtain ⟨h1, h2, h3⟩ := ih hn.2 hj
      refine ⟨by simp [midx, hne, h1], by simp [mget, hne, h2], ?_⟩
      unfold mhas at h3 ⊢
      rw [List.any_cons, h3, Bool.or_true]
theorem mget_none {m : Mp} {k : List KD} (h : mhas m k = false) : mget m k = 0 ∧ midx m k = m.length := by
  induction m with
  | nil => exact ⟨rfl, rfl⟩
  | cons x r ih =>
    unfold mhas at h
    rw [List.any_cons, Bool.or_eq_false_iff] at h
    obtain ⟨h1, h2⟩ := ih h.2
    have : x.1 ≠ k := of_decide_eq_false h.1
    exact ⟨by simp [mget, this, h1], by simp [midx, this, h2]⟩
theorem MapRep.nodup {sh : List Kc} {m : Mp} {es : Array MapEntry} {clock : Nat} (hr : MapRep sh m es clock) : (m.map (·.1)).Nodup := by
  have h1 := hr.st.2.2
  have h2 : es.toList.map (·.key) = (m.map (·.1)).map keyV := by
    have := congrArg (List.map Prod.fst) hr.ent
    simpa [Function.comp_def] using this
  rw [h2] at h1
  exact List.Pairwise.of_map keyV (fun a b h e => h (by rw [e])) h1

theorem MapRep.find {sh : List Kc} {m : Mp} {es : Array MapEntry} {clock : Nat} (hr : MapRep sh m es clock) {K : TypeId} (hK : Keyed P K) (hk : ∀ ks, Kfits sh ks → ∃ l, keyOf P K (keyV ks) = some l) {ks : List KD} (hks : Kfits sh ks) (w : World) :
    (mhas m ks = false ∧ (Instr.findKey K (keyV ks) es.toList).run P w = .ok none w ∧ ∀ e ∈ es.toList, e.key ≠ keyV ks) ∨
    ∃ e, mhas m ks = true ∧ es[midx m ks]? = some e ∧ e.key = keyV ks ∧ e.val = .int .i64 (mget m ks) ∧ (Instr.findKey K (keyV ks) es.toList).run P w = .ok (some (midx m ks, e.val)) w := by
  obtain ⟨l, hl⟩ := hk ks hks
  rcases hK.find w hl es.toList (fun e he => by
    obtain ⟨i, hi⟩ := List.getElem?_of_mem he
    obtain ⟨kv, _, h2, _, h4⟩ := hr.keyAt (i := i) (e := e) (by simpa using hi)
    rw [h2]; exact hk _ h4) with ⟨h1, h2⟩ | ⟨j, e, h1, h2, h3⟩
  · refine .inl ⟨?_, h1, h2⟩
    cases hh : mhas m ks with
    | false => rfl
    | true =>
      unfold mhas at hh
      obtain ⟨kv, hm, he⟩ := List.any_eq_true.1 hh
      have he' : kv.1 = ks := of_decide_eq_true he
      obtain ⟨i, hi⟩ := List.getElem?_of_mem hm
      have hlt : i < es.size := by rw [hr.len]; exact getElem?_lt hi
      obtain ⟨kv', q1, q2, _⟩ := hr.keyAt (i := i) (e := es[i]) (by simp [hlt])
      rw [hi] at q1
      cases q1
      exact absurd (by rw [q2, he']) (h2 es[i] (by simp))
  · have hj : es[j]? = some e := by simpa using h2
    obtain ⟨kv, q1, q2, q3, q4⟩ := hr.keyAt hj
    have hkk : kv.1 = ks := keyV_inj (by rw [q4.length, hks.length]) (q2.symm.trans h3)
    obtain ⟨r1, r2, r3⟩ := midx_of hr.nodup q1 hkk
    exact .inr ⟨e, r3, by rw [r1]; exact hj, h3, by rw [q3, r2], by rw [r1]; exact h1⟩

theorem run_lookup_rep {sh : List Kc} {m : Mp} {es : Array MapEntry} {clock : Nat} (hr : MapRep sh m es clock) {t : TypeId} (hT : MapT P t sh) {ks : List KD} (hks : Kfits sh ks) {w : World} {b : Nat} (hb : w.heap[b]? = some (.map es clock)) (ok : Bool) :
    (Instr.lookup t (.map (some b)) (keyV ks) ok).run P w = .ok (if ok then .tuple #[.int .i64 (mget m ks), .bool (mhas m ks)] else .int .i64 (mget m ks)) w := by
  obtain ⟨K, E, ht, he, hz, hK, hk⟩ := hT.ex
  obtain ⟨l, hl⟩ := hk ks hks
  rcases hr.find hK hk hks w with ⟨h0, h1, _⟩ | ⟨e, h0, _, _, h3, h1⟩
  · simp [Instr.lookup, run_underlying ht, MapKept.run_getObj_map hb, hK.check w _ hl, h1, hz, Result.andThen, h0, (mget_none h0).1]
  · simp [Instr.lookup, run_underlying ht, MapKept.run_getObj_map hb, hK.check w _ hl, h1, Result.andThen, h0, h3]
theorem run_lookup_nil {sh : List Kc} {t : TypeId} (hT : MapT P t sh) {ks : List KD} (hks : Kfits sh ks) (w : World) (ok : Bool) :
    (Instr.lookup t (.map none) (keyV ks) ok).run P w = .ok (if ok then .tuple #[.int .i64 0, .bool false] else .int .i64 0) w := by
  obtain ⟨K, E, ht, he, hz, hK, hk⟩ := hT.ex
  obtain ⟨l, hl⟩ := hk ks hks
  rw [Maps.look_nil ok hK ht (hz w) hl]
end Go.Ax

/- Operations on maps and iterators, one rule for each. No condition. -/
namespace Go.Ax
open Go Go.RowKit
open Go.Maps (Keyed)
open Go.ChangeMaps (setBlock)
variable {P : Program} {h : List LB} {ρ : Operand → AV} {dst : Option Tmp} {ty : TypeId} {p : String} {af : Array Edge} {gd : Option (Nat × Bool)}

/-- A map, however it is known: to be read. -/
def mapOf (h : List LB) : AV → Option (List Kc × Mp)
  | .c (.d (.mp sh m)) => some (sh, m)
  | .c (.own i 0) => match h[i]? with
    | some (.mp sh m) => some (sh, m)
    | _ => none
  | _ => none

theorem keyC1_ok {G : Gh} {c : C} {x : KD} {v : Value} (h : keyC1 c = some x) (hv : Cr G c v) : v = x.v := by
  unfold keyC1 at h
  split at h
  · cases h; exact ar_int hv
  · cases h; exact ar_str hv
  · cases h
theorem keyCs_ok {G : Gh} : ∀ {cs : List C} {xs : List KD} {vs : List Value}, keyCs cs = some xs → All2 (Cr G) cs vs → vs = xs.map KD.v
  | [], xs, vs, h, hv => by cases h; cases hv; rfl
  | c :: r, xs, vs, h, hv => by
    simp only [keyCs] at h
    split at h
    · next x ys h1 h2 =>
      cases h
      cases hv with
      | cons q1 q2 => rw [keyC1_ok h1 q1, keyCs_ok h2 q2]; rfl
    · cases h
theorem keyC_ok {G : Gh} {α : AV} {ks : List KD} {v : Value} (h : keyC α = some ks) (hv : Ar G α v) : v = keyV ks := by
  unfold keyC at h
  split at h
  · cases h; exact ar_int hv
  · cases h; exact ar_str hv
  · next c c' r =>
    obtain ⟨vs, rfl, hc⟩ := hv
    have e := keyCs_ok h hc
    have hl := hc.length
    rw [e] at hl
    rw [e]
    match ks, hl with
    | _ :: _ :: _, _ => rfl
    | [], hl => simp at hl
    | [x], hl => simp at hl
  · cases h

theorem map_at {cx : Cx} {G : Gh} {h : List LB} {w : World} (s : SatH cx G h w) {i : Nat} {sh : List Kc} {m : Mp} (hi : h[i]? = some (.mp sh m)) :
    ∃ b es clock, G.g[i]? = some (.map (some b), 0) ∧ cx.w0.heap.size ≤ b ∧ G.V.H b = none ∧ w.heap[b]? = some (.map es clock) ∧ MapRep sh m es clock := by
  obtain ⟨⟨v, n⟩, he, hl⟩ := s.entry hi
  obtain ⟨h1, b, es, clock, h2, h3, h4, h5, h6⟩ := hl
  simp only at h1 h2
  subst h1 h2
  exact ⟨b, es, clock, he, h3, h4, h5, h6⟩
theorem own_map {cx : Cx} {G : Gh} {h : List LB} {w : World} (s : SatH cx G h w) {i : Nat} {sh : List Kc} {m : Mp} (hi : h[i]? = some (.mp sh m)) {v : Value} (hv : Ar G (.c (.own i 0)) v) :
    ∃ b es clock, v = .map (some b) ∧ G.g[i]? = some (.map (some b), 0) ∧ cx.w0.heap.size ≤ b ∧ G.V.H b = none ∧ w.heap[b]? = some (.map es clock) ∧ MapRep sh m es clock := by
  obtain ⟨b, es, clock, he, h3, h4, h5, h6⟩ := map_at s hi
  obtain ⟨_, v0, n, hg, _, hx⟩ := hv
  rw [he] at hg
  cases hg
  exact ⟨b, es, clock, hx rfl, he, h3, h4, h5, h6⟩

theorem dr_mp {V : Vw} {sh : List Kc} {m : Mp} {v : Value} (h : Dr V (.mp sh m) v) : (v = .map none ∧ m = []) ∨ ∃ b es clock, v = .map (some b) ∧ V.I b ∧ V.H b = some (.map es clock) ∧ MapRep sh m es clock := by
  generalize e : D.mp sh m = x at h
  cases h <;> cases e
  · next b es clock hi hh hr => exact .inr ⟨b, es, clock, rfl, hi, hh, hr⟩
  · exact .inl ⟨rfl, rfl⟩

theorem s_lookup (t : TypeId) (x y : Operand) (ok : Bool) {sh : List Kc} {m : Mp} {ks : List KD} (hT : MapT P t sh) (hx : mapOf h (ρ x) = some (sh, m)) (hy : keyC (ρ y) = some ks) (hks : Kfits sh ks) :
    Still P h ⟨dst, .lookup t x y ok, ty, p, af, gd⟩ ρ (if ok then .tup [.c (.d (.int .i64 (mget m ks))), .c (.d (.bool (mhas m ks)))] else .c (.d (.int .i64 (mget m ks)))) := by
  intro cx G w a s ho
  have hv := ho x (by simp [Op.operands])
  have ek := keyC_ok hy (ho y (by simp [Op.operands]))
  have fin : ∀ c : Value, c = (if ok then Value.tuple #[.int .i64 (mget m ks), .bool (mhas m ks)] else .int .i64 (mget m ks)) → Ar G (if ok then .tup [.c (.d (.int .i64 (mget m ks))), .c (.d (.bool (mhas m ks)))] else .c (.d (.int .i64 (mget m ks)))) c := by
    rintro c rfl
    cases ok with
    | true => exact ⟨[_, _], rfl, .cons (Dr.int _ _) (.cons (Dr.bool _) .nil)⟩
    | false => exact Dr.int _ _
  unfold mapOf at hx
  split at hx
  · next sh' m' hα =>
    cases hx
    rw [hα] at hv
    rcases dr_mp hv with ⟨e1, rfl⟩ | ⟨b, es, clock, e1, _, hh, hr⟩
    · refine ⟨_, ?_, fin _ rfl⟩
      have := run_lookup_nil (P := P) hT hks w ok
      simp [execOp, e1, ek, this, mget, mhas]
    · refine ⟨_, ?_, fin _ rfl⟩
      have := run_lookup_rep hr hT hks (s.view _ _ hh) ok
      simp [execOp, e1, ek, this]
  · next i hα =>
    split at hx
    · next sh' m' hi =>
      cases hx
      rw [hα] at hv
      obtain ⟨b, es, clock, e1, _, _, _, hh, hr⟩ := own_map s hi hv
      refine ⟨_, ?_, fin _ rfl⟩
      have := run_lookup_rep hr hT hks hh ok
      simp [execOp, e1, ek, this]
    · cases hx
  · cases hx

theorem kdC_ok (G : Gh) (x : KD) : Cr G (kdC x) x.v := by
  cases x
  · exact Dr.int _ _
  · exact Dr.str _
theorem keyAV_ok (G : Gh) (ks : List KD) : Wr G (keyAV ks) (keyV ks) := by
  have : ∀ l : List KD, All2 (Cr G) (l.map kdC) (l.map KD.v) := fun l => by
    induction l with
    | nil => exact .nil
    | cons x r ih => exact .cons (kdC_ok G x) ih
  match ks with
  | [] => exact ⟨[], rfl, .nil⟩
  | [x] => exact kdC_ok G x
  | x :: y :: r => exact ⟨(x :: y :: r).map KD.v, rfl, this _⟩

theorem it_at {cx : Cx} {G : Gh} {h : List LB} {w : World} (s : SatH cx G h w) {j : Nat} {todo : Mp} {last : Option (List KD × Int)} (hj : h[j]? = some (.it todo last)) :
    ∃ r o, G.g[j]? = some (.pointer (some ⟨r, 0, none⟩), 0) ∧ cx.w0.heap.size ≤ r ∧ G.V.H r = none ∧ w.heap[r]? = some o ∧ ItRep G.V.H o todo last := by
  obtain ⟨⟨v, n⟩, he, hl⟩ := s.entry hj
  obtain ⟨h1, r, o, h2, h3, h4, h5, h6⟩ := hl
  simp only at h1 h2
  subst h1 h2
  exact ⟨r, o, he, h3, h4, h5, h6⟩
theorem s_entry (x : Operand) {j : Nat} {todo : Mp} {kv : List KD × Int} (hx : ρ x = .c (.loc j 0)) (hj : h[j]? = some (.it todo (some kv))) :
    Still P h ⟨dst, .entry x, ty, p, af, gd⟩ ρ (.tup [keyAV kv.1, .c (.d (.int .i64 kv.2))]) := by
  intro cx G w a s ho
  have hv := ho x (by simp [Op.operands])
  rw [hx] at hv
  obtain ⟨b0, n, hg, ev⟩ := hv
  obtain ⟨r, o, hg', h3, h4, h5, h6⟩ := it_at s hj
  rw [hg] at hg'
  cases hg'
  rcases h6 with ⟨_, _, hl⟩ | ⟨b, es, clock, seen, rfl, hb, hst, _, hlast⟩
  · cases hl
  obtain ⟨e, hem, hbk, hk, hval⟩ := hlast kv rfl
  have hbw := s.view _ _ hb
  have hf : es.find? (·.born == e.born) = some e := by rw [← Array.find?_toList]; exact find_born e es.toList hst.2.1 hem
  have hrun : (Instr.entry (.pointer (some ⟨b0, 0, none⟩))).run P w = .ok (.tuple #[e.key, e.val]) w := by
    simp only [Instr.entry, getObj, Sem.run_bind, Sem.run, h5, hbw, Result.andThen, hbk, bne_self_eq_false, Bool.false_eq_true, if_false, hf]
    rfl
  refine ⟨_, by simp only [execOp, ev, Sem.run_bind, hrun, Result.andThen_ok, Sem.run_pure], [e.key, e.val], rfl, .cons (hk ▸ keyAV_ok G kv.1) (.cons ?_ .nil)⟩
  show Dr G.V _ _
  rw [hval]; exact .int _ _
end Go.Ax

/- Operations that make or write maps and iterators. No condition. -/
namespace Go.Ax
open Go Go.RowKit
open Go.Maps (Keyed)
open Go.ChangeMaps (setBlock)
variable {P : Program} {pm : Pm} {ops : Array Oper} {rest : List Oper} {st : St} {K : St → Prop} {dst : Option Tmp} {ty : TypeId} {p : String} {af : Array Edge}

theorem mapRep_nil (sh : List Kc) : MapRep sh [] #[] 0 := ⟨MapKept.stamped_empty 0, rfl, fun i e h => by simp at h, rfl, fun kv h => by cases h⟩

/-- A new block for a new entry that holds the block's number alone. -/
theorem SatH.pushO {cx : Cx} {G : Gh} {h : List LB} {w : World} (s : SatH cx G h w) (o : Obj) (v : Value) (lb : LB) (hv : blkOf v = some w.heap.size)
    (hl : Lr G (w.alloc o) cx.w0.heap.size lb (v, 0)) : SatH cx ⟨G.V, G.g ++ [(v, 0)]⟩ (h ++ [lb]) (w.alloc o) := by
  obtain ⟨s1, hH, hne⟩ := s.alloc o
  exact s1.push v 0 lb hl fun k hk i b e hi hb he hbe => by
    rw [hv] at hk
    cases hk
    exact hne i b e hi hb he hbe

theorem heap_alloc_at (w : World) (o : Obj) : (w.alloc o).heap[w.heap.size]? = some o := (MapKept.heap_alloc w o).1
theorem H_new {cx : Cx} {G : Gh} {h : List LB} {w : World} (s : SatH cx G h w) : G.V.H w.heap.size = none := (s.alloc (.map #[] 0)).2.1

theorem AXl.makeMap {t : TypeId} (sh : List Kc) (hd : dstOk pm.N dst) (hn : AXl P pm ops rest (St.put ⟨st.env, st.heap ++ [.mp sh []]⟩ dst (.c (.own st.heap.length 0))) K) :
    AXl P pm ops (⟨dst, .makeMap t none, ty, p, af, none⟩ :: rest) st K := by
  refine AXl.eff rfl fun cx G a w hp s => ?_
  have hs : SatH cx ⟨G.V, G.g ++ [(.map (some w.heap.size), 0)]⟩ (st.heap ++ [.mp sh []]) (w.alloc (.map #[] 0)) :=
    s.h.pushO (.map #[] 0) (.map (some w.heap.size)) (.mp sh []) rfl ⟨rfl, w.heap.size, #[], 0, rfl, s.h.below.size, H_new s.h, heap_alloc_at _ _, mapRep_nil sh⟩
  have hS := s.step (gle_push (Value.map (some w.heap.size), 0)) hs
  refine ⟨.map (some w.heap.size), w.alloc (.map #[] 0), _, _, .inl ?_, hS.put (α := .c (.own st.heap.length 0)) ⟨rfl, .map (some w.heap.size), 0, get_last _ _ s.h.len.symm, Nat.le_refl _, fun _ => rfl⟩ (hp ▸ hd), hn⟩
  simp [execOp, run_makeMap]

/-- An entry's block is written. -/
theorem map_written {cx : Cx} {G : Gh} {h : List LB} {w : World} (s : SatH cx G h w) {i b : Nat} {sh : List Kc} {m m' : Mp} (hi : h[i]? = some (.mp sh m)) (hg : G.g[i]? = some (.map (some b), 0)) {es es' : Array MapEntry} {clock clock' : Nat} (hb : w.heap[b]? = some (.map es clock))
    (hr : MapRep sh m' es' clock') : SatH cx G (h.set i (.mp sh m')) (setBlock w b (.map es' clock')) := by
  have hlt := heap_lt hb
  have hent := s.ent i _ _ hi hg
  obtain ⟨_, b', _, _, e1, h3, h4, _⟩ := hent
  cases e1
  exact s.upd hi trivial hg (b := b) rfl rfl rfl rfl (by simp [setBlock]) (fun k hk => ChangeMaps.heap_setBlock_other hb _ hk) ⟨rfl, b, es', clock', rfl, h3, h4, ChangeMaps.heap_setBlock_same hb _, hr⟩

theorem MapRep.push {sh : List Kc} {m : Mp} {es : Array MapEntry} {clock : Nat} (hr : MapRep sh m es clock) {ks : List KD} (hks : Kfits sh ks) (hne : ∀ e ∈ es.toList, e.key ≠ keyV ks) (v : Int) :
    MapRep sh (m ++ [(ks, v)]) (es.push { key := keyV ks, val := .int .i64 v, born := clock }) (clock + 1) := by
  refine ⟨MapKept.stamped_push hr.st hne, by rw [hr.clk]; simp, fun i e he => ?_, ?_, fun kv hkv => ?_⟩
  · rw [Array.getElem?_push] at he
    split at he
    · next hi => cases he; rw [hr.clk, hi]
    · exact hr.born i e he
  · simp [hr.ent]
  · rcases List.mem_append.1 hkv with h | h
    · exact hr.fit kv h
    · rw [List.mem_singleton.1 h]; exact hks
theorem modify_same {α : Type} {es : Array α} {i : Nat} {f : α → α} {e : α} (he : es[i]? = some e) (hf : f e = e) : es.modify i f = es := by
  apply Array.ext_getElem?
  intro j
  rw [Array.getElem?_modify]
  split
  · next hj => subst hj; rw [he]; simp [hf]
  · rfl
theorem MapRep.set {sh : List Kc} {m : Mp} {es : Array MapEntry} {clock : Nat} (hr : MapRep sh m es clock) (i : Nat) (v : Int) :
    MapRep sh (mset m i v) (es.modify i fun e => { e with val := .int .i64 v }) clock := by
  refine ⟨MapKept.stamped_modify hr.st i _ (fun _ _ => rfl) (fun _ _ _ => rfl), by rw [hr.clk]; simp, fun j e he => ?_, ?_, fun kv hkv => ?_⟩
  · rw [Array.getElem?_modify] at he
    split at he
    · next hj =>
      subst hj
      cases h : es[i]? with
      | none => rw [h] at he; cases he
      | some e0 => rw [h] at he; cases he; exact hr.born i e0 h
    · exact hr.born j e he
  · apply List.ext_getElem?
    intro j
    have h1 := congrArg (·[j]?) hr.ent
    simp only [List.getElem?_map, Array.getElem?_toList] at h1
    simp only [List.getElem?_map, Array.getElem?_toList, Array.getElem?_modify, mset, List.getElem?_modify]
    by_cases hij : i = j
    · subst hij
      simp only [if_true]
      cases h2 : es[i]? with
      | none => rw [h2] at h1; cases h3 : m[i]? with
        | none => rfl
        | some kv => rw [h3] at h1; cases h1
      | some e => rw [h2] at h1; cases h3 : m[i]? with
        | none => rw [h3] at h1; cases h1
        | some kv =>
          rw [h3] at h1
          simp only [Option.map_some, Option.some.injEq, Prod.mk.injEq] at h1
          show some (e.key, Value.int .i64 v) = some (keyV kv.1, Value.int .i64 v)
          rw [h1.1]
    · simp only [if_neg hij]
      rw [h1]
      cases m[j]? <;> rfl
  · unfold mset at hkv
    obtain ⟨j, hj⟩ := List.getElem?_of_mem hkv
    rw [List.getElem?_modify] at hj
    cases h3 : m[j]? with
    | none => rw [h3] at hj; cases hj
    | some kv0 =>
      rw [h3] at hj
      have := hr.fit kv0 (List.mem_of_getElem? h3)
      simp only [Option.map_eq_map, Option.map_some, Option.some.injEq] at hj
      subst hj
      split <;> exact this

theorem run_mapEntry {sh : List Kc} {m : Mp} {es : Array MapEntry} {clock : Nat} (hr : MapRep sh m es clock) {t : TypeId} (hT : MapT P t sh) {ks : List KD} (hks : Kfits sh ks) {w : World} {b : Nat} (hb : w.heap[b]? = some (.map es clock)) :
    ∃ es' clock', (Instr.mapEntry t (.map (some b)) (keyV ks)).run P w = .ok (.tuple #[.int .i64 (mget m ks), .int .i64 (midx m ks)]) (setBlock w b (.map es' clock')) ∧ MapRep sh (mpre m ks) es' clock' := by
  obtain ⟨K, E, ht, he, hz, hK, hk⟩ := hT.ex
  obtain ⟨l, hl⟩ := hk ks hks
  rcases hr.find hK hk hks w with ⟨h0, h1, hne⟩ | ⟨e, h0, hat, hkey, h3, h1⟩
  · obtain ⟨q1, q2⟩ := mget_none h0
    refine ⟨es.push { key := keyV ks, val := .int .i64 0, born := clock }, clock + 1, ?_, by simp only [mpre, h0]; exact hr.push hks hne 0⟩
    have hcl : clock = m.length := by rw [hr.clk, hr.len]
    simp [Instr.mapEntry, run_underlying ht, MapKept.run_getObj_map hb, hK.check w _ hl, h1, hz, Result.andThen, MapKept.run_setObj_map _ hb, setBlock, q1, q2, goInt, hcl]
  · refine ⟨es, clock, ?_, by simp only [mpre, h0, if_true]; exact hr⟩
    have hb' := hr.born _ _ hat
    have hmod : es.modify (midx m ks) (fun e => { e with key := keyV ks }) = es := modify_same hat (by rw [← hkey])
    simp [Instr.mapEntry, run_underlying ht, MapKept.run_getObj_map hb, hK.check w _ hl, h1, Result.andThen, MapKept.run_setObj_map _ hb, setBlock, hat, hkey, hK.stays w hl, h3, hb', goInt, hmod]

theorem run_entryStore {sh : List Kc} {m : Mp} {es : Array MapEntry} {clock : Nat} (hr : MapRep sh m es clock) {w : World} {b : Nat} (hb : w.heap[b]? = some (.map es clock)) {s : Int} (h0 : 0 ≤ s) (h1 : s < m.length) (k : IntKind) (v : Int) (t : TypeId) :
    (Instr.entryStore t (.map (some b)) (.int k s) (.int .i64 v)).run P w = .ok () (setBlock w b (.map (es.modify s.toNat fun e => { e with val := .int .i64 v }) clock)) := by
  have hlt : s.toNat < es.size := by rw [hr.len]; omega
  have hf : es.findIdx? (fun e => (e.born : Int) == s) = some s.toNat := by
    rw [Array.findIdx?_eq_some_iff_getElem]
    refine ⟨hlt, ?_, fun j hj => ?_⟩
    · have := hr.born s.toNat es[s.toNat] (by simp [hlt])
      rw [this]
      simp; omega
    · have := hr.born j es[j] (by simp)
      rw [this]
      simp; omega
  simp [Instr.entryStore, MapKept.run_getObj_map hb, Result.andThen, hf, MapKept.run_setObj_map _ hb, setBlock, asInt, asIntOf]

theorem mput_none {m : Mp} {k : List KD} (h : mhas m k = false) (v : Int) : mput m k v = m ++ [(k, v)] := by
  unfold mput mset mpre
  rw [h, (mget_none h).2]
  simp only [Bool.false_eq_true, if_false]
  apply List.ext_getElem?
  intro j
  rw [List.getElem?_modify]
  by_cases hj : m.length = j
  · subst hj; simp
  · simp only [if_neg hj]
    rcases Nat.lt_or_ge j m.length with h1 | h1
    · simp [List.getElem?_append_left h1]
    · rw [List.getElem?_append_right (by omega), List.getElem?_append_right (by omega)]
      rw [List.getElem?_eq_none (by simp; omega), List.getElem?_eq_none (by simp; omega)]; rfl
theorem run_mapUpdate {sh : List Kc} {m : Mp} {es : Array MapEntry} {clock : Nat} (hr : MapRep sh m es clock) {t : TypeId} (hT : MapT P t sh) {ks : List KD} (hks : Kfits sh ks) {w : World} {b : Nat} (hb : w.heap[b]? = some (.map es clock)) (v : Int) :
    ∃ es' clock', (Instr.mapUpdate t (.map (some b)) (keyV ks) (.int .i64 v)).run P w = .ok () (setBlock w b (.map es' clock')) ∧ MapRep sh (mput m ks v) es' clock' := by
  obtain ⟨K, E, ht, he, hz, hK, hk⟩ := hT.ex
  obtain ⟨l, hl⟩ := hk ks hks
  rcases hr.find hK hk hks w with ⟨h0, h1, hne⟩ | ⟨e, h0, hat, hkey, h3, h1⟩
  · refine ⟨es.push { key := keyV ks, val := .int .i64 v, born := clock }, clock + 1, ?_, by rw [mput_none h0]; exact hr.push hks hne v⟩
    simp [Instr.mapUpdate, run_underlying ht, MapKept.run_getObj_map hb, hK.check w _ hl, h1, Result.andThen, MapKept.run_setObj_map _ hb, setBlock]
  · refine ⟨es.modify (midx m ks) fun e => { e with val := .int .i64 v }, clock, ?_, ?_⟩
    · have hmod : es.modify (midx m ks) (fun e => { key := keyV ks, val := .int .i64 v, born := e.born }) = es.modify (midx m ks) fun e => { e with val := .int .i64 v } := by
        apply Array.ext_getElem?
        intro j
        rw [Array.getElem?_modify, Array.getElem?_modify]
        split
        · next hj => subst hj; rw [hat]; simp [hkey]
        · rfl
      simp [Instr.mapUpdate, run_underlying ht, MapKept.run_getObj_map hb, hK.check w _ hl, h1, Result.andThen, MapKept.run_setObj_map _ hb, setBlock, hat, hkey, hK.stays w hl, hmod]
    · have : mput m ks v = mset m (midx m ks) v := by unfold mput mpre; rw [h0]; rfl
      rw [this]; exact hr.set _ _

theorem AXl.mapEntry {t : TypeId} {x y : Operand} {i : Nat} {sh : List Kc} {m : Mp} {ks : List KD} (hT : MapT P t sh) (hx : ev pm.Γ st.env x = .c (.own i 0)) (hi : st.heap[i]? = some (.mp sh m)) (hy : keyC (ev pm.Γ st.env y) = some ks) (hks : Kfits sh ks) (hd : dstOk pm.N dst)
    (hn : AXl P pm ops rest (St.put ⟨st.env, st.heap.set i (.mp sh (mpre m ks))⟩ dst (.tup [.c (.d (.int .i64 (mget m ks))), .c (.d (.int .i64 (midx m ks)))])) K) :
    AXl P pm ops (⟨dst, .mapEntry t x y, ty, p, af, none⟩ :: rest) st K := by
  refine AXl.eff rfl fun cx G a w hp s => ?_
  subst hp
  have ek := keyC_ok hy (s.ev y)
  obtain ⟨b, es, clock, e1, hg, _, _, hb, hr⟩ := own_map s.h hi (hx ▸ s.ev x)
  obtain ⟨es', clock', hrun, hr'⟩ := run_mapEntry hr hT hks hb
  have hs := map_written s.h hi hg hb hr'
  have hS : Sat cx G ⟨st.env, st.heap.set i (.mp sh (mpre m ks))⟩ a (setBlock w b (.map es' clock')) := ⟨hs, s.env, s.N, s.defers⟩
  refine ⟨_, _, G, _, .inl ?_, hS.put (α := .tup [.c (.d (.int .i64 (mget m ks))), .c (.d (.int .i64 (midx m ks)))]) (v := .tuple #[.int .i64 (mget m ks), .int .i64 (midx m ks)]) ⟨[_, _], rfl, .cons (Dr.int _ _) (.cons (Dr.int _ _) .nil)⟩ hd, hn⟩
  simp [execOp, e1, ek, hrun]
theorem AXl.entryStore {t : TypeId} {x y z : Operand} {i : Nat} {sh : List Kc} {m : Mp} {k : IntKind} {n v : Int} (hx : ev pm.Γ st.env x = .c (.own i 0)) (hi : st.heap[i]? = some (.mp sh m)) (hy : ev pm.Γ st.env y = .c (.d (.int k n))) (h0 : 0 ≤ n) (h1 : n < m.length) (hz : ev pm.Γ st.env z = .c (.d (.int .i64 v))) (hd : dst = none)
    (hn : AXl P pm ops rest ⟨st.env, st.heap.set i (.mp sh (mset m n.toNat v))⟩ K) : AXl P pm ops (⟨dst, .entryStore t x y z, ty, p, af, none⟩ :: rest) st K := by
  subst hd
  refine AXl.eff rfl fun cx G a w hp s => ?_
  subst hp
  have e2 := ar_int (hy ▸ s.ev y)
  have e3 := ar_int (hz ▸ s.ev z)
  obtain ⟨b, es, clock, e1, hg, _, _, hb, hr⟩ := own_map s.h hi (hx ▸ s.ev x)
  have hrun := run_entryStore (P := P) hr hb h0 h1 k v t
  refine ⟨undef, _, G, ⟨st.env, st.heap.set i (.mp sh (mset m n.toNat v))⟩, .inr ⟨?_, rfl⟩, ⟨map_written s.h hi hg hb (hr.set _ _), s.env, s.N, s.defers⟩, hn⟩
  simp [execOp, e1, e2, e3, hrun]
theorem AXl.mapUpdate {t : TypeId} {x y z : Operand} {i : Nat} {sh : List Kc} {m : Mp} {ks : List KD} {v : Int} (hT : MapT P t sh) (hx : ev pm.Γ st.env x = .c (.own i 0)) (hi : st.heap[i]? = some (.mp sh m)) (hy : keyC (ev pm.Γ st.env y) = some ks) (hks : Kfits sh ks) (hz : ev pm.Γ st.env z = .c (.d (.int .i64 v))) (hd : dst = none)
    (hn : AXl P pm ops rest ⟨st.env, st.heap.set i (.mp sh (mput m ks v))⟩ K) : AXl P pm ops (⟨dst, .mapUpdate t x y z, ty, p, af, none⟩ :: rest) st K := by
  subst hd
  refine AXl.eff rfl fun cx G a w hp s => ?_
  subst hp
  have ek := keyC_ok hy (s.ev y)
  have e3 := ar_int (hz ▸ s.ev z)
  obtain ⟨b, es, clock, e1, hg, _, _, hb, hr⟩ := own_map s.h hi (hx ▸ s.ev x)
  obtain ⟨es', clock', hrun, hr'⟩ := run_mapUpdate hr hT hks hb v
  refine ⟨undef, _, G, ⟨st.env, st.heap.set i (.mp sh (mput m ks v))⟩, .inr ⟨?_, rfl⟩, ⟨map_written s.h hi hg hb hr', s.env, s.N, s.defers⟩, hn⟩
  simp [execOp, e1, ek, e3, hrun]
end Go.Ax

/- Maps that are read as data from here on; ranging over them. No condition. -/
namespace Go.Ax
open Go Go.RowKit
open Go.ChangeMaps (setBlock)
variable {P : Program} {pm : Pm} {ops : Array Oper} {rest : List Oper} {st : St} {K : St → Prop} {dst : Option Tmp} {ty : TypeId} {p : String} {af : Array Edge}

theorem freeze_map {cx : Cx} {G : Gh} {h : List LB} {w : World} (s : SatH cx G h w) {i : Nat} {sh : List Kc} {m : Mp} (hi : h[i]? = some (.mp sh m)) :
    ∃ V', GLe G.g.length G ⟨V', G.g⟩ ∧ SatH cx ⟨V', G.g⟩ (h.set i .dead) w ∧ ∀ v, Cr G (.own i 0) v → Dr V' (.mp sh m) v := by
  obtain ⟨b0, es, clock, hg, hbase, hH, hheap, hrep⟩ := map_at s hi
  let V' : Vw := ⟨fun b => if b0 = b then w.heap[b]? else G.V.H b, fun b => G.V.I b ∨ b0 = b⟩
  have hle : G.V.Le V' := ⟨fun b o ho => by
    have hne : ¬ (b0 = b) := fun e => by subst e; rw [hH] at ho; cases ho
    simp only [V', if_neg hne]; exact ho, fun b hb => .inl hb⟩
  have hG : GLe G.g.length G ⟨V', G.g⟩ := ⟨hle, fun j v n _ e => ⟨v, n, e, Nat.le_refl _, fun _ => rfl, fun _ => ⟨rfl, rfl⟩⟩⟩
  refine ⟨V', hG, ⟨by rw [List.length_set]; exact s.len, fun j b e hb he => ?_, fun j k bj bk ej ek q h1 h2 l1 l2 g1 g2 => ?_, fun b o ho => ?_, fun b hb => ?_, s.below, s.ext.trans (hG.all _), fun q hq => (s.glob q hq).grow hG, s.sz⟩, fun v hv => ?_⟩
  · rw [List.getElem?_set] at hb
    by_cases e1 : i = j
    · subst e1
      rw [if_pos rfl, if_pos (getElem?_lt hi)] at hb
      cases hb
      trivial
    · rw [if_neg e1] at hb
      have hL := s.ent j b e hb he
      refine Lr.mono' hG (fun k hlive hk => ?_) hL
      have hne : ¬ (b0 = k) := fun e2 => e1 (s.sep i j _ b _ e k hi hb trivial hlive hg he (by rw [← e2]; rfl) hk)
      simp only [V', if_neg hne]
      exact (hL.blk hlive hk).2.2
  · have back : ∀ (j : Nat) (b : LB), (h.set i .dead)[j]? = some b → b.live → h[j]? = some b := fun j b hb hlive => by
      rw [List.getElem?_set] at hb
      by_cases e1 : i = j
      · subst e1
        rw [if_pos rfl, if_pos (getElem?_lt hi)] at hb
        cases hb
        exact hlive.elim
      · rwa [if_neg e1] at hb
    exact s.sep j k bj bk ej ek q (back j bj h1 l1) (back k bk h2 l2) l1 l2 g1 g2
  · simp only [V'] at ho
    split at ho
    · exact ho
    · exact s.view b o ho
  · rcases hb with hb | hb
    · obtain ⟨⟨o, ho⟩, h2⟩ := s.imm b hb
      exact ⟨⟨o, hle.H b o ho⟩, h2⟩
    · subst hb
      exact ⟨⟨_, by simp only [V', if_true]; exact hheap⟩, .inr hbase⟩
  · obtain ⟨_, v1, n1, hg', _, hxx⟩ := hv
    rw [hg] at hg'
    cases hg'
    have := hxx rfl
    subst this
    exact .mp sh m b0 es clock (.inr rfl) (by simp only [V', if_true]; exact hheap) hrep

/-! ### what is left of a range -/
theorem filter_ne_erase {α : Type} (f : α → Nat) : ∀ (l : List α), (l.map f).Nodup → ∀ (i : Nat) (e : α), l[i]? = some e → (l.filter fun x => !(f x == f e)) = l.eraseIdx i
  | [], _, i, e, h => by simp at h
  | x :: r, hn, 0, e, h => by
    simp at h; subst h
    simp only [List.map_cons, List.nodup_cons] at hn
    rw [List.filter_cons_of_neg (by simp), List.eraseIdx_cons_zero]
    refine List.filter_eq_self.2 fun y hy => ?_
    have : f y ≠ f x := fun e => hn.1 (by rw [← e]; exact List.mem_map.2 ⟨y, hy, rfl⟩)
    simp [this]
  | x :: r, hn, i + 1, e, h => by
    simp at h
    simp only [List.map_cons, List.nodup_cons] at hn
    have hne : f x ≠ f e := fun e' => hn.1 (by rw [e']; exact List.mem_map.2 ⟨e, List.mem_of_getElem? h, rfl⟩)
    rw [List.filter_cons_of_pos (by simp [hne]), filter_ne_erase f r hn.2 i e h, List.eraseIdx_cons_succ]
theorem left_push {es : Array MapEntry} {seen : Array Nat} (hn : (es.toList.map (·.born)).Nodup) {i : Nat} {e : MapEntry} (he : (leftOf es seen).toList[i]? = some e) : (leftOf es (seen.push e.born)).toList = (leftOf es seen).toList.eraseIdx i := by
  have hl : (leftOf es seen).toList = es.toList.filter fun x => !seen.contains x.born := by unfold leftOf; rw [← Array.toList_filter]
  have hl' : (leftOf es (seen.push e.born)).toList = es.toList.filter fun x => !(seen.push e.born).contains x.born := by unfold leftOf; rw [← Array.toList_filter]
  rw [← filter_ne_erase (fun x : MapEntry => x.born) (leftOf es seen).toList (by rw [hl]; exact (List.filter_sublist.map _).nodup hn) i e he, hl, hl', List.filter_filter]
  congr 1
  funext x
  rw [contains_push, Bool.not_or, Bool.and_comm]

theorem run_range_rep {sh : List Kc} {t : TypeId} (hT : MapT P t sh) {b : Nat} {es : Array MapEntry} {clock : Nat} {w : World} (hb : w.heap[b]? = some (.map es clock)) :
    (Instr.range t (.map (some b))).run P w = .ok (.pointer (some ⟨w.heap.size, 0, none⟩)) (w.alloc (.mapIter (some b) clock #[] clock)) := by
  obtain ⟨K, E, ht, _⟩ := hT.ex
  exact run_range_map w t K E b es clock ht hb
theorem itRep_start {H : Nat → Option Obj} {sh : List Kc} {m : Mp} {b : Nat} {es : Array MapEntry} {clock : Nat} (hb : H b = some (.map es clock)) (hr : MapRep sh m es clock) : ItRep H (.mapIter (some b) clock #[] clock) m none :=
  .inr ⟨b, es, clock, #[], rfl, hb, hr.st, by
    have : leftOf es #[] = es := by unfold leftOf; simp
    rw [this]; exact hr.ent, fun kv h => by cases h⟩

theorem Sat.pushIt {cx : Cx} {G : Gh} {a : Act} {w : World} (s : Sat cx G st a w) {dst : Option Tmp} (hd : dstOk cx.pm.N dst) {o : Obj} {todo : Mp} (hr : ItRep G.V.H o todo none) :
    ∃ G', Sat cx G' (St.put ⟨st.env, st.heap ++ [.it todo none]⟩ dst (.c (.loc st.heap.length 0))) (a.put dst (.pointer (some ⟨w.heap.size, 0, none⟩))) (w.alloc o) :=
  ⟨_, s.pushed (α := .c (.loc st.heap.length 0)) (s.h.pushO o (.pointer (some ⟨w.heap.size, 0, none⟩)) (.it todo none) rfl ⟨rfl, w.heap.size, o, rfl, s.h.below.size, H_new s.h, heap_alloc_at _ _, hr⟩) ⟨w.heap.size, 0, get_last _ _ s.h.len.symm, rfl⟩ hd⟩

/-- Ranging over a map that nobody writes any more. -/
theorem AXl.range {t : TypeId} {x : Operand} {sh : List Kc} {m : Mp} (hT : MapT P t sh) (hx : ev pm.Γ st.env x = .c (.d (.mp sh m))) (hd : dstOk pm.N dst)
    (hn : AXl P pm ops rest (St.put ⟨st.env, st.heap ++ [.it m none]⟩ dst (.c (.loc st.heap.length 0))) K) : AXl P pm ops (⟨dst, .range t x, ty, p, af, none⟩ :: rest) st K := by
  refine AXl.eff rfl fun cx G a w hp s => ?_
  subst hp
  rcases dr_mp (hx ▸ s.ev x) with ⟨e1, rfl⟩ | ⟨b, es, clock, e1, _, hh, hr⟩
  · obtain ⟨G', hS⟩ := s.pushIt hd (o := .mapIter none 0 #[] 0) (todo := []) (.inl ⟨rfl, rfl, rfl⟩)
    refine ⟨_, _, G', _, .inl ?_, hS, hn⟩
    obtain ⟨K, E, ht, _⟩ := hT.ex
    simp [execOp, e1, run_range_nilMap w t K E ht]
  · obtain ⟨G', hS⟩ := s.pushIt hd (itRep_start hh hr)
    refine ⟨_, _, G', _, .inl ?_, hS, hn⟩
    simp [execOp, e1, run_range_rep hT (s.h.view _ _ hh)]
/-- Ranging over a map of the call's own, which is not written from here on. -/
theorem AXl.range_own {t : TypeId} {x : Operand} {i : Nat} {sh : List Kc} {m : Mp} (hT : MapT P t sh) (hx : ev pm.Γ st.env x = .c (.own i 0)) (hi : st.heap[i]? = some (.mp sh m)) (hd : dstOk pm.N dst)
    (hn : AXl P pm ops rest (St.put ⟨st.env, st.heap.set i .dead ++ [.it m none]⟩ dst (.c (.loc st.heap.length 0))) K) : AXl P pm ops (⟨dst, .range t x, ty, p, af, none⟩ :: rest) st K := by
  refine AXl.eff rfl fun cx G a w hp s => ?_
  subst hp
  have hv := hx ▸ s.ev x
  obtain ⟨V', hG, s1, hd1⟩ := freeze_map s.h hi
  have hS1 : Sat cx ⟨V', G.g⟩ ⟨st.env, st.heap.set i .dead⟩ a w := s.step hG s1
  rcases dr_mp (hd1 _ hv) with ⟨e1, rfl⟩ | ⟨b, es, clock, e1, _, hh, hr⟩
  · obtain ⟨G', hS⟩ := hS1.pushIt hd (o := .mapIter none 0 #[] 0) (todo := []) (.inl ⟨rfl, rfl, rfl⟩)
    rw [List.length_set] at hS
    refine ⟨_, _, G', _, .inl ?_, hS, hn⟩
    obtain ⟨K, E, ht, _⟩ := hT.ex
    simp [execOp, e1, run_range_nilMap w t K E ht]
  · obtain ⟨G', hS⟩ := hS1.pushIt hd (itRep_start hh hr)
    rw [List.length_set] at hS
    refine ⟨_, _, G', _, .inl ?_, hS, hn⟩
    simp [execOp, e1, run_range_rep hT (hS1.h.view _ _ hh)]

theorem Sat.itSet {cx : Cx} {G : Gh} {a : Act} {w w1 : World} (s : Sat cx G st a w) {j r : Nat} {todo todo' : Mp} {last last' : Option (List KD × Int)} (hj : st.heap[j]? = some (.it todo last)) (hg : G.g[j]? = some (.pointer (some ⟨r, 0, none⟩), 0)) {o o' : Obj} (hr : w.heap[r]? = some o) (hw : w1 = w ∨ w1 = w.drew)
    (hrep : ItRep G.V.H o' todo' last') : Sat cx G ⟨st.env, st.heap.set j (.it todo' last')⟩ a (setBlock w1 r o') := by
  have hent := s.h.ent j _ _ hj hg
  obtain ⟨_, b', _, e1, h3, h4, _⟩ := hent
  cases e1
  have key : ∀ w2 : World, w2 = w ∨ w2 = w.drew → (setBlock w2 r o').os = w.os ∧ (setBlock w2 r o').tape = w.tape ∧ (setBlock w2 r o').output = w.output ∧ (setBlock w2 r o').heap.size = w.heap.size ∧ (∀ k, k ≠ r → (setBlock w2 r o').heap[k]? = w.heap[k]?) ∧ (setBlock w2 r o').heap[r]? = some o' := fun w2 h2 => by
    have hlt := heap_lt hr
    rcases h2 with rfl | rfl
    · exact ⟨rfl, rfl, rfl, by simp [setBlock], fun k hk => by simp [setBlock, Array.getElem?_setIfInBounds, Ne.symm hk], by simp [setBlock, hlt]⟩
    · refine ⟨rfl, rfl, rfl, (show (w.heap.setIfInBounds r o').size = _ by simp), fun k hk => ?_, ?_⟩
      · show (w.heap.setIfInBounds r o')[k]? = _
        simp [Array.getElem?_setIfInBounds, Ne.symm hk]
      · show (w.heap.setIfInBounds r o')[r]? = _
        simp [hlt]
  obtain ⟨k1, k2, k3, k4, k5, k6⟩ := key w1 hw
  exact ⟨s.h.upd hj trivial hg (b := r) rfl k1 k2 k3 k4 k5 ⟨rfl, r, o', rfl, h3, h4, k6, hrep⟩, s.env, s.N, s.defers⟩

/-- THE STEP: nothing is left, or one of those that are left comes, whichever. -/
theorem AXl.next {x : Operand} {j : Nat} {todo : Mp} {last : Option (List KD × Int)} (hx : ev pm.Γ st.env x = .c (.loc j 0)) (hj : st.heap[j]? = some (.it todo last)) (hd : dstOk pm.N dst)
    (h0 : todo = [] → AXl P pm ops rest (st.put dst (.tup [.c (.d (.bool false))])) K)
    (h1 : ∀ (i : Nat) (hi : i < todo.length), AXl P pm ops rest (St.put ⟨st.env, st.heap.set j (.it (todo.eraseIdx i) (some todo[i]))⟩ dst (.tup [.c (.d (.bool true)), keyAV todo[i].1, .c (.d (.int .i64 todo[i].2))])) K) :
    AXl P pm ops (⟨dst, .next x false, ty, p, af, none⟩ :: rest) st K := by
  refine AXl.eff rfl fun cx G a w hp s => ?_
  subst hp
  have hv := hx ▸ s.ev x
  obtain ⟨b0, n, hg, ev⟩ := hv
  obtain ⟨r, o, hg', h3, h4, h5, h6⟩ := it_at s.h hj
  rw [hg] at hg'
  cases hg'
  have over : todo = [] → (Instr.next (.pointer (some ⟨b0, 0, none⟩)) false ty).run P w = .ok (.tuple #[.bool false]) w →
      ∃ v w' G' st', ((execOp a.eval ⟨dst, .next x false, ty, p, af, none⟩).run P w = .ok (.value v) w' ∨ ((execOp a.eval ⟨dst, .next x false, ty, p, af, none⟩).run P w = .ok .skip w' ∧ v = undef)) ∧ Sat cx G' st' (a.put dst v) w' ∧ AXl P cx.pm ops rest st' K := fun he hrun => by
    refine ⟨.tuple #[.bool false], w, G, _, .inl ?_, s.put (α := .tup [.c (.d (.bool false))]) ⟨[_], rfl, .cons (Dr.bool _) .nil⟩ hd, h0 he⟩
    simp only [execOp, ev, Sem.run_bind, hrun, Result.andThen_ok, Sem.run_pure]
  rcases h6 with ⟨rfl, rfl, rfl⟩ | ⟨b, es, clock, seen, rfl, hb, hst, hent, hlast⟩
  · refine over rfl ?_
    simp only [Instr.next, getObj, Sem.run_bind, Sem.run, h5, Result.andThen]
    rfl
  have hbw := s.h.view _ _ hb
  have hlen : (leftOf es seen).size = todo.length := by simpa using congrArg List.length hent
  rcases run_next_at (P := P) w ty b0 b clock clock seen es clock h5 hbw hst.1 (Nat.le_refl _) with ⟨hz, hrun⟩ | ⟨e, hem, w1, hw1, hrun⟩
  · exact over (List.length_eq_zero_iff.1 (by omega)) hrun
  · obtain ⟨i, hi⟩ := List.getElem?_of_mem hem
    have hlt : i < todo.length := by rw [← hlen]; have := getElem?_lt hi; simpa using this
    have hkv : (e.key, e.val) = (keyV todo[i].1, Value.int .i64 todo[i].2) := by
      have := congrArg (·[i]?) hent
      simp only [List.getElem?_map, hi, List.getElem?_eq_getElem hlt, Option.map_some, Option.some.injEq] at this
      exact this
    injection hkv with hk1 hk2
    have hmem := (mem_left hem).1
    have hrep : ItRep G.V.H (.mapIter (some b) clock (seen.push e.born) clock) (todo.eraseIdx i) (some todo[i]) :=
      .inr ⟨b, es, clock, seen.push e.born, rfl, hb, hst, by
        rw [left_push hst.2.1 hi]
        rw [ChangeMaps.map_eraseIdx, ChangeMaps.map_eraseIdx, hent], fun kv hkv => by
        cases hkv
        exact ⟨e, hmem, by simp, hk1, hk2⟩⟩
    have hS := s.itSet (o' := .mapIter (some b) clock (seen.push e.born) clock) hj hg h5 hw1 hrep
    refine ⟨.tuple #[.bool true, e.key, e.val], _, G, _, .inl ?_, hS.put (α := .tup [.c (.d (.bool true)), keyAV todo[i].1, .c (.d (.int .i64 todo[i].2))]) ⟨[_, _, _], rfl, .cons (Dr.bool _) (.cons (hk1 ▸ keyAV_ok G _) (.cons ?_ .nil))⟩ hd, h1 i hlt⟩
    · simp only [execOp, ev, Sem.run_bind, hrun, Result.andThen_ok, Sem.run_pure]
    · show Dr G.V _ _
      rw [hk2]; exact .int _ _
end Go.Ax

/- Ranging over a string in the abstract state. No condition. -/
namespace Go.Ax
open Go Go.RowKit
open Go.ChangeMaps (setBlock)
variable {P : Program} {pm : Pm} {ops : Array Oper} {rest : List Oper} {st : St} {K : St → Prop} {dst : Option Tmp} {ty : TypeId} {p : String} {af : Array Edge}
theorem run_range_str {t : TypeId} (ht : P.underlying t = some .string) (s : ByteArray) (w : World) : (Instr.range t (.string s)).run P w = .ok (.pointer (some ⟨w.heap.size, 0, none⟩)) (w.alloc (.stringIter s 0)) := by
  simp only [Instr.range, Sem.run_bind, run_underlying ht, Result.andThen_ok, Sem.run_pure, newObj, Sem.run]
  rfl
theorem AXl.rangeS {t : TypeId} {x : Operand} {s : List UInt8} (ht : P.underlying t = some .string) (hx : ev pm.Γ st.env x = .c (.d (.str s))) (hd : dstOk pm.N dst)
    (hn : AXl P pm ops rest (St.put ⟨st.env, st.heap ++ [.sit s 0]⟩ dst (.c (.loc st.heap.length 0))) K) : AXl P pm ops (⟨dst, .range t x, ty, p, af, none⟩ :: rest) st K := by
  refine AXl.eff rfl fun cx G a w hp sa => ?_
  subst hp
  have e1 := ar_str (hx ▸ sa.ev x)
  have hS := sa.pushed (α := .c (.loc st.heap.length 0)) (sa.h.pushO (.stringIter ⟨s.toArray⟩ 0) (.pointer (some ⟨w.heap.size, 0, none⟩)) (.sit s 0) rfl ⟨rfl, w.heap.size, rfl, sa.h.below.size, H_new sa.h, heap_alloc_at _ _⟩) ⟨w.heap.size, 0, get_last _ _ sa.h.len.symm, rfl⟩ hd
  refine ⟨_, _, _, _, .inl ?_, hS, hn⟩
  simp [execOp, e1, run_range_str ht]
theorem AXl.nextS {x : Operand} {j pos : Nat} {s : List UInt8} (hx : ev pm.Γ st.env x = .c (.loc j 0)) (hj : st.heap[j]? = some (.sit s pos)) (hd : dstOk pm.N dst)
    (h0 : s.length ≤ pos → AXl P pm ops rest (st.put dst (.tup [.c (.d (.bool false))])) K)
    (h1 : pos < s.length → AXl P pm ops rest (St.put ⟨st.env, st.heap.set j (.sit s (pos + (Lib.decodeL (s.drop pos)).2))⟩ dst (.tup [.c (.d (.bool true)), .c (.d (.int .i64 pos)), .c (.d (.int .i32 (Lib.decodeL (s.drop pos)).1))])) K) :
    AXl P pm ops (⟨dst, .next x true, ty, p, af, none⟩ :: rest) st K := by
  refine AXl.eff rfl fun cx G a w hp sa => ?_
  subst hp
  have hv := hx ▸ sa.ev x
  obtain ⟨b0, n, hg, ev⟩ := hv
  obtain ⟨e0, hg', hL0⟩ := sa.h.entry hj
  obtain ⟨hz, b, hb1, hb2, hb3, hb4⟩ := hL0
  rw [hg] at hg'
  cases hg'
  cases hb1
  have hdec : Lib.decodeL (s.drop pos) = Utf8.decode ⟨s.toArray⟩ pos := by
    have := Lib.decodeL_drop ⟨s.toArray⟩ pos
    rwa [show (⟨s.toArray⟩ : ByteArray).data.toList = s by simp] at this
  have hsz : (⟨s.toArray⟩ : ByteArray).size = s.length := by simp [ByteArray.size]
  by_cases hlt : pos < s.length
  · have hrun := Lib.run_next_any_at (P := P) w b0 ⟨s.toArray⟩ pos ty hb4 (by rw [hsz]; exact hlt)
    have hent := sa.h.ent j _ _ hj hg
    have hup := sa.h.upd (w' := w.iterAt b0 ⟨s.toArray⟩ (pos + (Utf8.decode ⟨s.toArray⟩ pos).2)) (lb' := .sit s (pos + (Lib.decodeL (s.drop pos)).2)) hj trivial hg (b := b0) rfl rfl rfl rfl (Lib.iterAt_size ..) (fun k hk => Lib.iterAt_other w b0 k _ _ hk)
      ⟨hz, b0, rfl, hb2, hb3, by rw [hdec]; exact Lib.iterAt_heap w b0 _ pos _ hb4⟩
    have hS : Sat cx G ⟨st.env, st.heap.set j (.sit s (pos + (Lib.decodeL (s.drop pos)).2))⟩ a (w.iterAt b0 ⟨s.toArray⟩ (pos + (Utf8.decode ⟨s.toArray⟩ pos).2)) := ⟨hup, sa.env, sa.N, sa.defers⟩
    refine ⟨_, _, G, _, .inl ?_, hS.put (α := .tup [.c (.d (.bool true)), .c (.d (.int .i64 pos)), .c (.d (.int .i32 (Lib.decodeL (s.drop pos)).1))]) ⟨[_, _, _], rfl, .cons (Dr.bool _) (.cons (Dr.int _ _) (.cons (Dr.int _ _) .nil))⟩ hd, h1 hlt⟩
    rw [hdec]
    simp only [execOp, ev, Sem.run_bind, hrun, Result.andThen_ok, Sem.run_pure]
  · have hrun := Lib.run_next_end_at (P := P) w b0 ⟨s.toArray⟩ pos ty hb4 (by rw [hsz]; exact hlt)
    refine ⟨.tuple #[.bool false], w, G, _, .inl ?_, sa.put (α := .tup [.c (.d (.bool false))]) ⟨[_], rfl, .cons (Dr.bool _) .nil⟩ hd, h0 (by omega)⟩
    simp only [execOp, ev, Sem.run_bind, hrun, Result.andThen_ok, Sem.run_pure]
end Go.Ax

/- Maps whose keys are arrays of two cells. No condition. -/
namespace Go.Ax
open Go Go.RowKit
open Go.Maps (Keyed)
variable {P : Program}
theorem MapT.arr2i {t K E e : TypeId} {q : IntKind} (hl : laidOutB P = true) (hsmall : P.types.size + 2 ≤ 10000) (hrow : K < P.types.size) (ht : P.underlying t = some (.map K E)) (hK : P.underlying K = some (.array 2 e)) (he : P.underlying e = some (.int q)) (hkt : P.keyType K = true)
    (hcK : P.cellsOf K = 2) (hce : P.cellsOf e = 1) (hE : P.underlying E = some (.int .i64)) (hz : ∀ w, (zeroValue E).run P w = .ok (.int .i64 0) w) : MapT P t [.int q, .int q] :=
  ⟨K, E, ht, hE, hz, Keyed.of_law (deep_law_gate hl hsmall hrow hkt (by rw [hK])), fun ks hf => by
    match ks, hf with
    | [.int a m, .int b n], hf =>
      obtain ⟨⟨rfl, h1⟩, ⟨rfl, h2⟩, _⟩ := hf
      have hsz : ∃ k, P.types.size = k + 1 := ⟨P.types.size - 1, (Nat.succ_pred_eq_of_pos (Nat.lt_of_le_of_lt (Nat.zero_le _) hrow)).symm⟩
      obtain ⟨k, hk⟩ := hsz
      simp [keyOf, hK, hkt, keyV, KD.v, Value.formed, Program.keyLits, hcK, hce, he, Value.cells, h1, h2, hk, List.range_succ]
    | [], hf => exact hf.elim
    | [_], hf => exact hf.2.elim
    | _ :: _ :: _ :: _, hf => exact hf.2.2.elim
    | [.str _, _], hf => exact hf.1.elim
    | [.int _ _, .str _], hf => exact hf.2.1.elim⟩
end Go.Ax

/- Maps whose keys are arrays of two strings. No condition. -/
namespace Go.Ax
open Go Go.RowKit
open Go.Maps (Keyed)
variable {P : Program}
theorem MapT.arr2s {t K E e : TypeId} (hl : laidOutB P = true) (hsmall : P.types.size + 2 ≤ 10000) (hrow : K < P.types.size) (ht : P.underlying t = some (.map K E)) (hK : P.underlying K = some (.array 2 e)) (he : P.underlying e = some .string) (hkt : P.keyType K = true)
    (hcK : P.cellsOf K = 2) (hce : P.cellsOf e = 1) (hE : P.underlying E = some (.int .i64)) (hz : ∀ w, (zeroValue E).run P w = .ok (.int .i64 0) w) : MapT P t [.str, .str] :=
  ⟨K, E, ht, hE, hz, Keyed.of_law (deep_law_gate hl hsmall hrow hkt (by rw [hK])), fun ks hf => by
    match ks, hf with
    | [.str a, .str b], hf =>
      obtain ⟨h1, h2, _⟩ := hf
      have hsz : ∃ k, P.types.size = k + 1 := ⟨P.types.size - 1, (Nat.succ_pred_eq_of_pos (Nat.lt_of_le_of_lt (Nat.zero_le _) hrow)).symm⟩
      obtain ⟨k, hk⟩ := hsz
      have e1 : (⟨a.toArray⟩ : ByteArray).size ≤ maxLen := by simpa [ByteArray.size, Kfit] using h1
      have e2 : (⟨b.toArray⟩ : ByteArray).size ≤ maxLen := by simpa [ByteArray.size, Kfit] using h2
      simp [keyOf, hK, hkt, keyV, KD.v, Value.formed, Program.keyLits, hcK, hce, he, Value.cells, hk, List.range_succ]
      rw [if_pos e1, if_pos e2]
      exact ⟨_, rfl⟩
    | [], hf => exact hf.elim
    | [_], hf => exact hf.2.elim
    | _ :: _ :: _ :: _, hf => exact hf.2.2.elim
    | [.int _ _, _], hf => exact hf.1.elim
    | [.str _, .int _ _], hf => exact hf.2.1.elim⟩
end Go.Ax
