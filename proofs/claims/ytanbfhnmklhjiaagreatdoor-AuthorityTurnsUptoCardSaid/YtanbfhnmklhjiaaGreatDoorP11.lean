/- Part of a proof about this program; no condition of its own. -/
import Derived.Test.YtanbfhnmklhjiaaGreatDoorP10
set_option linter.all false
/- Maps that a call makes, as lists of entries in the order in which they were laid in; maps that nobody writes any more, as data; iterators over these. No condition. -/
namespace Go.Ax
open Go Go.RowKit
open Go.Maps (Keyed)
/-! ### entries -/
def mhas (m : Mp) (k : List KD) : Bool := m.any fun kv => decide (kv.1 = k)
def midx : Mp → List KD → Nat
  | [], _ => 0
  | kv :: r, k => if kv.1 = k then 0 else midx r k + 1
def mget : Mp → List KD → Int
  | [], _ => 0
  | kv :: r, k => if kv.1 = k then kv.2 else mget r k
def mpre (m : Mp) (k : List KD) : Mp := if mhas m k then m else m ++ [(k, 0)]
def mset (m : Mp) (i : Nat) (v : Int) : Mp := m.modify i fun kv => (kv.1, v)
def mput (m : Mp) (k : List KD) (v : Int) : Mp := mset (mpre m k) (midx m k) v
def kdC : KD → C
  | .int k n => .d (.int k n)
  | .str l => .d (.str l)
def keyAV : List KD → AV
  | [x] => .c (kdC x)
  | xs => .agg (xs.map kdC)
def keyC1 : C → Option KD
  | .d (.int k n) => some (.int k n)
  | .d (.str l) => some (.str l)
  | _ => none
def keyCs : List C → Option (List KD)
  | [] => some []
  | c :: r => match keyC1 c, keyCs r with
    | some x, some xs => some (x :: xs)
    | _, _ => none
def keyC : AV → Option (List KD)
  | .c (.d (.int k n)) => some [.int k n]
  | .c (.d (.str l)) => some [.str l]
  | .agg (c :: c' :: r) => keyCs (c :: c' :: r)
  | _ => none
theorem KD.v_inj {x y : KD} (h : x.v = y.v) : x = y := by
  cases x <;> cases y <;> simp only [KD.v, Value.int.injEq, Value.string.injEq, reduceCtorEq] at h
  · rw [h.1, h.2]
  · have := congrArg ByteArray.data h
    simp at this
    rw [this]
theorem Kfits.length : ∀ {sh : List Kc} {ks : List KD}, Kfits sh ks → ks.length = sh.length
  | [], [], _ => rfl
  | _ :: r, _ :: xs, h => by simp [Kfits.length h.2]
  | [], _ :: _, h => h.elim
  | _ :: _, [], h => h.elim
theorem map_inj {xs ys : List KD} (h : xs.map KD.v = ys.map KD.v) : xs = ys := by
  induction xs generalizing ys with
  | nil => cases ys with | nil => rfl | cons y ys => simp at h
  | cons x xs ih => cases ys with
    | nil => simp at h
    | cons y ys =>
      simp only [List.map_cons, List.cons.injEq] at h
      rw [KD.v_inj h.1, ih h.2]
theorem keyV_inj {a b : List KD} (hl : a.length = b.length) (h : keyV a = keyV b) : a = b := by
  match a, b, hl with
  | [], [], _ => rfl
  | [x], [y], _ => rw [KD.v_inj (h : x.v = y.v)]
  | x :: x' :: r, y :: y' :: s, _ =>
    have h' : Value.agg ((x :: x' :: r).map KD.v).toArray = .agg ((y :: y' :: s).map KD.v).toArray := h
    injection h' with h'
    exact map_inj (by simpa using h')
/-! ### the types -/
structure MapT (P : Program) (t : TypeId) (sh : List Kc) : Prop where
  ex : ∃ K E, P.underlying t = some (.map K E) ∧ P.underlying E = some (.int .i64) ∧ (∀ w, (zeroValue E).run P w = .ok (.int .i64 0) w) ∧ Keyed P K ∧ ∀ ks, Kfits sh ks → ∃ l, keyOf P K (keyV ks) = some l
def kshape (P : Program) (t : TypeId) : Option Kc :=
  match P.underlying t with
  | some (.int k) => some (.int k)
  | some .string => some .str
  | _ => none
def kshapes (P : Program) : List Field → Option (List Kc)
  | [] => some []
  | f :: r => match kshape P f.type, kshapes P r with
    | some x, some xs => some (x :: xs)
    | _, _ => none
def mapSh (P : Program) (t : TypeId) : Option (List Kc) :=
  match P.underlying t with
  | some (.map K _) => match P.underlying K with
    | some (.int k) => some [.int k]
    | some .string => some [.str]
    | some (.array n e) => (kshape P e).map (List.replicate n)
    | some (.struct fs) => kshapes P fs.toList
    | _ => none
  | _ => none
theorem MapT.int {P : Program} {t K E : TypeId} {q : IntKind} (ht : P.underlying t = some (.map K E)) (hk : P.underlying K = some (.int q)) (he : P.underlying E = some (.int .i64)) (hz : ∀ w, (zeroValue E).run P w = .ok (.int .i64 0) w) : MapT P t [.int q] :=
  ⟨K, E, ht, he, hz, Maps.int_keyed hk, fun ks hf => by
    match ks, hf with
    | [.int q' n], hf =>
      obtain ⟨⟨rfl, hw⟩, _⟩ := hf
      exact ⟨_, Maps.keyOf_int_mk hk hw⟩
    | [.str l], hf => exact hf.1.elim
    | _ :: _ :: _, hf => exact hf.2.elim
    | [], hf => exact hf.elim⟩
theorem MapT.str {P : Program} {t K E : TypeId} (ht : P.underlying t = some (.map K E)) (hk : P.underlying K = some .string) (he : P.underlying E = some (.int .i64)) (hz : ∀ w, (zeroValue E).run P w = .ok (.int .i64 0) w) : MapT P t [.str] :=
  ⟨K, E, ht, he, hz, Maps.string_keyed hk, fun ks hf => by
    match ks, hf with
    | [.str l], hf =>
      have := hf.1
      exact ⟨_, WideMaps.keyOf_string_mk hk (s := ⟨l.toArray⟩) (by simpa [ByteArray.size, Kfit] using this)⟩
    | [.int _ _], hf => exact hf.1.elim
    | _ :: _ :: _, hf => exact hf.2.elim
    | [], hf => exact hf.elim⟩
variable {P : Program}
/-! ### what a map's block gives -/
theorem MapRep.keyAt {sh : List Kc} {m : Mp} {es : Array MapEntry} {clock : Nat} (hr : MapRep sh m es clock) {i : Nat} {e : MapEntry} (he : es[i]? = some e) : ∃ kv, m[i]? = some kv ∧ e.key = keyV kv.1 ∧ e.val = .int .i64 kv.2 ∧ Kfits sh kv.1 := by
  have h1 := congrArg (·[i]?) hr.ent
  simp only [List.getElem?_map] at h1
  have he' : es.toList[i]? = some e := by simpa using he
  rw [he'] at h1
  cases hm : m[i]? with
  | none => rw [hm] at h1; simp at h1
  | some kv =>
    rw [hm] at h1
    simp only [Option.map_some, Option.some.injEq, Prod.mk.injEq] at h1
    exact ⟨kv, rfl, h1.1, h1.2, hr.fit kv (List.mem_of_getElem? hm)⟩
theorem MapRep.len {sh : List Kc} {m : Mp} {es : Array MapEntry} {clock : Nat} (hr : MapRep sh m es clock) : es.size = m.length := by
  have := congrArg List.length hr.ent
  simpa using this
theorem midx_of {m : Mp} (hn : (m.map (·.1)).Nodup) {k : List KD} {j : Nat} {kv : List KD × Int} (hj : m[j]? = some kv) (hk : kv.1 = k) : midx m k = j ∧ mget m k = kv.2 ∧ mhas m k = true := by
  induction m generalizing j with
  | nil => simp at hj
  | cons x r ih =>
    simp only [List.map_cons, List.nodup_cons] at hn
    cases j with
    | zero =>
      simp at hj
      subst hj
      simp [midx, mget, mhas, hk]
    | succ j =>
      simp at hj
      have hne : x.1 ≠ k := fun e => hn.1 (by rw [e, ← hk]; exact List.mem_map.2 ⟨kv, List.mem_of_getElem? hj, rfl⟩)
      obtain ⟨h1, h2, h3⟩ := ih hn.2 hj
      refine ⟨by simp [midx, hne, h1], by simp [mget, hne, h2], ?_⟩
      unfold mhas at h3 ⊢
      rw [List.any_cons, h3, Bool.or_true]
theorem mget_none {m : Mp} {k : List KD} (h : mhas m k = false) : mget m k = 0 ∧ midx m k = m.length := by
  induction m with
  | nil => exact ⟨rfl, rfl⟩
  | cons x r ih =>
    unfold mhas at h
    rw [List.any_cons, Bool.or_eq_false_iff] at h
    obtain ⟨h1, h2⟩ := ih h.2
    have : x.1 ≠ k := of_decide_eq_false h.1
    exact ⟨by simp [mget, this, h1], by simp [midx, this, h2]⟩
theorem MapRep.nodup {sh : List Kc} {m : Mp} {es : Array MapEntry} {clock : Nat} (hr : MapRep sh m es clock) : (m.map (·.1)).Nodup := by
  have h1 := hr.st.2.2
  have h2 : es.toList.map (·.key) = (m.map (·.1)).map keyV := by
    have := congrArg (List.map Prod.fst) hr.ent
    simpa [Function.comp_def] using this
  rw [h2] at h1
  exact List.Pairwise.of_map keyV (fun a b h e => h (by rw [e])) h1
theorem MapRep.find {sh : List Kc} {m : Mp} {es : Array MapEntry} {clock : Nat} (hr : MapRep sh m es clock) {K : TypeId} (hK : Keyed P K) (hk : ∀ ks, Kfits sh ks → ∃ l, keyOf P K (keyV ks) = some l) {ks : List KD} (hks : Kfits sh ks) (w : World) :
    (mhas m ks = false ∧ (Instr.findKey K (keyV ks) es.toList).run P w = .ok none w ∧ ∀ e ∈ es.toList, e.key ≠ keyV ks) ∨
    ∃ e, mhas m ks = true ∧ es[midx m ks]? = some e ∧ e.key = keyV ks ∧ e.val = .int .i64 (mget m ks) ∧ (Instr.findKey K (keyV ks) es.toList).run P w = .ok (some (midx m ks, e.val)) w := by
  obtain ⟨l, hl⟩ := hk ks hks
  rcases hK.find w hl es.toList (fun e he => by
    obtain ⟨i, hi⟩ := List.getElem?_of_mem he
    obtain ⟨kv, _, h2, _, h4⟩ := hr.keyAt (i := i) (e := e) (by simpa using hi)
    rw [h2]; exact hk _ h4) with ⟨h1, h2⟩ | ⟨j, e, h1, h2, h3⟩
  · refine .inl ⟨?_, h1, h2⟩
    cases hh : mhas m ks with
    | false => rfl
    | true =>
      unfold mhas at hh
      obtain ⟨kv, hm, he⟩ := List.any_eq_true.1 hh
      have he' : kv.1 = ks := of_decide_eq_true he
      obtain ⟨i, hi⟩ := List.getElem?_of_mem hm
      have hlt : i < es.size := by rw [hr.len]; exact getElem?_lt hi
      obtain ⟨kv', q1, q2, _⟩ := hr.keyAt (i := i) (e := es[i]) (by simp [hlt])
      rw [hi] at q1
      cases q1
      exact absurd (by rw [q2, he']) (h2 es[i] (by simp))
  · have hj : es[j]? = some e := by simpa using h2
    obtain ⟨kv, q1, q2, q3, q4⟩ := hr.keyAt hj
    have hkk : kv.1 = ks := keyV_inj (by rw [q4.length, hks.length]) (q2.symm.trans h3)
    obtain ⟨r1, r2, r3⟩ := midx_of hr.nodup q1 hkk
    exact .inr ⟨e, r3, by rw [r1]; exact hj, h3, by rw [q3, r2], by rw [r1]; exact h1⟩
theorem run_lookup_rep {sh : List Kc} {m : Mp} {es : Array MapEntry} {clock : Nat} (hr : MapRep sh m es clock) {t : TypeId} (hT : MapT P t sh) {ks : List KD} (hks : Kfits sh ks) {w : World} {b : Nat} (hb : w.heap[b]? = some (.map es clock)) (ok : Bool) :
    (Instr.lookup t (.map (some b)) (keyV ks) ok).run P w = .ok (if ok then .tuple #[.int .i64 (mget m ks), .bool (mhas m ks)] else .int .i64 (mget m ks)) w := by
  obtain ⟨K, E, ht, he, hz, hK, hk⟩ := hT.ex
  obtain ⟨l, hl⟩ := hk ks hks
  rcases hr.find hK hk hks w with ⟨h0, h1, _⟩ | ⟨e, h0, _, _, h3, h1⟩
  · simp [Instr.lookup, run_underlying ht, MapKept.run_getObj_map hb, hK.check w _ hl, h1, hz, Result.andThen, h0, (mget_none h0).1]
  · simp [Instr.lookup, run_underlying ht, MapKept.run_getObj_map hb, hK.check w _ hl, h1, Result.andThen, h0, h3]
theorem run_lookup_nil {sh : List Kc} {t : TypeId} (hT : MapT P t sh) {ks : List KD} (hks : Kfits sh ks) (w : World) (ok : Bool) :
    (Instr.lookup t (.map none) (keyV ks) ok).run P w = .ok (if ok then .tuple #[.int .i64 0, .bool false] else .int .i64 0) w := by
  obtain ⟨K, E, ht, he, hz, hK, hk⟩ := hT.ex
  obtain ⟨l, hl⟩ := hk ks hks
  rw [Maps.look_nil ok hK ht (hz w) hl]
end Go.Ax

/- Operations on maps and iterators, one rule for each. No condition. -/
namespace Go.Ax
open Go Go.RowKit
open Go.Maps (Keyed)
open Go.ChangeMaps (setBlock)
variable {P : Program} {h : List LB} {ρ : Operand → AV} {dst : Option Tmp} {ty : TypeId} {p : String} {af : Array Edge} {gd : Option (Nat × Bool)}
def mapOf (h : List LB) : AV → Option (List Kc × Mp)
  | .c (.d (.mp sh m)) => some (sh, m)
  | .c (.own i 0) => match h[i]? with
    | some (.mp sh m) => some (sh, m)
    | _ => none
  | _ => none
theorem keyC1_ok {G : Gh} {c : C} {x : KD} {v : Value} (h : keyC1 c = some x) (hv : Cr G c v) : v = x.v := by
  unfold keyC1 at h
  split at h
  · cases h; exact ar_int hv
  · cases h; exact ar_str hv
  · cases h
theorem keyCs_ok {G : Gh} : ∀ {cs : List C} {xs : List KD} {vs : List Value}, keyCs cs = some xs → All2 (Cr G) cs vs → vs = xs.map KD.v
  | [], xs, vs, h, hv => by cases h; cases hv; rfl
  | c :: r, xs, vs, h, hv => by
    simp only [keyCs] at h
    split at h
    · next x ys h1 h2 =>
      cases h
      cases hv with
      | cons q1 q2 => rw [keyC1_ok h1 q1, keyCs_ok h2 q2]; rfl
    · cases h
theorem keyC_ok {G : Gh} {α : AV} {ks : List KD} {v : Value} (h : keyC α = some ks) (hv : Ar G α v) : v = keyV ks := by
  unfold keyC at h
  split at h
  · cases h; exact ar_int hv
  · cases h; exact ar_str hv
  · next c c' r =>
    obtain ⟨vs, rfl, hc⟩ := hv
    have e := keyCs_ok h hc
    have hl := hc.length
    rw [e] at hl
    rw [e]
    match ks, hl with
    | _ :: _ :: _, _ => rfl
    | [], hl => simp at hl
    | [x], hl => simp at hl
  · cases h
theorem map_at {cx : Cx} {G : Gh} {h : List LB} {w : World} (s : SatH cx G h w) {i : Nat} {sh : List Kc} {m : Mp} (hi : h[i]? = some (.mp sh m)) :
    ∃ b es clock, G.g[i]? = some (.map (some b), 0) ∧ cx.w0.heap.size ≤ b ∧ G.V.H b = none ∧ w.heap[b]? = some (.map es clock) ∧ MapRep sh m es clock := by
  obtain ⟨⟨v, n⟩, he, hl⟩ := s.entry hi
  obtain ⟨h1, b, es, clock, h2, h3, h4, h5, h6⟩ := hl
  simp only at h1 h2
  subst h1 h2
  exact ⟨b, es, clock, he, h3, h4, h5, h6⟩
theorem own_map {cx : Cx} {G : Gh} {h : List LB} {w : World} (s : SatH cx G h w) {i : Nat} {sh : List Kc} {m : Mp} (hi : h[i]? = some (.mp sh m)) {v : Value} (hv : Ar G (.c (.own i 0)) v) :
    ∃ b es clock, v = .map (some b) ∧ G.g[i]? = some (.map (some b), 0) ∧ cx.w0.heap.size ≤ b ∧ G.V.H b = none ∧ w.heap[b]? = some (.map es clock) ∧ MapRep sh m es clock := by
  obtain ⟨b, es, clock, he, h3, h4, h5, h6⟩ := map_at s hi
  obtain ⟨_, v0, n, hg, _, hx⟩ := hv
  rw [he] at hg
  cases hg
  exact ⟨b, es, clock, hx rfl, he, h3, h4, h5, h6⟩
theorem dr_mp {V : Vw} {sh : List Kc} {m : Mp} {v : Value} (h : Dr V (.mp sh m) v) : (v = .map none ∧ m = []) ∨ ∃ b es clock, v = .map (some b) ∧ V.I b ∧ V.H b = some (.map es clock) ∧ MapRep sh m es clock := by
  generalize e : D.mp sh m = x at h
  cases h <;> cases e
  · next b es clock hi hh hr => exact .inr ⟨b, es, clock, rfl, hi, hh, hr⟩
  · exact .inl ⟨rfl, rfl⟩
theorem s_lookup (t : TypeId) (x y : Operand) (ok : Bool) {sh : List Kc} {m : Mp} {ks : List KD} (hT : MapT P t sh) (hx : mapOf h (ρ x) = some (sh, m)) (hy : keyC (ρ y) = some ks) (hks : Kfits sh ks) :
    Still P h ⟨dst, .lookup t x y ok, ty, p, af, gd⟩ ρ (if ok then .tup [.c (.d (.int .i64 (mget m ks))), .c (.d (.bool (mhas m ks)))] else .c (.d (.int .i64 (mget m ks)))) := by
  intro cx G w a s ho
  have hv := ho x (by simp [Op.operands])
  have ek := keyC_ok hy (ho y (by simp [Op.operands]))
  have fin : ∀ c : Value, c = (if ok then Value.tuple #[.int .i64 (mget m ks), .bool (mhas m ks)] else .int .i64 (mget m ks)) → Ar G (if ok then .tup [.c (.d (.int .i64 (mget m ks))), .c (.d (.bool (mhas m ks)))] else .c (.d (.int .i64 (mget m ks)))) c := by
    rintro c rfl
    cases ok with
    | true => exact ⟨[_, _], rfl, .cons (Dr.int _ _) (.cons (Dr.bool _) .nil)⟩
    | false => exact Dr.int _ _
  unfold mapOf at hx
  split at hx
  · next sh' m' hα =>
    cases hx
    rw [hα] at hv
    rcases dr_mp hv with ⟨e1, rfl⟩ | ⟨b, es, clock, e1, _, hh, hr⟩
    · refine ⟨_, ?_, fin _ rfl⟩
      have := run_lookup_nil (P := P) hT hks w ok
      simp [execOp, e1, ek, this, mget, mhas]
    · refine ⟨_, ?_, fin _ rfl⟩
      have := run_lookup_rep hr hT hks (s.view _ _ hh) ok
      simp [execOp, e1, ek, this]
  · next i hα =>
    split at hx
    · next sh' m' hi =>
      cases hx
      rw [hα] at hv
      obtain ⟨b, es, clock, e1, _, _, _, hh, hr⟩ := own_map s hi hv
      refine ⟨_, ?_, fin _ rfl⟩
      have := run_lookup_rep hr hT hks hh ok
      simp [execOp, e1, ek, this]
    · cases hx
  · cases hx
theorem kdC_ok (G : Gh) (x : KD) : Cr G (kdC x) x.v := by
  cases x
  · exact Dr.int _ _
  · exact Dr.str _
theorem keyAV_ok (G : Gh) (ks : List KD) : Wr G (keyAV ks) (keyV ks) := by
  have : ∀ l : List KD, All2 (Cr G) (l.map kdC) (l.map KD.v) := fun l => by
    induction l with
    | nil => exact .nil
    | cons x r ih => exact .cons (kdC_ok G x) ih
  match ks with
  | [] => exact ⟨[], rfl, .nil⟩
  | [x] => exact kdC_ok G x
  | x :: y :: r => exact ⟨(x :: y :: r).map KD.v, rfl, this _⟩
theorem it_at {cx : Cx} {G : Gh} {h : List LB} {w : World} (s : SatH cx G h w) {j : Nat} {todo : Mp} {last : Option (List KD × Int)} (hj : h[j]? = some (.it todo last)) :
    ∃ r o, G.g[j]? = some (.pointer (some ⟨r, 0, none⟩), 0) ∧ cx.w0.heap.size ≤ r ∧ G.V.H r = none ∧ w.heap[r]? = some o ∧ ItRep G.V.H o todo last := by
  obtain ⟨⟨v, n⟩, he, hl⟩ := s.entry hj
  obtain ⟨h1, r, o, h2, h3, h4, h5, h6⟩ := hl
  simp only at h1 h2
  subst h1 h2
  exact ⟨r, o, he, h3, h4, h5, h6⟩
theorem s_entry (x : Operand) {j : Nat} {todo : Mp} {kv : List KD × Int} (hx : ρ x = .c (.loc j 0)) (hj : h[j]? = some (.it todo (some kv))) :
    Still P h ⟨dst, .entry x, ty, p, af, gd⟩ ρ (.tup [keyAV kv.1, .c (.d (.int .i64 kv.2))]) := by
  intro cx G w a s ho
  have hv := ho x (by simp [Op.operands])
  rw [hx] at hv
  obtain ⟨b0, n, hg, ev⟩ := hv
  obtain ⟨r, o, hg', h3, h4, h5, h6⟩ := it_at s hj
  rw [hg] at hg'
  cases hg'
  rcases h6 with ⟨_, _, hl⟩ | ⟨b, es, clock, seen, rfl, hb, hst, _, hlast⟩
  · cases hl
  obtain ⟨e, hem, hbk, hk, hval⟩ := hlast kv rfl
  have hbw := s.view _ _ hb
  have hf : es.find? (·.born == e.born) = some e := by rw [← Array.find?_toList]; exact find_born e es.toList hst.2.1 hem
  have hrun : (Instr.entry (.pointer (some ⟨b0, 0, none⟩))).run P w = .ok (.tuple #[e.key, e.val]) w := by
    simp only [Instr.entry, getObj, Sem.run_bind, Sem.run, h5, hbw, Result.andThen, hbk, bne_self_eq_false, Bool.false_eq_true, if_false, hf]
    rfl
  refine ⟨_, by simp only [execOp, ev, Sem.run_bind, hrun, Result.andThen_ok, Sem.run_pure], [e.key, e.val], rfl, .cons (hk ▸ keyAV_ok G kv.1) (.cons ?_ .nil)⟩
  show Dr G.V _ _
  rw [hval]; exact .int _ _
end Go.Ax

/- Operations that make or write maps and iterators. No condition. -/
namespace Go.Ax
open Go Go.RowKit
open Go.Maps (Keyed)
open Go.ChangeMaps (setBlock)
variable {P : Program} {pm : Pm} {ops : Array Oper} {rest : List Oper} {st : St} {K : St → Prop} {dst : Option Tmp} {ty : TypeId} {p : String} {af : Array Edge}
theorem mapRep_nil (sh : List Kc) : MapRep sh [] #[] 0 := ⟨MapKept.stamped_empty 0, rfl, fun i e h => by simp at h, rfl, fun kv h => by cases h⟩
theorem SatH.pushO {cx : Cx} {G : Gh} {h : List LB} {w : World} (s : SatH cx G h w) (o : Obj) (v : Value) (lb : LB) (hv : blkOf v = some w.heap.size)
    (hl : Lr G (w.alloc o) cx.w0.heap.size lb (v, 0)) : SatH cx ⟨G.V, G.g ++ [(v, 0)]⟩ (h ++ [lb]) (w.alloc o) := by
  obtain ⟨s1, hH, hne⟩ := s.alloc o
  exact s1.push v 0 lb hl fun k hk i b e hi hb he hbe => by
    rw [hv] at hk
    cases hk
    exact hne i b e hi hb he hbe
theorem heap_alloc_at (w : World) (o : Obj) : (w.alloc o).heap[w.heap.size]? = some o := (MapKept.heap_alloc w o).1
theorem H_new {cx : Cx} {G : Gh} {h : List LB} {w : World} (s : SatH cx G h w) : G.V.H w.heap.size = none := (s.alloc (.map #[] 0)).2.1
theorem AXl.makeMap {t : TypeId} (sh : List Kc) (hd : dstOk pm.N dst) (hn : AXl P pm ops rest (St.put ⟨st.env, st.heap ++ [.mp sh []]⟩ dst (.c (.own st.heap.length 0))) K) :
    AXl P pm ops (⟨dst, .makeMap t none, ty, p, af, none⟩ :: rest) st K := by
  refine AXl.eff rfl fun cx G a w hp s => ?_
  have hs : SatH cx ⟨G.V, G.g ++ [(.map (some w.heap.size), 0)]⟩ (st.heap ++ [.mp sh []]) (w.alloc (.map #[] 0)) :=
    s.h.pushO (.map #[] 0) (.map (some w.heap.size)) (.mp sh []) rfl ⟨rfl, w.heap.size, #[], 0, rfl, s.h.below.size, H_new s.h, heap_alloc_at _ _, mapRep_nil sh⟩
  have hS := s.step (gle_push (Value.map (some w.heap.size), 0)) hs
  refine ⟨.map (some w.heap.size), w.alloc (.map #[] 0), _, _, .inl ?_, hS.put (α := .c (.own st.heap.length 0)) ⟨rfl, .map (some w.heap.size), 0, get_last _ _ s.h.len.symm, Nat.le_refl _, fun _ => rfl⟩ (hp ▸ hd), hn⟩
  simp [execOp, run_makeMap]
theorem map_written {cx : Cx} {G : Gh} {h : List LB} {w : World} (s : SatH cx G h w) {i b : Nat} {sh : List Kc} {m m' : Mp} (hi : h[i]? = some (.mp sh m)) (hg : G.g[i]? = some (.map (some b), 0)) {es es' : Array MapEntry} {clock clock' : Nat} (hb : w.heap[b]? = some (.map es clock))
    (hr : MapRep sh m' es' clock') : SatH cx G (h.set i (.mp sh m')) (setBlock w b (.map es' clock')) := by
  have hlt := heap_lt hb
  have hent := s.ent i _ _ hi hg
  obtain ⟨_, b', _, _, e1, h3, h4, _⟩ := hent
  cases e1
  exact s.upd hi trivial hg (b := b) rfl rfl rfl rfl (by simp [setBlock]) (fun k hk => ChangeMaps.heap_setBlock_other hb _ hk) ⟨rfl, b, es', clock', rfl, h3, h4, ChangeMaps.heap_setBlock_same hb _, hr⟩
theorem MapRep.push {sh : List Kc} {m : Mp} {es : Array MapEntry} {clock : Nat} (hr : MapRep sh m es clock) {ks : List KD} (hks : Kfits sh ks) (hne : ∀ e ∈ es.toList, e.key ≠ keyV ks) (v : Int) :
    MapRep sh (m ++ [(ks, v)]) (es.push { key := keyV ks, val := .int .i64 v, born := clock }) (clock + 1) := by
  refine ⟨MapKept.stamped_push hr.st hne, by rw [hr.clk]; simp, fun i e he => ?_, ?_, fun kv hkv => ?_⟩
  · rw [Array.getElem?_push] at he
    split at he
    · next hi => cases he; rw [hr.clk, hi]
    · exact hr.born i e he
  · simp [hr.ent]
  · rcases List.mem_append.1 hkv with h | h
    · exact hr.fit kv h
    · rw [List.mem_singleton.1 h]; exact hks
theorem modify_same {α : Type} {es : Array α} {i : Nat} {f : α → α} {e : α} (he : es[i]? = some e) (hf : f e = e) : es.modify i f = es := by
  apply Array.ext_getElem?
  intro j
  rw [Array.getElem?_modify]
  split
  · next hj => subst hj; rw [he]; simp [hf]
  · rfl
theorem MapRep.set {sh : List Kc} {m : Mp} {es : Array MapEntry} {clock : Nat} (hr : MapRep sh m es clock) (i : Nat) (v : Int) :
    MapRep sh (mset m i v) (es.modify i fun e => { e with val := .int .i64 v }) clock := by
  refine ⟨MapKept.stamped_modify hr.st i _ (fun _ _ => rfl) (fun _ _ _ => rfl), by rw [hr.clk]; simp, fun j e he => ?_, ?_, fun kv hkv => ?_⟩
  · rw [Array.getElem?_modify] at he
    split at he
    · next hj =>
      subst hj
      cases h : es[i]? with
      | none => rw [h] at he; cases he
      | some e0 => rw [h] at he; cases he; exact hr.born i e0 h
    · exact hr.born j e he
  · apply List.ext_getElem?
    intro j
    have h1 := congrArg (·[j]?) hr.ent
    simp only [List.getElem?_map, Array.getElem?_toList] at h1
    simp only [List.getElem?_map, Array.getElem?_toList, Array.getElem?_modify, mset, List.getElem?_modify]
    by_cases hij : i = j
    · subst hij
      simp only [if_true]
      cases h2 : es[i]? with
      | none => rw [h2] at h1; cases h3 : m[i]? with
        | none => rfl
        | some kv => rw [h3] at h1; cases h1
      | some e => rw [h2] at h1; cases h3 : m[i]? with
        | none => rw [h3] at h1; cases h1
        | some kv =>
          rw [h3] at h1
          simp only [Option.map_some, Option.some.injEq, Prod.mk.injEq] at h1
          show some (e.key, Value.int .i64 v) = some (keyV kv.1, Value.int .i64 v)
          rw [h1.1]
    · simp only [if_neg hij]
      rw [h1]
      cases m[j]? <;> rfl
  · unfold mset at hkv
    obtain ⟨j, hj⟩ := List.getElem?_of_mem hkv
    rw [List.getElem?_modify] at hj
    cases h3 : m[j]? with
    | none => rw [h3] at hj; cases hj
    | some kv0 =>
      rw [h3] at hj
      have := hr.fit kv0 (List.mem_of_getElem? h3)
      simp only [Option.map_eq_map, Option.map_some, Option.some.injEq] at hj
      subst hj
      split <;> exact this
theorem run_mapEntry {sh : List Kc} {m : Mp} {es : Array MapEntry} {clock : Nat} (hr : MapRep sh m es clock) {t : TypeId} (hT : MapT P t sh) {ks : List KD} (hks : Kfits sh ks) {w : World} {b : Nat} (hb : w.heap[b]? = some (.map es clock)) :
    ∃ es' clock', (Instr.mapEntry t (.map (some b)) (keyV ks)).run P w = .ok (.tuple #[.int .i64 (mget m ks), .int .i64 (midx m ks)]) (setBlock w b (.map es' clock')) ∧ MapRep sh (mpre m ks) es' clock' := by
  obtain ⟨K, E, ht, he, hz, hK, hk⟩ := hT.ex
  obtain ⟨l, hl⟩ := hk ks hks
  rcases hr.find hK hk hks w with ⟨h0, h1, hne⟩ | ⟨e, h0, hat, hkey, h3, h1⟩
  · obtain ⟨q1, q2⟩ := mget_none h0
    refine ⟨es.push { key := keyV ks, val := .int .i64 0, born := clock }, clock + 1, ?_, by simp only [mpre, h0]; exact hr.push hks hne 0⟩
    have hcl : clock = m.length := by rw [hr.clk, hr.len]
    simp [Instr.mapEntry, run_underlying ht, MapKept.run_getObj_map hb, hK.check w _ hl, h1, hz, Result.andThen, MapKept.run_setObj_map _ hb, setBlock, q1, q2, goInt, hcl]
  · refine ⟨es, clock, ?_, by simp only [mpre, h0, if_true]; exact hr⟩
    have hb' := hr.born _ _ hat
    have hmod : es.modify (midx m ks) (fun e => { e with key := keyV ks }) = es := modify_same hat (by rw [← hkey])
    simp [Instr.mapEntry, run_underlying ht, MapKept.run_getObj_map hb, hK.check w _ hl, h1, Result.andThen, MapKept.run_setObj_map _ hb, setBlock, hat, hkey, hK.stays w hl, h3, hb', goInt, hmod]
theorem run_entryStore {sh : List Kc} {m : Mp} {es : Array MapEntry} {clock : Nat} (hr : MapRep sh m es clock) {w : World} {b : Nat} (hb : w.heap[b]? = some (.map es clock)) {s : Int} (h0 : 0 ≤ s) (h1 : s < m.length) (k : IntKind) (v : Int) (t : TypeId) :
    (Instr.entryStore t (.map (some b)) (.int k s) (.int .i64 v)).run P w = .ok () (setBlock w b (.map (es.modify s.toNat fun e => { e with val := .int .i64 v }) clock)) := by
  have hlt : s.toNat < es.size := by rw [hr.len]; omega
  have hf : es.findIdx? (fun e => (e.born : Int) == s) = some s.toNat := by
    rw [Array.findIdx?_eq_some_iff_getElem]
    refine ⟨hlt, ?_, fun j hj => ?_⟩
    · have := hr.born s.toNat es[s.toNat] (by simp [hlt])
      rw [this]
      simp; omega
    · have := hr.born j es[j] (by simp)
      rw [this]
      simp; omega
  simp [Instr.entryStore, MapKept.run_getObj_map hb, Result.andThen, hf, MapKept.run_setObj_map _ hb, setBlock, asInt, asIntOf]
theorem mput_none {m : Mp} {k : List KD} (h : mhas m k = false) (v : Int) : mput m k v = m ++ [(k, v)] := by
  unfold mput mset mpre
  rw [h, (mget_none h).2]
  simp only [Bool.false_eq_true, if_false]
  apply List.ext_getElem?
  intro j
  rw [List.getElem?_modify]
  by_cases hj : m.length = j
  · subst hj; simp
  · simp only [if_neg hj]
    rcases Nat.lt_or_ge j m.length with h1 | h1
    · simp [List.getElem?_append_left h1]
    · rw [List.getElem?_append_right (by omega), List.getElem?_append_right (by omega)]
      rw [List.getElem?_eq_none (by simp; omega), List.getElem?_eq_none (by simp; omega)]; rfl
theorem run_mapUpdate {sh : List Kc} {m : Mp} {es : Array MapEntry} {clock : Nat} (hr : MapRep sh m es clock) {t : TypeId} (hT : MapT P t sh) {ks : List KD} (hks : Kfits sh ks) {w : World} {b : Nat} (hb : w.heap[b]? = some (.map es clock)) (v : Int) :
    ∃ es' clock', (Instr.mapUpdate t (.map (some b)) (keyV ks) (.int .i64 v)).run P w = .ok () (setBlock w b (.map es' clock')) ∧ MapRep sh (mput m ks v) es' clock' := by
  obtain ⟨K, E, ht, he, hz, hK, hk⟩ := hT.ex
  obtain ⟨l, hl⟩ := hk ks hks
  rcases hr.find hK hk hks w with ⟨h0, h1, hne⟩ | ⟨e, h0, hat, hkey, h3, h1⟩
  · refine ⟨es.push { key := keyV ks, val := .int .i64 v, born := clock }, clock + 1, ?_, by rw [mput_none h0]; exact hr.push hks hne v⟩
    simp [Instr.mapUpdate, run_underlying ht, MapKept.run_getObj_map hb, hK.check w _ hl, h1, Result.andThen, MapKept.run_setObj_map _ hb, setBlock]
  · refine ⟨es.modify (midx m ks) fun e => { e with val := .int .i64 v }, clock, ?_, ?_⟩
    · have hmod : es.modify (midx m ks) (fun e => { key := keyV ks, val := .int .i64 v, born := e.born }) = es.modify (midx m ks) fun e => { e with val := .int .i64 v } := by
        apply Array.ext_getElem?
        intro j
        rw [Array.getElem?_modify, Array.getElem?_modify]
        split
        · next hj => subst hj; rw [hat]; simp [hkey]
        · rfl
      simp [Instr.mapUpdate, run_underlying ht, MapKept.run_getObj_map hb, hK.check w _ hl, h1, Result.andThen, MapKept.run_setObj_map _ hb, setBlock, hat, hkey, hK.stays w hl, hmod]
    · have : mput m ks v = mset m (midx m ks) v := by unfold mput mpre; rw [h0]; rfl
      rw [this]; exact hr.set _ _
theorem AXl.mapEntry {t : TypeId} {x y : Operand} {i : Nat} {sh : List Kc} {m : Mp} {ks : List KD} (hT : MapT P t sh) (hx : ev pm.Γ st.env x = .c (.own i 0)) (hi : st.heap[i]? = some (.mp sh m)) (hy : keyC (ev pm.Γ st.env y) = some ks) (hks : Kfits sh ks) (hd : dstOk pm.N dst)
    (hn : AXl P pm ops rest (St.put ⟨st.env, st.heap.set i (.mp sh (mpre m ks))⟩ dst (.tup [.c (.d (.int .i64 (mget m ks))), .c (.d (.int .i64 (midx m ks)))])) K) :
    AXl P pm ops (⟨dst, .mapEntry t x y, ty, p, af, none⟩ :: rest) st K := by
  refine AXl.eff rfl fun cx G a w hp s => ?_
  subst hp
  have ek := keyC_ok hy (s.ev y)
  obtain ⟨b, es, clock, e1, hg, _, _, hb, hr⟩ := own_map s.h hi (hx ▸ s.ev x)
  obtain ⟨es', clock', hrun, hr'⟩ := run_mapEntry hr hT hks hb
  have hs := map_written s.h hi hg hb hr'
  have hS : Sat cx G ⟨st.env, st.heap.set i (.mp sh (mpre m ks))⟩ a (setBlock w b (.map es' clock')) := ⟨hs, s.env, s.N, s.defers⟩
  refine ⟨_, _, G, _, .inl ?_, hS.put (α := .tup [.c (.d (.int .i64 (mget m ks))), .c (.d (.int .i64 (midx m ks)))]) (v := .tuple #[.int .i64 (mget m ks), .int .i64 (midx m ks)]) ⟨[_, _], rfl, .cons (Dr.int _ _) (.cons (Dr.int _ _) .nil)⟩ hd, hn⟩
  simp [execOp, e1, ek, hrun]
theorem AXl.entryStore {t : TypeId} {x y z : Operand} {i : Nat} {sh : List Kc} {m : Mp} {k : IntKind} {n v : Int} (hx : ev pm.Γ st.env x = .c (.own i 0)) (hi : st.heap[i]? = some (.mp sh m)) (hy : ev pm.Γ st.env y = .c (.d (.int k n))) (h0 : 0 ≤ n) (h1 : n < m.length) (hz : ev pm.Γ st.env z = .c (.d (.int .i64 v))) (hd : dst = none)
    (hn : AXl P pm ops rest ⟨st.env, st.heap.set i (.mp sh (mset m n.toNat v))⟩ K) : AXl P pm ops (⟨dst, .entryStore t x y z, ty, p, af, none⟩ :: rest) st K := by
  subst hd
  refine AXl.eff rfl fun cx G a w hp s => ?_
  subst hp
  have e2 := ar_int (hy ▸ s.ev y)
  have e3 := ar_int (hz ▸ s.ev z)
  obtain ⟨b, es, clock, e1, hg, _, _, hb, hr⟩ := own_map s.h hi (hx ▸ s.ev x)
  have hrun := run_entryStore (P := P) hr hb h0 h1 k v t
  refine ⟨undef, _, G, ⟨st.env, st.heap.set i (.mp sh (mset m n.toNat v))⟩, .inr ⟨?_, rfl⟩, ⟨map_written s.h hi hg hb (hr.set _ _), s.env, s.N, s.defers⟩, hn⟩
  simp [execOp, e1, e2, e3, hrun]
theorem AXl.mapUpdate {t : TypeId} {x y z : Operand} {i : Nat} {sh : List Kc} {m : Mp} {ks : List KD} {v : Int} (hT : MapT P t sh) (hx : ev pm.Γ st.env x = .c (.own i 0)) (hi : st.heap[i]? = some (.mp sh m)) (hy : keyC (ev pm.Γ st.env y) = some ks) (hks : Kfits sh ks) (hz : ev pm.Γ st.env z = .c (.d (.int .i64 v))) (hd : dst = none)
    (hn : AXl P pm ops rest ⟨st.env, st.heap.set i (.mp sh (mput m ks v))⟩ K) : AXl P pm ops (⟨dst, .mapUpdate t x y z, ty, p, af, none⟩ :: rest) st K := by
  subst hd
  refine AXl.eff rfl fun cx G a w hp s => ?_
  subst hp
  have ek := keyC_ok hy (s.ev y)
  have e3 := ar_int (hz ▸ s.ev z)
  obtain ⟨b, es, clock, e1, hg, _, _, hb, hr⟩ := own_map s.h hi (hx ▸ s.ev x)
  obtain ⟨es', clock', hrun, hr'⟩ := run_mapUpdate hr hT hks hb v
  refine ⟨undef, _, G, ⟨st.env, st.heap.set i (.mp sh (mput m ks v))⟩, .inr ⟨?_, rfl⟩, ⟨map_written s.h hi hg hb hr', s.env, s.N, s.defers⟩, hn⟩
  simp [execOp, e1, ek, e3, hrun]
end Go.Ax
