/- Part of a proof about this program; no condition of its own. -/
import Derived.Test.YtanbfhnmklhjiaaGreatDoorP04
set_option linter.all false
/-
  The operations that make or write local memory. No condition.
-/
namespace Go.Ax
open Go Go.RowKit
variable {P : Program}
theorem AXl.eff {pm : Pm} {ops : Array Oper} {o : Oper} {rest : List Oper} {st : St} {K : St → Prop} (hg : o.guard = none)
    (hh : ∀ (cx : Cx) (G : Gh) (a : Act) (w : World), cx.pm = pm → Sat cx G st a w → ∃ v w' G' st', ((execOp a.eval o).run P w = .ok (.value v) w' ∨ ((execOp a.eval o).run P w = .ok .skip w' ∧ v = undef)) ∧ Sat cx G' st' (a.put o.dst v) w' ∧ AXl P pm ops rest st' K) : AXl P pm ops (o :: rest) st K := by
  intro cx G a w Q hp s hQ
  refine wpList_plain hg fun K' hK' => ?_
  obtain ⟨v, w', G', st', hr, s', hn⟩ := hh cx G a w hp s
  have hk := hK' _ _ (hn cx G' _ w' Q hp s' hQ)
  unfold Oper.wp
  rcases hr with hr | ⟨hr, rfl⟩ <;> rw [hr] <;> exact hk
/-! ### cells of a value -/
def avCells : AV → Option (List C)
  | .c c => some [c]
  | .agg cs => some cs
  | _ => none
theorem cells_one {v : Value} (h : v.oneCell' = true) : v.cells = #[v] := by
  cases v <;> first | rfl | (simp [Value.oneCell'] at h)
theorem avCells_ok {G : Gh} {α : AV} {v : Value} {cs : List C} (hc : avCells α = some cs) (h : Ar G α v) : All2 (Cr G) cs v.cells.toList := by
  cases α with
  | any => cases hc
  | tup vs => cases hc
  | c c =>
    cases hc
    have h' : Cr G c v := h
    rw [cells_one h'.one]
    exact .cons h' .nil
  | agg cs' =>
    cases hc
    obtain ⟨vs, rfl, h'⟩ := h
    simpa [Value.cells] using h'
def zD : Value → Option C
  | .int k n => some (.d (.int k n))
  | .bool b => some (.d (.bool b))
  | .string s => some (.d (.str s.data.toList))
  | .slice none 0 0 => some (.d (.raw (.slice none 0 0)))
  | .map none => some (.d (.raw (.map none)))
  | .pointer none => some (.d (.raw (.pointer none)))
  | .nilFunc => some (.d (.raw .nilFunc))
  | .nilIface => some (.d (.raw .nilIface))
  | _ => none
def zDs : List Value → Option (List C)
  | [] => some []
  | v :: r => match zD v, zDs r with
    | some c, some cs => some (c :: cs)
    | _, _ => none
theorem zD_ok {G : Gh} {v : Value} {c : C} (h : zD v = some c) : Cr G c v := by
  unfold zD at h
  split at h <;> first | cases h; done | (cases h; first | exact Dr.int _ _ | exact Dr.bool _ | exact Dr.raw _ rfl | (next s => exact (byteArray_eta s) ▸ (Dr.str (V := G.V) s.data.toList)))
theorem zDs_ok {G : Gh} : ∀ (vs : List Value) (cs : List C), zDs vs = some cs → All2 (Cr G) cs vs
  | [], cs, h => by cases h; exact .nil
  | v :: r, cs, h => by
    unfold zDs at h
    split at h
    · next c cs' h1 h2 => cases h; exact .cons (zD_ok h1) (zDs_ok r _ h2)
    · cases h
def zeroC (P : Program) (t : TypeId) : Option (List C) :=
  match (P.info? t).bind (·.zero) with
  | some z => zDs z.cells.toList
  | none => none
theorem zeroC_ok {t : TypeId} {zc : List C} (h : zeroC P t = some zc) (G : Gh) (w : World) : ∃ z, (zeroValue t).run P w = .ok z w ∧ All2 (Cr G) zc z.cells.toList ∧ (P.info? t).bind (·.zero) = some z := by
  unfold zeroC at h
  split at h
  · next z hz =>
    refine ⟨z, ?_, zDs_ok _ _ h, hz⟩
    cases hi : P.info? t with
    | none => simp [hi] at hz
    | some i => simp [hi] at hz; simp [zeroValue, typeInfo, hi, hz]
  · cases h
theorem push_box {cx : Cx} {G : Gh} {h : List LB} {w : World} (s : SatH cx G h w) {cs : List C} {vs : List Value} (t : TypeId) (hc : All2 (Cr G) cs vs) :
    SatH cx ⟨G.V, G.g ++ [(.pointer (some ⟨w.heap.size, 0, none⟩), 0)]⟩ (h ++ [.box t cs]) (w.alloc (.cells vs.toArray t)) := by
  obtain ⟨s', hH, hne⟩ := s.alloc (.cells vs.toArray t)
  refine s'.push _ 0 _ ⟨rfl, w.heap.size, vs, rfl, s.below.size, hH, heap_alloc_new w _, hc⟩ fun k hk => ?_
  cases hk
  exact hne
theorem push_row {cx : Cx} {G : Gh} {h : List LB} {w : World} (s : SatH cx G h w) {sz : Nat} {els : List (List D)} {vs : List Value} (t : TypeId) (ver : Nat) (hc : All2 (Dr G.V) els.flatten vs) (hl : ∀ x ∈ els, x.length = sz) (hm : els.length ≤ maxLen) :
    SatH cx ⟨G.V, G.g ++ [(.slice (some ⟨w.heap.size, 0, none⟩) els.length els.length, ver)]⟩ (h ++ [.row t sz els ver]) (w.alloc (.cells vs.toArray t)) := by
  obtain ⟨s', hH, hne⟩ := s.alloc (.cells vs.toArray t)
  have hlen := hc.length
  rw [flat_len els hl] at hlen
  refine s'.push _ ver _ ⟨rfl, vs, ⟨hlen.symm, .inr ⟨w.heap.size, els.length, vs.toArray, rfl, s.below.size, heap_alloc_new w _, Nat.le_refl _, hm, by simpa using hlen.symm, by simp [hlen]⟩⟩, fun b hb => ?_, hc, hl⟩ fun k hk => ?_
  · cases hb
    exact hH
  · cases hk
    exact hne
theorem Sat.pushed {cx : Cx} {G : Gh} {st : St} {a : Act} {w w' : World} (s : Sat cx G st a w) {x : Value × Nat} {lb : LB} (s' : SatH cx ⟨G.V, G.g ++ [x]⟩ (st.heap ++ [lb]) w') {dst : Option Nat} {α : AV} {v : Value} (hr : Ar ⟨G.V, G.g ++ [x]⟩ α v) (hd : dstOk cx.pm.N dst) :
    Sat cx ⟨G.V, G.g ++ [x]⟩ (St.put ⟨st.env, st.heap ++ [lb]⟩ dst α) (a.put dst v) w' :=
  (s.step (gle_push x) s').put hr hd
theorem get_last {α : Type} (l : List α) (x : α) {n : Nat} (h : n = l.length) : (l ++ [x])[n]? = some x := by subst h; simp
variable {pm : Pm} {ops : Array Oper} {rest : List Oper} {st : St} {K : St → Prop} {dst : Option Tmp} {ty : TypeId} {p : String} {af : Array Edge}
theorem AXl.alloc {t : TypeId} {zc : List C} (hz : zeroC P t = some zc) (hd : dstOk pm.N dst) (hn : AXl P pm ops rest (St.put ⟨st.env, st.heap ++ [.box t zc]⟩ dst (.c (.loc st.heap.length 0))) K) :
    AXl P pm ops (⟨dst, .alloc t, ty, p, af, none⟩ :: rest) st K := by
  refine AXl.eff rfl fun cx G a w hp s => ?_
  obtain ⟨z, hr, hc, _⟩ := zeroC_ok hz G w
  refine ⟨.pointer (some ⟨w.heap.size, 0, none⟩), w.alloc (.cells z.cells t), _, _, .inl ?_, s.pushed (α := .c (.loc st.heap.length 0)) (push_box s.h t hc) ⟨w.heap.size, 0, get_last _ _ s.h.len.symm, rfl⟩ (hp ▸ hd), hn⟩
  simp [execOp, Instr.alloc, hr, newVar, newRow]
theorem AXl.box {t : TypeId} {x : Operand} {cs : List C} (hx : avCells (ev pm.Γ st.env x) = some cs) (hd : dstOk pm.N dst) (hn : AXl P pm ops rest (St.put ⟨st.env, st.heap ++ [.box t cs]⟩ dst (.c (.loc st.heap.length 0))) K) :
    AXl P pm ops (⟨dst, .box t x, ty, p, af, none⟩ :: rest) st K := by
  refine AXl.eff rfl fun cx G a w hp s => ?_
  have hc := avCells_ok (hp ▸ hx) (s.ev x)
  refine ⟨.pointer (some ⟨w.heap.size, 0, none⟩), w.alloc (.cells (a.eval x).cells t), _, _, .inl ?_, s.pushed (α := .c (.loc st.heap.length 0)) (push_box s.h t hc) ⟨w.heap.size, 0, get_last _ _ s.h.len.symm, rfl⟩ (hp ▸ hd), hn⟩
  simp [execOp, Instr.box, newVar, newRow]
/-! ### stores -/
def splice {α : Type} (cs : List α) (off : Nat) (xs : List α) : List α := cs.take off ++ xs ++ cs.drop (off + xs.length)
theorem splice_left {α : Type} (l r : List α) (o : Nat) (xs : List α) (h : o + xs.length ≤ l.length) : splice (l ++ r) o xs = splice l o xs ++ r := by
  unfold splice
  rw [List.take_append_of_le_length (by omega), List.drop_append_of_le_length (by omega)]
  simp
theorem All2.splice {α β : Type} {R : α → β → Prop} {cs : List α} {vs : List β} {xs : List α} {us : List β} (h : All2 R cs vs) (h' : All2 R xs us) (off : Nat) : All2 R (splice cs off xs) (Ax.splice vs off us) := by
  unfold Ax.splice
  rw [h'.length]
  exact ((h.take off).append h').append (h.drop _)
theorem all2_one {G : Gh} {cs : List C} {vs : List Value} (h : All2 (Cr G) cs vs) : ∀ v ∈ vs, v.oneCell' = true := by
  induction h with
  | nil => intro v hv; cases hv
  | cons h t ih => intro v hv; cases hv with | head => exact h.one | tail _ hm => exact ih v hm
theorem run_storeAt {t : TypeId} {n : Nat} (hs : (P.info? t).map (·.size) = some n) {g o : Nat} {te : TypeId} {cur : Array Value} {w : World} (hg : w.heap[g]? = some (.cells cur te (0, 0))) {v : Value} (hv : v.cells.size = n) (h1 : ∀ u ∈ v.cells.toList, u.oneCell' = true) (hle : o + n ≤ cur.size) :
    (Instr.storeAt t (.pointer (some ⟨g, o, none⟩)) v).run P w = .ok () (w.setRow g (splice cur.toList o v.cells.toList).toArray) := by
  have := run_storeCells_at (P := P) g o te v.cells.toList 0 cur w hg (by simp [hv]; omega) h1
  simp only [Nat.add_zero] at this
  simp [Instr.storeAt, Instr.sureAddr, storeVar, run_sizeOf' hs, hv, this, splice]
theorem setRow_ne (w : World) (g k : Nat) (cs : Array Value) (h : k ≠ g) : (w.setRow g cs).heap[k]? = w.heap[k]? := by
  simp only [World.setRow, Array.getElem?_modify]
  rw [if_neg (by omega)]
theorem AXl.store {t : TypeId} {x y : Operand} {i off : Nat} {tb : TypeId} {cs xs : List C} (hx : ev pm.Γ st.env x = .c (.loc i off)) (hi : st.heap[i]? = some (.box tb cs)) (hy : avCells (ev pm.Γ st.env y) = some xs) (hs : (P.info? t).map (·.size) = some xs.length) (hle : off + xs.length ≤ cs.length) (hd : dst = none)
    (hn : AXl P pm ops rest ⟨st.env, st.heap.set i (.box tb (splice cs off xs))⟩ K) : AXl P pm ops (⟨dst, .store t x y, ty, p, af, none⟩ :: rest) st K := by
  subst hd
  refine AXl.eff rfl fun cx G a w hp s => ?_
  subst hp
  have hc := avCells_ok hy (s.ev y)
  obtain ⟨b, n, hg, e1⟩ := (hx ▸ s.ev x : Ar G (.c (.loc i off)) (a.eval x))
  obtain ⟨b', vs, hg', hb1, hb2, hb3, hb4⟩ := box_at s.h hi
  rw [hg] at hg'
  cases hg'
  have hrun := run_storeAt (P := P) hs (o := off) hb3 (v := a.eval y) (by rw [hc.length]; simp) (all2_one hc) (by simpa [← hb4.length] using hle)
  refine ⟨undef, w.setRow b (splice vs.toArray.toList off (a.eval y).cells.toList).toArray, G, ⟨st.env, st.heap.set i (.box tb (splice cs off xs))⟩, .inr ⟨?_, rfl⟩, ⟨?_, s.env, s.N, s.defers⟩, hn⟩
  · simp only [execOp, e1, Sem.run_bind, hrun, Result.andThen_ok, Sem.run_pure]
  · refine s.h.upd hi trivial hg rfl rfl rfl rfl (by simp [World.setRow]) (fun k hk => setRow_ne _ _ _ _ hk) ⟨rfl, b, splice vs (off) (a.eval y).cells.toList, rfl, hb1, hb2, setRow_heap w b _ _ tb (0, 0) hb3, ?_⟩
    exact hb4.splice hc off
theorem flat_set {sz : Nat} : ∀ (els : List (List D)) (k : Nat) (e e' : List D), (∀ x ∈ els, x.length = sz) → els[k]? = some e → e'.length = sz → (els.set k e').flatten = splice els.flatten (k * sz) e'
  | [], k, e, e', _, h, _ => by simp at h
  | x :: r, 0, e, e', hl, h, h' => by
    have hx : x.length = sz := hl x (by simp)
    simp [splice, h', ← hx]
  | x :: r, k + 1, e, e', hl, h, h' => by
    have hx : x.length = sz := hl x (by simp)
    have ih := flat_set r k e e' (fun y hy => hl y (by simp [hy])) (by simpa using h) h'
    simp only [List.set_cons_succ, List.flatten_cons, ih, splice]
    have e1 : (k + 1) * sz = x.length + k * sz := by rw [hx, Nat.add_mul]; omega
    rw [e1, Nat.add_assoc, List.take_length_add_append, List.drop_length_add_append]
    simp
theorem splice_get {α : Type} (l xs : List α) (o i : Nat) (h : o ≤ l.length) : (splice l o xs)[i]? = if i < o then l[i]? else if i < o + xs.length then xs[i - o]? else l[i]? := by
  unfold splice
  by_cases h1 : i < o
  · rw [if_pos h1, List.append_assoc, List.getElem?_append_left (by simp; omega), List.getElem?_take, if_pos h1]
  · rw [if_neg h1, List.append_assoc, List.getElem?_append_right (by simp; omega)]
    have e : (List.take o l).length = o := by simp; omega
    rw [e]
    by_cases h2 : i < o + xs.length
    · rw [if_pos h2, List.getElem?_append_left (by omega)]
    · rw [if_neg h2, List.getElem?_append_right (by omega), List.getElem?_drop]
      congr 1
      omega
theorem splice_len {α : Type} (l xs : List α) (o : Nat) (h : o + xs.length ≤ l.length) : (splice l o xs).length = l.length := by
  unfold splice
  simp
  omega
theorem splice_in {α : Type} (l e xs : List α) (off base : Nat) (h : ∀ j, j < e.length → l[base + j]? = e[j]?) (hb : base + e.length ≤ l.length) (ho : off + xs.length ≤ e.length) :
    splice l base (splice e off xs) = splice l (base + off) xs := by
  apply List.ext_getElem?
  intro i
  have s1 := splice_get l (splice e off xs) base i (by omega)
  have s2 := splice_get l xs (base + off) i (by omega)
  rw [splice_len _ _ _ ho] at s1
  rw [s1, s2]
  by_cases h1 : i < base
  · rw [if_pos h1, if_pos (by omega)]
  · rw [if_neg h1]
    by_cases h2 : i < base + e.length
    · rw [if_pos h2, splice_get _ _ _ _ (by omega)]
      have e1 := h (i - base) (by omega)
      rw [show base + (i - base) = i from by omega] at e1
      by_cases h3 : i < base + off
      · rw [if_pos (by omega), if_pos h3, e1]
      · rw [if_neg (by omega), if_neg h3]
        by_cases h4 : i < base + off + xs.length
        · rw [if_pos (by omega), if_pos h4]
          congr 1
          omega
        · rw [if_neg (by omega), if_neg h4, e1]
    · rw [if_neg h2, if_neg (by omega), if_neg (by omega)]
theorem AXl.store_row {t : TypeId} {x y : Operand} {i ver sz k off : Nat} {te : TypeId} {els : List (List D)} {e ds : List D} (hx : ev pm.Γ st.env x = .c (.rowp i ver sz k off)) (hi : st.heap[i]? = some (.row te sz els ver)) (hk : els[k]? = some e)
    (hy : avCells (ev pm.Γ st.env y) = some (ds.map C.d)) (hs : (P.info? t).map (·.size) = some ds.length) (hle : off + ds.length ≤ e.length) (hd : dst = none)
    (hn : AXl P pm ops rest ⟨st.env, st.heap.set i (.row te sz (els.set k (splice e off ds)) ver)⟩ K) : AXl P pm ops (⟨dst, .store t x y, ty, p, af, none⟩ :: rest) st K := by
  subst hd
  refine AXl.eff rfl fun cx G a w hp s => ?_
  subst hp
  have hc := avCells_ok hy (s.ev y)
  have hcd := all2_dr hc
  obtain ⟨v0, xs, hg, how, hob, hd, hl⟩ := row_at s.h hi
  obtain ⟨_, v0', n', hg', _, hxx⟩ := (hx ▸ s.ev x : Ar G (.c (.rowp i ver sz k off)) (a.eval x))
  rw [hg] at hg'
  cases hg'
  obtain ⟨b, len, cap, rfl, e1⟩ := hxx rfl
  have hel := hl e (List.mem_of_getElem? hk)
  have hklt := getElem?_lt hk
  obtain ⟨hxl, hcase⟩ := how
  rcases hcase with ⟨hcc, _⟩ | ⟨g, cap', cur, hv, hgb, hh, hc1, hc2, hc3, hc4⟩
  · cases hcc
  injection hv with hv hlen' hcap'
  injection hv with hv
  injection hv with hv _ _
  subst hv hlen' hcap'
  have hkk : k * sz + sz ≤ els.length * sz := by
    have : (k + 1) * sz ≤ els.length * sz := Nat.mul_le_mul_right sz (by omega)
    rw [Nat.add_mul] at this; omega
  have hcl : els.length * sz ≤ cap * sz := Nat.mul_le_mul_right sz hc1
  have hrun := run_storeAt (P := P) hs (o := k * sz + off) hh (v := a.eval y) (by have := hcd.length; simpa using this.symm) (all2_one hc) (by rw [hc3]; omega)
  have hel' : (splice e off ds).length = sz := by rw [splice_len _ _ _ hle, hel]
  refine ⟨undef, w.setRow b (splice cur.toList (k * sz + off) (a.eval y).cells.toList).toArray, G, ⟨st.env, st.heap.set i (.row te sz (els.set k (splice e off ds)) ver)⟩, .inr ⟨?_, rfl⟩, ⟨?_, s.env, s.N, s.defers⟩, hn⟩
  · simp only [execOp, e1, Sem.run_bind, hrun, Result.andThen_ok, Sem.run_pure]
  · have hflat : (els.set k (splice e off ds)).flatten = splice els.flatten (k * sz + off) ds := by
      rw [flat_set els k e _ hl hk hel', splice_in]
      · intro j hj
        have := flat_get els hl k e j e[j] hk (List.getElem?_eq_getElem hj)
        rw [this, List.getElem?_eq_getElem hj]
      · rw [flat_len els hl, hel]; exact hkk
      · exact hle
    have hul : (a.eval y).cells.toList.length = ds.length := hcd.length.symm
    have hlx : xs.length = els.length * sz := hxl
    refine s.h.upd hi trivial hg (b := b) rfl rfl rfl rfl (by simp [World.setRow]) (fun k hk => setRow_ne _ _ _ _ hk) ⟨rfl, splice xs (k * sz + off) (a.eval y).cells.toList, ⟨?_, .inr ⟨b, cap, _, ?_, hgb, setRow_heap w b _ _ te (0, 0) hh, by simpa using hc1, hc2, ?_, ?_⟩⟩, hob, ?_, ?_⟩
    · rw [splice_len _ _ _ (by rw [hul, hxl]; omega), hxl, List.length_set]
    · simp
    · have : (splice cur.toList (k * sz + off) (a.eval y).cells.toList).length = cur.toList.length := splice_len _ _ _ (by rw [hul]; exact Nat.le_trans (by omega) (by simp [hc3]; exact hcl : els.length * sz ≤ cur.toList.length))
      simpa [hc3] using this
    · simp only [List.length_set]
      apply List.ext_getElem?
      intro j
      have hs2 := splice_get xs (a.eval y).cells.toList (k * sz + off) j (by rw [hxl]; omega)
      rw [List.getElem?_take, hs2]
      have hcurl : cur.toList.length = cap * sz := by simp [hc3]
      have hsp := splice_get cur.toList (a.eval y).cells.toList (k * sz + off) j (by rw [hcurl]; omega)
      have hx' : ∀ j, xs[j]? = if j < els.length * sz then cur.toList[j]? else none := fun j => by rw [← hc4, List.getElem?_take]
      rw [hx' j, hul]
      rw [hul] at hsp
      split
      · next hj =>
        rw [show (splice cur.toList (k * sz + off) (a.eval y).cells.toList).toArray.toList[j]? = (splice cur.toList (k * sz + off) (a.eval y).cells.toList)[j]? from rfl, hsp]
      · next hj =>
        rw [if_neg (by omega), if_neg (by omega)]
    · rw [hflat]; exact hd.splice hcd _
    · intro x hx
      rcases List.mem_or_eq_of_mem_set hx with h | rfl
      · exact hl x h
      · exact hel'
theorem splice_mid {α : Type} (A cs B xs : List α) (off : Nat) (h : off + xs.length ≤ cs.length) : splice (A ++ cs ++ B) (A.length + off) xs = A ++ splice cs off xs ++ B := by
  unfold splice
  rw [List.append_assoc A cs B, List.take_length_add_append, Nat.add_assoc, List.drop_length_add_append, List.take_append_of_le_length (by omega), List.drop_append_of_le_length (by omega)]
  simp
theorem AXl.store_opn {t : TypeId} {x y : Operand} {i ver sz k off : Nat} {te : TypeId} {els : List (List D)} {cs xs : List C} (hx : ev pm.Γ st.env x = .c (.rowp i ver sz k off)) (hi : st.heap[i]? = some (.opn te sz els k cs ver))
    (hy : avCells (ev pm.Γ st.env y) = some xs) (hs : (P.info? t).map (·.size) = some xs.length) (hle : off + xs.length ≤ cs.length) (hd : dst = none)
    (hn : AXl P pm ops rest ⟨st.env, st.heap.set i (.opn te sz els k (splice cs off xs) ver)⟩ K) : AXl P pm ops (⟨dst, .store t x y, ty, p, af, none⟩ :: rest) st K := by
  subst hd
  refine AXl.eff rfl fun cx G a w hp s => ?_
  subst hp
  have hc := avCells_ok hy (s.ev y)
  obtain ⟨v0, us, hg, how, hob, hd, hk, hcs, hl⟩ := opnrow_at s.h hi
  obtain ⟨_, v0', n', hg', _, hxx⟩ := (hx ▸ s.ev x : Ar G (.c (.rowp i ver sz k off)) (a.eval x))
  rw [hg] at hg'
  cases hg'
  obtain ⟨b, len, cap, rfl, e1⟩ := hxx rfl
  obtain ⟨hxl, hcase⟩ := how
  rcases hcase with ⟨hcc, _⟩ | ⟨g, cap', cur, hv, hgb, hh, hc1, hc2, hc3, hc4⟩
  · cases hcc
  injection hv with hv hlen' hcap'
  injection hv with hv
  injection hv with hv _ _
  subst hv hlen' hcap'
  have hkk : k * sz + sz ≤ els.length * sz := by
    have : (k + 1) * sz ≤ els.length * sz := Nat.mul_le_mul_right sz (by omega)
    rw [Nat.add_mul] at this; omega
  have hcl : els.length * sz ≤ cap * sz := Nat.mul_le_mul_right sz hc1
  have hul : (a.eval y).cells.toList.length = xs.length := hc.length.symm
  have hrun := run_storeAt (P := P) hs (o := k * sz + off) hh (v := a.eval y) (by simpa using hul) (all2_one hc) (by rw [hc3]; omega)
  refine ⟨undef, w.setRow b (splice cur.toList (k * sz + off) (a.eval y).cells.toList).toArray, G, ⟨st.env, st.heap.set i (.opn te sz els k (splice cs off xs) ver)⟩, .inr ⟨?_, rfl⟩, ⟨?_, s.env, s.N, s.defers⟩, hn⟩
  · simp only [execOp, e1, Sem.run_bind, hrun, Result.andThen_ok, Sem.run_pure]
  · have hpre := opnC_pre (cs := cs) hl hk
    have hcurl : cur.toList.length = cap * sz := by simpa using hc3
    have hspl : (splice cur.toList (k * sz + off) (a.eval y).cells.toList).length = cur.toList.length := splice_len _ _ _ (by omega)
    have htk : (splice cur.toList (k * sz + off) (a.eval y).cells.toList).take (els.length * sz) = splice us (k * sz + off) (a.eval y).cells.toList := by
      rw [← hc4]
      have e2 : cur.toList = cur.toList.take (els.length * sz) ++ cur.toList.drop (els.length * sz) := (List.take_append_drop _ _).symm
      have hlt : (cur.toList.take (els.length * sz)).length = els.length * sz := by rw [List.length_take]; omega
      generalize cur.toList.take (els.length * sz) = A at *
      generalize cur.toList.drop (els.length * sz) = B at *
      rw [e2, splice_left _ _ _ _ (by omega)]
      rw [List.take_append_of_le_length (by rw [splice_len _ _ _ (by omega)]; omega), List.take_of_length_le (by rw [splice_len _ _ _ (by omega)]; omega)]
    refine s.h.upd hi trivial hg (b := b) rfl rfl rfl rfl (by simp [World.setRow]) (fun k hk => setRow_ne _ _ _ _ hk) ⟨rfl, ⟨hk, by rw [splice_len _ _ _ hle]; exact hcs⟩, splice us (k * sz + off) (a.eval y).cells.toList, ⟨?_, .inr ⟨b, cap, _, rfl, hgb, setRow_heap w b _ _ te (0, 0) hh, hc1, hc2, by simpa using hspl.trans hcurl, by simpa using htk⟩⟩, hob, ?_, hl⟩
    · rw [splice_len _ _ _ (by omega)]; exact hxl
    · have := hd.splice hc (k * sz + off)
      rwa [show splice (opnC els k cs) (k * sz + off) xs = opnC els k (splice cs off xs) from by
        unfold opnC
        rw [← hpre]
        exact splice_mid _ _ _ _ _ hle] at this
end Go.Ax

/-
  Composite values, slices made of parts, append, make, and entries that become still. No condition.
-/
namespace Go.Ax
open Go Go.RowKit
variable {P : Program}
/-! ### composite values -/
theorem foldl_set_list (xs : List Value) (off i : Nat) : ∀ (cells : Array Value), off + i + xs.length ≤ cells.size →
    ((xs.zipIdx i).foldl (fun cs (c, j) => cs.setIfInBounds (off + j) c) cells).toList = splice cells.toList (off + i) xs := by
  induction xs generalizing i with
  | nil => intro cells _; simp [splice]
  | cons x xs ih =>
    intro cells hle
    simp only [List.length_cons] at hle
    rw [List.zipIdx_cons, List.foldl_cons, ih (i + 1) _ (by simp; omega)]
    apply List.ext_getElem?
    intro j
    have s1 := splice_get (cells.setIfInBounds (off + i) x).toList xs (off + (i + 1)) j (by simp; omega)
    have s2 := splice_get cells.toList (x :: xs) (off + i) j (by simp; omega)
    rw [s1, s2]
    simp only [Array.toList_setIfInBounds, List.getElem?_set, List.length_cons]
    by_cases h1 : j < off + i
    · rw [if_pos (by omega), if_neg (by omega), if_pos h1]
    · by_cases h2 : j = off + i
      · subst h2
        rw [if_pos (by omega), if_pos rfl, if_pos (by simp; omega), if_neg (by omega), if_pos (by omega)]
        simp
      · rw [if_neg (by omega), if_neg h1]
        by_cases h3 : j < off + i + (xs.length + 1)
        · rw [if_pos (by omega), if_pos h3]
          rw [show j - (off + i) = (j - (off + (i + 1))) + 1 from by omega]
          simp
        · rw [if_neg (by omega), if_neg h3, if_neg (by omega)]
theorem fill_step (place : Nat → Option (Nat × Nat)) (cells : Array Value) (i off size : Nat) (v : Value) (r : List (Nat × Value)) (hp : place i = some (off, size)) (hv : v.cells.size = size) (hle : off + size ≤ cells.size) :
    Instr.fill place cells ((i, v) :: r) = Instr.fill place (splice cells.toList off v.cells.toList).toArray r := by
  have e : (v.cells.zipIdx.foldl (fun cs (c, j) => cs.setIfInBounds (off + j) c) cells) = (splice cells.toList off v.cells.toList).toArray := by
    apply Array.ext'
    have := foldl_set_list v.cells.toList off 0 cells (by simp [hv]; omega)
    rw [Nat.add_zero] at this
    rw [← this, ← Array.foldl_toList]
    simp
  have hc : ¬ ((v.cells.size ≠ size || off + v.cells.size > cells.size) = true) := by simp [hv]; omega
  simp only [Instr.fill, hp]
  rw [if_neg (by simpa using hc)]
  rw [e]
def fillC (place : Nat → Option (Nat × Nat)) (cells : List C) : List (Nat × AV) → Option (List C)
  | [] => some cells
  | (i, α) :: r => match place i, avCells α with
    | some (off, size), some xs => if xs.length = size ∧ off + size ≤ cells.length then fillC place (splice cells off xs) r else none
    | _, _ => none
theorem fill_ok {G : Gh} {place : Nat → Option (Nat × Nat)} : ∀ (parts : List (Nat × AV)) (vals : List (Nat × Value)) (cells cs' : List C) (vs : List Value), All2 (Cr G) cells vs →
    All2 (fun (x : Nat × AV) (y : Nat × Value) => x.1 = y.1 ∧ Ar G x.2 y.2) parts vals → fillC place cells parts = some cs' → ∃ vs', Instr.fill place vs.toArray vals = some vs'.toArray ∧ All2 (Cr G) cs' vs'
  | [], vals, cells, cs', vs, hc, hp, hf => by
    cases hp
    cases hf
    exact ⟨vs, rfl, hc⟩
  | (i, α) :: r, vals, cells, cs', vs, hc, hp, hf => by
    cases hp with
    | @cons _ y _ vals h t =>
      obtain ⟨i', v⟩ := y
      obtain ⟨rfl, hr⟩ := h
      simp only [fillC] at hf
      split at hf
      · next off size xs h1 h2 =>
        split at hf
        · next h3 =>
          have hx := avCells_ok h2 hr
          have hvs : v.cells.size = size := by rw [← h3.1, hx.length]; simp
          obtain ⟨vs', e, hc'⟩ := fill_ok r vals _ cs' _ (hc.splice hx off) t hf
          refine ⟨vs', ?_, hc'⟩
          rw [fill_step place vs.toArray i off size v vals h1 hvs (by simp [← hc.length]; exact h3.2)]
          exact e
        · cases hf
      · cases hf
def plFs (P : Program) : List Field → Option (List (Nat × Nat))
  | [] => some []
  | f :: r => match (P.info? f.type).map (·.size), plFs P r with
    | some n, some l => some ((f.offset, n) :: l)
    | _, _ => none
def plT (P : Program) (t : TypeId) : Option (List (Nat × Nat)) :=
  match P.underlying t with
  | some (.struct fs) => plFs P fs.toList
  | some (.array n e) => ((P.info? e).map (·.size)).map fun sz => (List.range n).map fun i => (i * sz, sz)
  | _ => none
theorem fillC_mono {p1 p2 : Nat → Option (Nat × Nat)} (hp : ∀ i q, p1 i = some q → p2 i = some q) : ∀ (parts : List (Nat × AV)) (cells cs : List C), fillC p1 cells parts = some cs → fillC p2 cells parts = some cs
  | [], cells, cs, h => h
  | (i, α) :: r, cells, cs, h => by
    simp only [fillC] at h ⊢
    split at h
    · next off size xs h1 h2 =>
      rw [hp _ _ h1, h2]
      simp only
      split at h
      · next hc => rw [if_pos hc]; exact fillC_mono hp r _ _ h
      · cases h
    · cases h
theorem run_places : ∀ (fs : List Field) (pl : List (Nat × Nat)) (w : World), plFs P fs = some pl →
    (fs.mapM (m := Sem) fun f => do pure (f.offset, ← sizeOf f.type)).run P w = .ok pl w
  | [], pl, w, h => by
    cases h
    rfl
  | f :: fs, pl, w, h => by
    simp only [plFs] at h
    split at h
    · next n l h1 h2 =>
      cases h
      have ih := run_places fs l w h2
      have hsz := run_sizeOf' (P := P) h1 w
      simp only [List.mapM_cons, Sem.run_bind, hsz, Result.andThen_ok, Sem.run_pure, ih]
    · cases h
theorem parts_ok {G : Gh} {ρ : Operand → AV} {a : Act} : ∀ (ps : List (Nat × Operand)), (∀ x ∈ ps.map (·.2), Ar G (ρ x) (a.eval x)) → All2 (fun (x : Nat × AV) (y : Nat × Value) => x.1 = y.1 ∧ Ar G x.2 y.2) (ps.map fun x => (x.1, ρ x.2)) (ps.map fun x => (x.1, a.eval x.2))
  | [], _ => .nil
  | p :: ps, h => .cons ⟨rfl, h _ (by simp)⟩ (parts_ok ps fun x hx => h x (by simp at hx ⊢; exact .inr hx))
variable {h : List LB} {ρ : Operand → AV} {dst : Option Tmp} {ty : TypeId} {p : String} {af : Array Edge} {gd : Option (Nat × Bool)}
theorem s_build (t : TypeId) (ps : List (Nat × Operand)) {pl : List (Nat × Nat)} {zc cs : List C} (hp : plT P t = some pl) (hz : zeroC P t = some zc) (hf : fillC (pl[·]?) zc (ps.map fun x => (x.1, ρ x.2)) = some cs) :
    Still P h ⟨dst, .build t ps.toArray, ty, p, af, gd⟩ ρ (.agg cs) := by
  intro cx G w a s ho
  obtain ⟨z, hr, hc, _⟩ := zeroC_ok hz G w
  unfold plT at hp
  split at hp
  · next fs hu =>
    obtain ⟨vs', e, hc'⟩ := fill_ok _ _ _ cs _ hc (parts_ok (G := G) (a := a) ps fun x hx => ho x (by simpa [Op.operands] using hx)) hf
    have h1 := run_places fs.toList pl w hp
    refine ⟨.agg vs'.toArray, ?_, vs', rfl, hc'⟩
    have hm : (fs.mapM (m := Sem) fun f => do pure (f.offset, ← sizeOf f.type)).run P w = .ok pl.toArray w := by
      rw [Array.mapM_eq_mapM_toList]
      simp only [Sem.run_map, h1, Result.andThen_ok]
    have e' : Instr.fill (fun i => pl.toArray[i]?) z.cells (List.map (fun x => (x.1, a.eval x.2)) ps) = some vs'.toArray := by
      simpa using e
    simp only [execOp, Instr.build, Sem.run_bind, hr, Result.andThen_ok, run_underlying hu, hm, List.map_toArray]
    simp only [e']
    simp
  · next n el hu =>
    cases hi : (P.info? el).map (·.size) with
    | none => rw [hi] at hp; cases hp
    | some sz =>
      rw [hi] at hp
      cases hp
      have hf2 := fillC_mono (p2 := fun i => some (i * sz, sz)) (fun i q hq => by
        rw [List.getElem?_map] at hq
        cases hr : (List.range n)[i]? with
        | none => rw [hr] at hq; cases hq
        | some j =>
          rw [hr] at hq
          have : j = i := by
            have hlt := getElem?_lt hr
            rw [List.getElem?_range (by simpa using hlt)] at hr
            cases hr; rfl
          subst this
          exact hq) _ _ _ hf
      obtain ⟨vs', e, hc'⟩ := fill_ok _ _ _ cs _ hc (parts_ok (G := G) (a := a) ps fun x hx => ho x (by simpa [Op.operands] using hx)) hf2
      refine ⟨.agg vs'.toArray, ?_, vs', rfl, hc'⟩
      have hsz := run_sizeOf' (P := P) hi w
      have e' : Instr.fill (fun i => some (i * sz, sz)) z.cells (List.map (fun x => (x.1, a.eval x.2)) ps) = some vs'.toArray := by
        simpa using e
      simp only [execOp, Instr.build, Sem.run_bind, hr, Result.andThen_ok, run_underlying hu, hsz, List.map_toArray]
      simp only [e']
      simp
  · cases hp
end Go.Ax
