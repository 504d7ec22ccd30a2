/- A statement's row from a contract: what the arguments read as, the listed variables, and what is so behind the call. No condition. -/
import Derived.Test.YtimehiamdikinaaAxW
import Derived.OpenShut
import Derived.Below
import Derived.Carry
import Derived.ChangeSame
set_option linter.all false
namespace Go.Ax
open Go Go.RowKit Go.ChangeShapes Go.WideShapes

section
variable {H : Type} {enc : TypeId × Value → H} {P : Program} {w : World} {base : Nat} {spare : Nat → Bool} {held : Bool}
theorem arg_one {t : TypeId} {v : Value} {d : DataW H} {ps : List MemPlace} (n : Nat) {s : Cs} (hv : v.cells = #[v]) (hsh : shape P n t = some [s]) (h : DataW.Trod enc P w base spare held t v d ps) :
    ∃ x, FitC s x ∧ Ar ⟨wV w, []⟩ (.c (.d x)) v := by
  obtain ⟨fuel, hf⟩ := h
  obtain ⟨ds, h1⟩ := read_ok n t _ hsh fuel _ _ hf
  rw [hv] at h1
  match ds, h1.dr, h1.fit with
  | [x], hd, hfit =>
    cases hd with | cons a _ => cases hfit with | cons b _ => exact ⟨x, b, a⟩
theorem arg_agg {t : TypeId} {cs : Array Value} {d : DataW H} {ps : List MemPlace} (n : Nat) {sh : List Cs} (hsh : shape P n t = some sh) (h : DataW.Trod enc P w base spare held t (.agg cs) d ps) :
    ∃ ds, All2 FitC sh ds ∧ Ar ⟨wV w, []⟩ (.agg (ds.map C.d)) (.agg cs) := by
  obtain ⟨fuel, hf⟩ := h
  obtain ⟨ds, h1⟩ := read_ok n t _ hsh fuel _ _ hf
  refine ⟨ds, h1.fit, cs.toList, by simp, All2.map_left ?_⟩
  exact h1.dr
theorem cells_slice {r : Reach} {b0 : Nat} {t e : TypeId} {v : Value} (ht : P.underlying t = some (.slice e)) (h : Value.okWide P w r b0 t v) : v.cells = #[v] := by
  cases v <;> first | rfl | (simp [Value.okWide, ht, Cell.okWide, Cell.ok] at h)
theorem cells_string {r : Reach} {b0 : Nat} {t : TypeId} {v : Value} (ht : P.underlying t = some .string) (h : Value.okWide P w r b0 t v) : v.cells = #[v] := by
  cases v <;> first | rfl | (simp [Value.okWide, ht, Cell.okWide, Cell.ok] at h)
theorem cells_int {r : Reach} {b0 : Nat} {t : TypeId} {k : IntKind} {v : Value} (ht : P.underlying t = some (.int k)) (h : Value.okWide P w r b0 t v) : v.cells = #[v] := by
  cases v <;> first | rfl | (simp [Value.okWide, ht, Cell.okWide, Cell.ok] at h)
theorem cells_bool {r : Reach} {b0 : Nat} {t : TypeId} {v : Value} (ht : P.underlying t = some .bool) (h : Value.okWide P w r b0 t v) : v.cells = #[v] := by
  cases v <;> first | rfl | (simp [Value.okWide, ht, Cell.okWide, Cell.ok] at h)
end

/-! ### what fits -/
theorem fit_int {k : IntKind} {x : D} (h : FitC (.int k) x) : ∃ n, x = .int k n ∧ (Lit.int k n).wf = true := by cases h; exact ⟨_, rfl, by assumption⟩
theorem fit_bool {x : D} (h : FitC .bool x) : ∃ b, x = .bool b := by cases h; exact ⟨_, rfl⟩
theorem fit_str {x : D} (h : FitC .str x) : ∃ l, x = .str l ∧ l.length ≤ maxLen := by cases h; exact ⟨_, rfl, by assumption⟩
theorem fit_u8 {x : D} (h : FitC (.int .u8) x) : ∃ c : UInt8, x = .int .u8 c.toNat := by
  obtain ⟨n, rfl, hw⟩ := fit_int h
  have hx : 0 ≤ n ∧ n ≤ 255 := by simpa [Lit.wf, IntKind.min, IntKind.max, IntKind.signed, IntKind.bits] using hw
  refine ⟨n.toNat.toUInt8, ?_⟩
  congr 1
  simp; omega
theorem fit_i64 {x : D} (h : FitC (.int .i64) x) : ∃ n : Int, x = .int .i64 n ∧ -9223372036854775808 ≤ n ∧ n ≤ 9223372036854775807 := by
  obtain ⟨n, rfl, hw⟩ := fit_int h
  have hx : -9223372036854775808 ≤ n ∧ n ≤ 9223372036854775807 := by simpa [Lit.wf, IntKind.min, IntKind.max, IntKind.signed, IntKind.bits] using hw
  exact ⟨n, rfl, hx⟩
theorem fit_lst {el : List Cs} {x : D} (h : FitC (.lst el) x) : ∃ els, x = .lst el.length els ∧ ∀ e ∈ els, All2 FitC el e := by
  cases h with
  | lst _ els h1 h2 =>
    refine ⟨els, rfl, fun e he => ?_⟩
    obtain ⟨i, hi, rfl⟩ := List.getElem_of_mem he
    have hg := List.getElem?_eq_getElem hi
    exact All2.of_get (h1 i _ hg).symm fun j s d hs hd => h2 i _ j s d hg hs hd
theorem exists_list {α : Type} {ds : α → List D} : ∀ {els : List (List D)}, (∀ e ∈ els, ∃ x, e = ds x) → ∃ xs : List α, els = xs.map ds
  | [], _ => ⟨[], rfl⟩
  | e :: r, h => by
    obtain ⟨x, rfl⟩ := h e (by simp)
    obtain ⟨xs, rfl⟩ := exists_list (els := r) fun e he => h e (by simp [he])
    exact ⟨x :: xs, rfl⟩

/-! ### flat variables -/
def D.toV : D → Value
  | .int k n => .int k n
  | .bool b => .bool b
  | .str l => .string ⟨l.toArray⟩
  | .raw v => v
  | .lst _ _ => .slice none 0 0
def D.flat : D → Bool
  | .int _ _ | .bool _ | .str _ => true
  | _ => false
theorem D.dr {V : Vw} : ∀ {x : D}, x.flat = true → Dr V x x.toV
  | .int k n, _ => .int k n
  | .bool b, _ => .bool b
  | .str l, _ => .str l
  | .raw _, h => by cases h
  | .lst _ _, h => by cases h
def Lit.toV : Lit → List Value
  | .bool b => [.bool b]
  | .int k n => [.int k n]
  | .string l => [.string ⟨l.toArray⟩]
  | _ => []
def flatV {H : Type} : Nat → DataW H → List Value
  | 0, _ => []
  | _ + 1, .lit l => Lit.toV l
  | n + 1, .agg ps => ps.flatMap (flatV n)
  | _, _ => []
def flatFs (P : Program) (r : TypeId → Bool) : List Field → Nat → Option Nat
  | [], off => some off
  | f :: fs, off => if f.offset = off ∧ r f.type = true then flatFs P r fs (off + P.cellsOf f.type) else none
def flatT (P : Program) : Nat → TypeId → Bool
  | 0, _ => false
  | n + 1, t => match P.underlying t with
    | some .bool => true
    | some (.int _) => true
    | some .string => true
    | some (.struct fs) => flatFs P (flatT P n) fs.toList 0 == some (P.cellsOf t)
    | some (.array m e) => flatT P n e && (m * P.cellsOf e == P.cellsOf t)
    | _ => false

section
variable {H : Type} {enc : TypeId × Value → H} {P : Program} {w : World} {base : Nat} {spare : Nat → Bool} {held : Bool}
theorem flat_fields {r : TypeId → Bool} {n : Nat} {g : TypeId → List Value → Option (DataW H × List MemPlace)} {cs : List Value} (hr : ∀ t cs x, r t = true → g t cs = some x → cs = flatV n x.1) :
    ∀ (fs : List Field) (off : Nat) (e : Nat) (xs : List (DataW H × List MemPlace)), flatFs P r fs off = some e → xs.length = fs.length → (∀ (i : Nat) (f : Field), fs[i]? = some f → g f.type ((cs.drop f.offset).take (P.cellsOf f.type)) = xs[i]?) →
      off ≤ e ∧ (cs.drop off).take (e - off) = xs.flatMap fun x => flatV n x.1
  | [], off, e, xs, h, hl, _ => by
    cases h
    match xs, hl with
    | [], _ => simp
  | f :: fs, off, e, xs, h, hl, hx => by
    unfold flatFs at h
    split at h
    · next hc =>
      match xs, hl with
      | x :: xs, hl =>
        have h1 := hx 0 f rfl
        simp only [List.getElem?_cons_zero] at h1
        have h2 := hr _ _ _ hc.2 h1
        obtain ⟨h3, h4⟩ := flat_fields hr fs _ e xs h (by simpa using hl) fun i f' hf' => by simpa using hx (i + 1) f' (by simpa using hf')
        refine ⟨by omega, ?_⟩
        rw [List.flatMap_cons, ← h2, ← h4, hc.1, show e - off = P.cellsOf f.type + (e - (off + P.cellsOf f.type)) by omega, List.take_add, List.drop_drop]
    · cases h

theorem flat_ok : ∀ (n : Nat) (t : TypeId), flatT P n t = true → ∀ (fuel : Nat) (cs : List Value) (x : DataW H × List MemPlace), DataW.trod enc P w base spare held fuel t cs = some x → cs = flatV n x.1
  | 0, _, h, _, _, _, _ => by cases h
  | n + 1, t, h, fuel, cs, x, hx => by
    unfold flatT at h
    split at h
    · next hu => obtain ⟨b, rfl, rfl⟩ := DataW.trod_bool hu hx; rfl
    · next k hu => obtain ⟨m, rfl, rfl, hw⟩ := DataW.trod_int hu hx; rfl
    · next hu =>
      obtain ⟨s, rfl, rfl, hs⟩ := DataW.trod_string hu hx
      simp only [flatV, Lit.toV]
    · next fs hu =>
      obtain ⟨xs, m, rfl, rfl, hlen, hxl, hat⟩ := DataW.trod_struct hu hx
      have h' : flatFs P (flatT P n) fs.toList 0 = some (P.cellsOf t) := by simpa using h
      obtain ⟨_, h2⟩ := flat_fields (n := n) (g := DataW.trod enc P w base spare held m) (cs := cs) (fun t cs x h1 h2 => flat_ok n t h1 m cs x h2) fs.toList 0 _ xs h' (by simpa using hxl) fun i f hf => hat i f (by simpa using hf)
      rw [List.drop_zero, Nat.sub_zero, List.take_of_length_le (by omega)] at h2
      simp only [flatV]
      rw [h2, List.flatMap_map]
    · next m e hu =>
      obtain ⟨xs, q, rfl, rfl, hlen, hxl, hat⟩ := DataW.trod_array hu hx
      simp only [Bool.and_eq_true, beq_iff_eq] at h
      have key : ∀ (k : Nat), k ≤ m → cs.take (k * P.cellsOf e) = (xs.take k).flatMap fun x => flatV n x.1 := by
        intro k
        induction k with
        | zero => intro _; simp
        | succ k ih =>
          intro hk
          have hkx : k < xs.length := by omega
          have h1 := hat k (by omega)
          rw [List.getElem?_eq_getElem hkx] at h1
          have h2 := flat_ok n e h.1 q _ _ h1
          rw [take_next hkx, List.flatMap_append, ← ih (by omega), Nat.succ_mul, List.take_add]
          simp only [List.flatMap_cons, List.flatMap_nil, List.append_nil]
          rw [← h2]
      have := key m (Nat.le_refl _)
      rw [List.take_of_length_le (by rw [hlen, h.2]; exact Nat.le_refl _), List.take_of_length_le (by omega)] at this
      simp only [flatV]
      rw [List.flatMap_map]; exact this
    · cases h
end

/-- A listed variable of plain cells: its cells stand in its block. -/
theorem glob_flat {P : Program} {W : World} {name : String} {dat : DataW Unit} {g : Nat} {t : TypeId} {ds : List D} (n : Nat) (hg : P.globalNamed name = some g) (ht : (P.globals[g]?).map (·.type) = some t) (hfl : flatT P n t = true)
    (hds : flatV n dat = ds.map D.toV) (hf : ds.all D.flat = true) (h : ∃ ps, DataW.LaidVars P W [(name, dat)] ps) : Cr ⟨wV W, []⟩ (.ptr ds) (.pointer (some ⟨g, 0, none⟩)) := by
  obtain ⟨ps, g', t', cs, fuel, p, q, h1, h2, h3, h4, _⟩ := h
  rw [hg] at h1; cases h1
  rw [ht] at h2; cases h2
  have e := flat_ok n t hfl fuel _ _ h4
  simp only [hds] at e
  unfold World.var? at h3
  rw [hg] at h3
  simp only [Option.bind_some] at h3
  split at h3
  · next c tt fr hh =>
    cases h3
    refine ⟨⟨g, 0, none⟩, fun j => (cs.toList.getD j undef), rfl, fun j c hj => ?_⟩
    have hlt := getElem?_lt hj
    have hjv : cs.toList[j]? = some c.toV := by rw [e, List.getElem?_map, hj]; rfl
    have hget : cs.toList.getD j undef = c.toV := by rw [List.getD_eq_getElem?_getD, hjv]; rfl
    refine ⟨?_, ?_⟩
    · rw [add_plain]
      simp only [cellIn, wV, hh, Nat.zero_add]
      have : cs[j]? = some c.toV := by simpa using hjv
      rw [hget]; simpa using this
    · show Dr (wV W) c (cs.toList.getD j undef)
      rw [hget]
      exact D.dr (by rw [List.all_eq_true] at hf; exact hf c (List.mem_of_getElem? hj))
  · cases h3

theorem viewOk_world {Γ : List (Nat × List D)} {W : World} (hg : ∀ p, p ∈ Γ → Cr ⟨wV W, []⟩ (.ptr p.2) (.pointer (some ⟨p.1, 0, none⟩))) : ViewOk Γ (wV W) W :=
  ⟨fun _ _ h => h, fun _ h => h, hg⟩

theorem trodAll_carry {H : Type} {enc : TypeId × Value → H} {P : Program} (hl : laidOutB P = true) {W W' : World} (hb : Below W.heap.size W W') : ∀ {ts : List TypeId} {vs : List Value} {ds : List (DataW H)} {ps : List MemPlace},
    (∀ t ∈ ts, P.readableRec t = true ∧ t < P.types.size) → DataW.TrodAll enc P W 0 (fun _ => true) true ts vs ds ps → (∀ x ∈ ps, x.block < W.heap.size) → DataW.TrodAll enc P W' 0 (fun b => decide (b < W.heap.size)) true ts vs ds ps
  | [], [], [], ps, _, h, _ => h
  | t :: ts, v :: vs, d :: ds, ps, hr, h, hlt => by
    obtain ⟨p, q, h1, h2, rfl⟩ := h
    exact ⟨p, q, Below.trod hl (hr t (by simp)).1 (hr t (by simp)).2 h1 hb (fun x hx => hlt x (by simp [hx])), trodAll_carry hl hb (fun t ht => hr t (by simp [ht])) h2 (fun x hx => hlt x (by simp [hx])), rfl⟩
  | [], _ :: _, _, _, _, h, _ => h.elim
  | [], [], _ :: _, _, _, h, _ => h.elim
  | _ :: _, [], _, _, _, h, _ => h.elim
  | _ :: _, _ :: _, [], _, _, h, _ => h.elim

theorem ok_bool {P : Program} {W' : World} {t : TypeId} (ht : P.underlying t = some .bool) (b : Bool) : Value.okWide P W' .any 0 t (.bool b) := by
  simp [Value.okWide, ht, Cell.okWide, Cell.ok]

/-- FROM A CONTRACT TO A LAW's ROW: the call returns true, and each argument reads as it did. -/
theorem law_post {H : Type} {enc : TypeId × Value → H} {P : Program} {f : FuncId} {fn : Func} {s : ChangeSpec} {Γ : List (Nat × List D)} {args' : List AV} {W : World} {args : Array Value} {ds gs : List (DataW H)} {before : List MemPlace} {tb : TypeId}
    (hW : DataW.Whole enc P fn.params.toList s.vars false W args.toList ds gs before) (hv : s.vars = []) (hres : fn.resultTypes = #[tb]) (htb : P.underlying tb = some .bool)
    (hfn : s.fn H ds = { results := [.lit (.bool true)], args := ds }) (hl : laidOutB P = true) (hr : ∀ t ∈ fn.params.toList, P.readableRec t = true ∧ t < P.types.size)
    (hA : AFn P Γ f args' [.d (.bool true)]) (hΓ : ViewOk Γ (wV W) W) (hargs : All2 (Ar ⟨wV W, []⟩) args' args.toList) :
    Calls P f args W fun e W' => ∃ v, e = .returned v ∧ s.post enc P fn false true false false W args v W' := by
  have hcall := hA.run (wV W) W args.toList hΓ hargs
  rw [show args.toList.toArray = args by simp] at hcall
  refine hcall.mono fun e W' ⟨V', vs, he, hle, hview, himm, hrs, hb⟩ => ?_
  have hvs : vs = [.bool true] := by
    cases hrs with
    | cons h1 h2 => cases h2; rw [dr_bool h1]
  subst hvs
  subst he
  have hW0 := hW
  obtain ⟨p, q, hA0, hV, rfl, hfz, hnd⟩ := hW
  rw [hv] at hV
  obtain ⟨rfl, rfl⟩ := trodVars_none hV
  have hlt : ∀ x ∈ p, x.block < W.heap.size := fun x hx => hW0.lt x (by simpa using hx)
  refine ⟨_, rfl, ds, [], p ++ [], [], p, [], hW0, ?_, ?_, ?_, World.keptBut_mono (fun p' hp => ⟨hp, ?_⟩) (hb.frame (· ∈ p ++ [])), fun h => (by cases h)⟩
  all_goals simp only [List.append_nil] at *
  · rw [hfn, hres]
    exact trodAll_cons_mk (shut_bool htb true) trodAll_mk0
  · rw [hfn]
    exact trodAll_carry hl hb hr hA0 hlt
  · rw [hfn, hv]; rfl
  · exact Or.inr (by simpa using hp)
end Go.Ax
