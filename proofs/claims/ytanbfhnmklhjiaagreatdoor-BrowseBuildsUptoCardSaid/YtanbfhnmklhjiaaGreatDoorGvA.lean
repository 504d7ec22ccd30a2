/- Part of a proof about this program; no condition of its own. -/
import Derived.Test.YtanbfhnmklhjiaaGreatDoorGxB
import Derived.Test.YtanbfhnmklhjiaaGreatDoorRows
import Derived.Test.YtanbfhnmklhjiaaGreatDoorGwL
import Derived.Test.YtanbfhnmklhjiaaGreatDoorGxD
import Derived.Test.YtanbfhnmklhjiaaGreatDoorCards
import Derived.Test.YtanbfhnmklhjiaaGreatDoorTie
import Derived.WalkKit
import Derived.ProofKit
import Derived.OpenShut
import Derived.Deep.DeepHandedRow
import Derived.Deep.DeepWitnessRowRef
set_option linter.all false
/- Arguments of a statement on what is not too great, read as closed data. No condition. -/
namespace Go.Ax
open Go Go.RowKit Go.Proofs.YtanbfhnmklhjiaaGreatDoor.Rows
theorem bulk_str {H : Type} (b : List UInt8) : uptoBulk (.lit (.string b) : DataW H) = b.length + 1 := by simp [uptoBulk]
theorem bulk_slice {H : Type} (es sp : List (DataW H)) : uptoBulk (.slice es sp) = uptoBulkAll es + uptoBulkAll sp + 1 := by simp [uptoBulk]
theorem bulk_agg {H : Type} (es : List (DataW H)) : uptoBulk (.agg es) = uptoBulkAll es + 1 := by simp [uptoBulk]
theorem bulk_cons {H : Type} (d : DataW H) (r : List (DataW H)) : uptoBulkAll (d :: r) = uptoBulk d + uptoBulkAll r := by simp [uptoBulkAll]
theorem bulk_mem {H : Type} {d : DataW H} : ∀ {l : List (DataW H)}, d ∈ l → uptoBulk d ≤ uptoBulkAll l
  | [], h => by cases h
  | x :: r, h => by
    rw [bulk_cons]
    rcases List.mem_cons.1 h with rfl | h
    · omega
    · have := bulk_mem h; omega
theorem bulk_pos {H : Type} (d : DataW H) : 1 ≤ uptoBulk d := by
  cases d with
  | lit l => cases l <;> simp [uptoBulk]
  | _ => simp [uptoBulk]
theorem bulk_len {H : Type} : ∀ l : List (DataW H), l.length ≤ uptoBulkAll l
  | [] => by simp
  | x :: r => by
    have h1 := bulk_pos x
    have h2 := bulk_len r
    rw [bulk_cons, List.length_cons]; omega
/-- A datum is of a shape, and all in it is of a bound. -/
inductive FitB (K : Nat) : Cs → D → Prop where
  | int (k : IntKind) (n : Int) (h : (Lit.int k n).wf = true) : FitB K (.int k) (.int k n)
  | bool (b : Bool) : FitB K .bool (.bool b)
  | str (l : List UInt8) (h : l.length ≤ K) : FitB K .str (.str l)
  | lst (el : List Cs) (els : List (List D)) (h0 : els.length ≤ K) (h1 : ∀ (i : Nat) (e : List D), els[i]? = some e → e.length = el.length) (h2 : ∀ (i : Nat) (e : List D) (j : Nat) (s : Cs) (d : D), els[i]? = some e → el[j]? = some s → e[j]? = some d → FitB K s d) : FitB K (.lst el) (.lst el.length els)
variable {H : Type} {enc : TypeId × Value → H} {P : Program} {w : World} {base : Nat} {spare : Nat → Bool} {held : Bool} {K : Nat}
structure ReadsB (K : Nat) (w : World) (sh : List Cs) (cs : List Value) (ds : List D) : Prop where
  dr : All2 (Dr (wV w)) ds cs
  fit : All2 (FitB K) sh ds
theorem read_fieldsB {r : TypeId → Option (List Cs)} {g : TypeId → List Value → Option (DataW H × List MemPlace)} {cs : List Value} (hr : ∀ t cs x sh, r t = some sh → g t cs = some x → uptoBulk x.1 ≤ K → ∃ ds, ReadsB K w sh cs ds) : ∀ (fs : List Field) (off : Nat) (sh : List Cs), shapeFs P r fs off = some sh →
    (∀ f ∈ fs, ∃ y, g f.type ((cs.drop f.offset).take (P.cellsOf f.type)) = some y ∧ uptoBulk y.1 ≤ K) → ∃ ds, ReadsB K w sh ((cs.drop off).take sh.length) ds
  | [], off, sh, h, _ => by cases h; exact ⟨[], by simp; exact .nil, .nil⟩
  | f :: fs, off, sh, h, hy => by
    unfold shapeFs at h
    split at h
    · next ho =>
      split at h
      · next a ha =>
        split at h
        · next hl =>
          cases e : shapeFs P r fs (off + a.length) with
          | none => simp [e] at h
          | some b =>
            simp only [e, Option.map_some, Option.some.injEq] at h
            subst h
            obtain ⟨y, hy1, hy2⟩ := hy f (by simp)
            obtain ⟨d1, h1⟩ := hr _ _ _ _ ha hy1 hy2
            obtain ⟨d2, h2⟩ := read_fieldsB hr fs _ b e fun f' hf' => hy f' (by simp [hf'])
            refine ⟨d1 ++ d2, ?_, h1.fit.append h2.fit⟩
            have := h1.dr.append h2.dr
            rw [ho, ← hl] at this
            rwa [List.length_append, List.take_add, List.drop_drop]
        · cases h
      · cases h
    · cases h

theorem read_okB (hK : K ≤ maxLen) : ∀ (n : Nat) (t : TypeId) (sh : List Cs), shape P n t = some sh → ∀ (fuel : Nat) (cs : List Value) (x : DataW H × List MemPlace), DataW.trod enc P w base spare held fuel t cs = some x → uptoBulk x.1 ≤ K → ∃ ds, ReadsB K w sh cs ds
  | 0, _, _, h, _, _, _, _, _ => by cases h
  | n + 1, t, sh, h, fuel, cs, x, hx, hb0 => by
    unfold shape at h
    split at h
    · next hu => cases h; obtain ⟨b, rfl, _⟩ := DataW.trod_bool hu hx; exact ⟨[.bool b], .cons (.bool b) .nil, .cons (.bool b) .nil⟩
    · next k hu => cases h; obtain ⟨m, rfl, _, hw⟩ := DataW.trod_int hu hx; exact ⟨[.int k m], .cons (.int k m) .nil, .cons (.int k m hw) .nil⟩
    · next hu =>
      cases h; obtain ⟨s, rfl, rfl, hs⟩ := DataW.trod_string hu hx
      have hb1 := bulk_str (H := H) s.data.toList
      refine ⟨[.str s.data.toList], .cons ?_ .nil, .cons (.str _ (by simp only at hb0; omega)) .nil⟩
      have := Dr.str (V := wV w) s.data.toList
      rwa [byteArray_eta] at this
    · next e hu =>
      split at h
      · next el hel =>
        split at h
        · next hpos =>
          cases h
          rcases DataW.trod_slice hu hx with ⟨rfl, _⟩ | ⟨a, len, cap, elems, rest, m, _, rfl, rfl, hb, hlc, hcm, hlen, hat, _⟩
          · refine ⟨[.lst el.length []], .cons ((NilTo.nil el.length).dr (Dr.raw _ rfl)) .nil, .cons (FitB.lst el [] (Nat.zero_le _) (fun i e he => nomatch he) (fun i e j s d he => nomatch he)) .nil⟩
          · have hbs := bulk_slice (elems.map (·.1)) (rest.map (·.1))
            have hbl := bulk_len (elems.map (·.1))
            rw [List.length_map] at hbl
            simp only at hb0
            have key : ∀ i, i < len → ∃ ds : List D, ∃ cs', w.cells? base (a.add (i * P.cellsOf e)) (P.cellsOf e) = some cs' ∧ ReadsB K w el cs' ds := fun i hi => by
              have h1 := hat i hi
              rw [List.getElem?_eq_getElem (by omega)] at h1
              obtain ⟨cs', h2, h3⟩ := Option.bind_eq_some_iff.1 h1
              have hm := bulk_mem (List.mem_map.2 ⟨elems[i]'(by omega), List.getElem_mem _, rfl⟩ : (elems[i]'(by omega)).1 ∈ elems.map (·.1))
              obtain ⟨ds, h4⟩ := read_okB hK n e el hel _ _ _ h3 (by omega)
              exact ⟨ds, cs', h2, h4⟩
            let f : Nat → List D := fun i => if h : i < len then Classical.choose (key i h) else []
            have hf : ∀ i, i < len → ∃ cs', w.cells? base (a.add (i * P.cellsOf e)) (P.cellsOf e) = some cs' ∧ ReadsB K w el cs' (f i) := fun i hi => by
              have := Classical.choose_spec (key i hi)
              simp only [f, dif_pos hi]; exact this
            have hget : ∀ (i : Nat) (x : List D), ((List.range len).map f)[i]? = some x → i < len ∧ x = f i := fun i x hix => by
              have hlt := getElem?_lt hix
              simp only [List.length_map, List.length_range] at hlt
              simp [hlt] at hix
              exact ⟨hlt, hix.symm⟩
            have hall : ∀ (i : Nat) (x : List D), ((List.range len).map f)[i]? = some x → x.length = el.length ∧ ∀ (j : Nat) (c : D), x[j]? = some c → ∃ v, w.cell? (a.add (i * el.length + j)) = some v ∧ Dr (wV w) c v := fun i x hix => by
              obtain ⟨hi, rfl⟩ := hget i x hix
              obtain ⟨cs', h1, h2⟩ := hf i hi
              obtain ⟨h3, h4⟩ := cells_get h1
              refine ⟨h2.fit.length.symm, fun j c hj => ?_⟩
              obtain ⟨v, hv, hd⟩ := h2.dr.get j c hj
              have := h4 j v hv
              rw [add_add, ← hpos.2] at this
              exact ⟨v, this, hd⟩
            have hL : ((List.range len).map f).length = len := by simp
            have hdr : Dr (wV w) (.lst el.length ((List.range len).map f)) (.slice (some a) ((List.range len).map f).length cap) := by
              refine Dr.lst el.length _ (some a) cap (fun i j => (w.cell? (a.add (i * el.length + j))).getD undef) (by rw [hL]; exact hlc) hcm (fun x hx => ?_) (fun hn => ?_) (fun i x j c h1 h2 => ?_)
              · obtain ⟨i, hi, rfl⟩ := List.getElem_of_mem hx
                exact (hall i _ (List.getElem?_eq_getElem hi)).1
              · have hpl : 0 < ((List.range len).map f).length := List.length_pos_iff.2 hn
                refine ⟨a, rfl, ?_, fun i x j c h1 h2 => ?_⟩
                · obtain ⟨h3, h4⟩ := hall 0 _ (List.getElem?_eq_getElem hpl)
                  obtain ⟨v, hv, _⟩ := h4 0 _ (List.getElem?_eq_getElem (by omega))
                  have := heap_of_cell hv
                  rwa [add_block] at this
                · obtain ⟨v, hv, _⟩ := (hall i x h1).2 j c h2
                  rw [cellIn_world, hv]; rfl
              · obtain ⟨v, hv, hd⟩ := (hall i x h1).2 j c h2
                rw [hv]; exact hd
            rw [hL] at hdr
            refine ⟨_, .cons hdr .nil, .cons (.lst el _ (by rw [hL]; omega) (fun i x hix => (hall i x hix).1) (fun i x j s d hix hs hd => ?_)) .nil⟩
            obtain ⟨hi, rfl⟩ := hget i x hix
            obtain ⟨cs', h1, h2⟩ := hf i hi
            obtain ⟨d', hd', hfit⟩ := h2.fit.get j s hs
            rw [hd] at hd'; cases hd'
            exact hfit
        · cases h
      · cases h
    · next fs hu =>
      split at h
      · next sh' hsh =>
        split at h
        · next hl =>
          cases h
          obtain ⟨xs, m, rfl, rfl, hlen, hxl, hat⟩ := DataW.trod_struct hu hx
          have hbs := bulk_agg (xs.map (·.1))
          simp only at hb0
          obtain ⟨ds, hds⟩ := read_fieldsB (K := K) (P := P) (w := w) (g := DataW.trod enc P w base spare held m) (cs := cs) (fun t cs x sh h1 h2 h3 => read_okB hK n t sh h1 m cs x h2 h3) fs.toList 0 sh hsh fun f hf => by
            obtain ⟨i, hi, rfl⟩ := List.getElem_of_mem hf
            have h1 := hat i _ (by rw [Array.getElem?_eq_getElem (by simpa using hi)])
            rw [List.getElem?_eq_getElem (by rw [hxl]; simpa using hi)] at h1
            have hi' : i < xs.length := by rw [hxl]; simpa using hi
            have hm := bulk_mem (List.mem_map.2 ⟨xs[i], List.getElem_mem hi', rfl⟩ : xs[i].1 ∈ xs.map (·.1))
            exact ⟨xs[i], by simpa using h1, by omega⟩
          refine ⟨ds, ?_⟩
          rw [List.drop_zero, List.take_of_length_le (by rw [hl, hlen]; exact Nat.le_refl _)] at hds
          exact hds
        · cases h
      · cases h
    · cases h

theorem arg_oneB (hK : K ≤ maxLen) {t : TypeId} {v : Value} {d : DataW H} {ps : List MemPlace} (n : Nat) {s : Cs} (hv : v.cells = #[v]) (hsh : shape P n t = some [s]) (h : DataW.Trod enc P w base spare held t v d ps) (hb : uptoBulk d ≤ K) :
    ∃ x, FitB K s x ∧ Ar ⟨wV w, []⟩ (.c (.d x)) v := by
  obtain ⟨fuel, hf⟩ := h
  obtain ⟨ds, h1⟩ := read_okB hK n t _ hsh fuel _ _ hf hb
  rw [hv] at h1
  match ds, h1.dr, h1.fit with
  | [x], hd, hfit =>
    cases hd with | cons a _ => cases hfit with | cons b _ => exact ⟨x, b, a⟩
theorem arg_aggB (hK : K ≤ maxLen) {t : TypeId} {cs : Array Value} {d : DataW H} {ps : List MemPlace} (n : Nat) {sh : List Cs} (hsh : shape P n t = some sh) (h : DataW.Trod enc P w base spare held t (.agg cs) d ps) (hb : uptoBulk d ≤ K) :
    ∃ ds, All2 (FitB K) sh ds ∧ Ar ⟨wV w, []⟩ (.agg (ds.map C.d)) (.agg cs) := by
  obtain ⟨fuel, hf⟩ := h
  obtain ⟨ds, h1⟩ := read_okB hK n t _ hsh fuel _ _ hf hb
  refine ⟨ds, h1.fit, cs.toList, by simp, All2.map_left ?_⟩
  exact h1.dr
theorem fitB_int {k : IntKind} {x : D} (h : FitB K (.int k) x) : ∃ n, x = .int k n ∧ (Lit.int k n).wf = true := by cases h; exact ⟨_, rfl, by assumption⟩
theorem fitB_str {x : D} (h : FitB K .str x) : ∃ l, x = .str l ∧ l.length ≤ K := by cases h; exact ⟨_, rfl, by assumption⟩
theorem fitB_u8 {x : D} (h : FitB K (.int .u8) x) : ∃ n : Int, x = .int .u8 n ∧ 0 ≤ n ∧ n ≤ 255 := by
  obtain ⟨n, rfl, hw⟩ := fitB_int h
  have hx : 0 ≤ n ∧ n ≤ 255 := by simpa [Lit.wf, IntKind.min, IntKind.max, IntKind.signed, IntKind.bits] using hw
  exact ⟨n, rfl, hx⟩
theorem fitB_i64 {x : D} (h : FitB K (.int .i64) x) : ∃ n : Int, x = .int .i64 n ∧ -9223372036854775808 ≤ n ∧ n ≤ 9223372036854775807 := by
  obtain ⟨n, rfl, hw⟩ := fitB_int h
  have hx : -9223372036854775808 ≤ n ∧ n ≤ 9223372036854775807 := by simpa [Lit.wf, IntKind.min, IntKind.max, IntKind.signed, IntKind.bits] using hw
  exact ⟨n, rfl, hx⟩
theorem fitB_lst {el : List Cs} {x : D} (h : FitB K (.lst el) x) : ∃ els, x = .lst el.length els ∧ els.length ≤ K ∧ ∀ e ∈ els, All2 (FitB K) el e := by
  cases h with
  | lst _ els h0 h1 h2 =>
    refine ⟨els, rfl, h0, fun e he => ?_⟩
    obtain ⟨i, hi, rfl⟩ := List.getElem_of_mem he
    have hg := List.getElem?_eq_getElem hi
    exact All2.of_get (h1 i _ hg).symm fun j s d hs hd => h2 i _ j s d hg hs hd
end Go.Ax

/- What the arguments of the statements on browse lists read as, and the listed variables. No condition. -/
namespace Go.Fc
open Go Go.Ax
def Γ0 : List (Nat × List D) := [(1, Proofs.stdD), (4, Proofs.powD)]
theorem std_in : (1, Proofs.stdD) ∈ Γ0 := by simp [Γ0]
theorem pow_in : (4, Proofs.powD) ∈ Γ0 := by simp [Γ0]
abbrev shSb : List Cs := [.int .u8, .str]
abbrev shFld : List Cs := [.str, .str, .lst shSb, .int .i64]
abbrev shRec : List Cs := [.int .i64, .int .i64, .int .i64, .str, .lst shFld]
abbrev shAu : List Cs := [.int .i64, .int .i64, .str, .lst [.str], .lst [.int .i64]]
abbrev shBr : List Cs := [.str, .str, .int .i64]
def Rec.cd (r : Rec) : Prop := ∀ f ∈ r.fields, ∀ s ∈ f.subs, 0 ≤ s.code ∧ s.code ≤ 255
def KK : Nat := 1048576
theorem KK_le : KK ≤ maxLen := by unfold KK; decide
theorem exists_ok {α : Type} {ds : α → List D} {p : α → Prop} : ∀ {els : List (List D)}, (∀ e ∈ els, ∃ x, e = ds x ∧ p x) → ∃ xs : List α, els = xs.map ds ∧ ∀ x ∈ xs, p x
  | [], _ => ⟨[], rfl, by simp⟩
  | e :: r, h => by
    obtain ⟨x, rfl, hx⟩ := h e (by simp)
    obtain ⟨xs, rfl, hxs⟩ := exists_ok (els := r) fun e he => h e (by simp [he])
    exact ⟨x :: xs, rfl, fun y hy => by
      rcases List.mem_cons.1 hy with rfl | hy
      · exact hx
      · exact hxs y hy⟩
theorem fitSb {e : List D} (h : All2 (FitB KK) shSb e) : ∃ s : Sb, e = s.ds ∧ (s.val.length ≤ 2000000 ∧ (0 ≤ s.code ∧ s.code ≤ 255)) := by
  cases h with | cons h1 h => cases h with | cons h2 h =>
  cases h
  obtain ⟨n1, rfl, a1, b1⟩ := fitB_u8 h1
  obtain ⟨l, rfl, hl⟩ := fitB_str h2
  unfold KK at hl
  exact ⟨⟨n1, l⟩, rfl, by simp only; omega, a1, b1⟩
theorem fitFld {e : List D} (h : All2 (FitB KK) shFld e) : ∃ f : Fld, e = f.ds ∧ (f.sm ∧ ∀ s ∈ f.subs, 0 ≤ s.code ∧ s.code ≤ 255) := by
  cases h with | cons h1 h => cases h with | cons h2 h => cases h with | cons h3 h => cases h with | cons h4 h =>
  cases h
  obtain ⟨a, rfl, _⟩ := fitB_str h1
  obtain ⟨b, rfl, _⟩ := fitB_str h2
  obtain ⟨els, rfl, _, he⟩ := fitB_lst h3
  obtain ⟨n4, rfl, _⟩ := fitB_i64 h4
  obtain ⟨l, rfl, hl⟩ := exists_ok (ds := Sb.ds) (p := fun s => s.val.length ≤ 2000000 ∧ (0 ≤ s.code ∧ s.code ≤ 255)) fun e h => fitSb (he e h)
  exact ⟨⟨a, b, l, n4⟩, rfl, fun s hs => (hl s hs).1, fun s hs => (hl s hs).2⟩
theorem fitRec {e : List D} (h : All2 (FitB KK) shRec e) : ∃ r : Rec, e = r.ds ∧ (r.sm ∧ r.cd) := by
  cases h with | cons h1 h => cases h with | cons h2 h => cases h with | cons h3 h => cases h with | cons h4 h => cases h with | cons h5 h =>
  cases h
  obtain ⟨n1, rfl, _⟩ := fitB_i64 h1
  obtain ⟨n2, rfl, _⟩ := fitB_i64 h2
  obtain ⟨n3, rfl, _⟩ := fitB_i64 h3
  obtain ⟨l4, rfl, _⟩ := fitB_str h4
  obtain ⟨els, rfl, _, he⟩ := fitB_lst h5
  obtain ⟨l, rfl, hl⟩ := exists_ok (ds := Fld.ds) (p := fun f => f.sm ∧ ∀ s ∈ f.subs, 0 ≤ s.code ∧ s.code ≤ 255) fun e h => fitFld (he e h)
  exact ⟨⟨n1, n2, n3, l4, l⟩, rfl, fun f hf => (hl f hf).1, fun f hf => (hl f hf).2⟩
theorem fitRecs {x : D} (h : FitB KK (.lst shRec) x) : ∃ l : List Rec, x = .lst 5 (l.map Rec.ds) ∧ ((∀ r ∈ l, r.sm) ∧ ∀ r ∈ l, r.cd) := by
  obtain ⟨els, rfl, _, he⟩ := fitB_lst h
  obtain ⟨l, rfl, hl⟩ := exists_ok (ds := Rec.ds) (p := fun r => r.sm ∧ r.cd) fun e h => fitRec (he e h)
  exact ⟨l, rfl, fun r hr => (hl r hr).1, fun r hr => (hl r hr).2⟩
theorem fitStr {x : D} (h : FitB KK .str x) : ∃ l : Str, x = .str l ∧ l.length ≤ 2000000 := by
  obtain ⟨l, rfl, hl⟩ := fitB_str h
  unfold KK at hl
  exact ⟨l, rfl, by omega⟩
theorem fitS1 {e : List D} (h : All2 (FitB KK) [.str] e) : ∃ s : Str, e = Fc.sD s ∧ s.length ≤ 2000000 := by
  cases h with | cons h1 h =>
  cases h
  obtain ⟨s, rfl, hs⟩ := fitStr h1
  exact ⟨s, rfl, hs⟩
theorem fitI1 {e : List D} (h : All2 (FitB KK) [.int .i64] e) : ∃ n : Int, e = Fc.iD n ∧ True := by
  cases h with | cons h1 h =>
  cases h
  obtain ⟨n, rfl, _⟩ := fitB_i64 h1
  exact ⟨n, rfl, trivial⟩
theorem fitAu {e : List D} (h : All2 (FitB KK) shAu e) : ∃ a : Au, e = a.ds ∧ (a.see.length ≤ 2000000 ∧ ∀ s ∈ headsA a, s.length ≤ 2000000) := by
  cases h with | cons h1 h => cases h with | cons h2 h => cases h with | cons h3 h => cases h with | cons h4 h => cases h with | cons h5 h =>
  cases h
  obtain ⟨n1, rfl, _⟩ := fitB_i64 h1
  obtain ⟨n2, rfl, _⟩ := fitB_i64 h2
  obtain ⟨s3, rfl, hs3⟩ := fitStr h3
  obtain ⟨els4, rfl, b4, he4⟩ := fitB_lst h4
  obtain ⟨els5, rfl, b5, he5⟩ := fitB_lst h5
  obtain ⟨l4, rfl, hl4⟩ := exists_ok (ds := Fc.sD) (p := fun s => s.length ≤ 2000000) fun e h => fitS1 (he4 e h)
  obtain ⟨l5, rfl, _⟩ := exists_ok (ds := Fc.iD) (p := fun _ => True) fun e h => fitI1 (he5 e h)
  unfold KK at b4
  rw [List.length_map] at b4
  refine ⟨⟨n1, n2, s3, l4, l5⟩, rfl, by show l4.length ≤ _; omega, fun s hs => ?_⟩
  rcases List.mem_cons.1 hs with rfl | hs
  · exact hs3
  · exact hl4 s hs
theorem fitAus {x : D} (h : FitB KK (.lst shAu) x) : ∃ l : List Au, x = .lst 5 (l.map Au.ds) ∧ AuSm l := by
  obtain ⟨els, rfl, _, he⟩ := fitB_lst h
  obtain ⟨l, rfl, hl⟩ := exists_ok (ds := Au.ds) (p := fun a => a.see.length ≤ 2000000 ∧ ∀ s ∈ headsA a, s.length ≤ 2000000) fun e h => fitAu (he e h)
  exact ⟨l, rfl, fun a ha => (hl a ha).1, fun a ha => (hl a ha).2⟩
theorem fitHow {x : List D} (h : All2 (FitB KK) [.int .i64, .str] x) : ∃ (k : Int) (s : Str), x = [.int .i64 k, .str s] := by
  cases h with | cons h1 h => cases h with | cons h2 h =>
  cases h
  obtain ⟨n1, rfl, _⟩ := fitB_i64 h1
  obtain ⟨s2, rfl, _⟩ := fitStr h2
  exact ⟨n1, s2, rfl⟩
theorem fitBrF {e : List D} (h : All2 FitC shBr e) : ∃ b : Br, e = b.ds := by
  cases h with | cons h1 h => cases h with | cons h2 h => cases h with | cons h3 h =>
  cases h
  obtain ⟨s1, rfl, _⟩ := fit_str h1
  obtain ⟨s2, rfl, _⟩ := fit_str h2
  obtain ⟨n3, rfl, _⟩ := fit_i64 h3
  exact ⟨⟨s1, s2, n3⟩, rfl⟩
theorem fitBrsF {x : D} (h : FitC (.lst shBr) x) : ∃ l : List Br, x = .lst 3 (l.map Br.ds) := by
  obtain ⟨els, rfl, he⟩ := fit_lst h
  obtain ⟨l, rfl⟩ := exists_list (ds := Br.ds) fun e h => fitBrF (he e h)
  exact ⟨l, rfl⟩
end Go.Fc
namespace Go.Proofs.YtanbfhnmklhjiaaGreatDoor
open Go Go.ChangeShapes Go.WideShapes Go.RowKit Go.Ax Go.Fc
theorem laid_tail {P : Program} {W : World} {x : String × DataW Unit} {q : List (String × DataW Unit)} (h : ∃ ps, DataW.LaidVars P W (x :: q) ps) : ∃ ps, DataW.LaidVars P W q ps := by
  obtain ⟨ps, g, t, cs, fuel, p, q', _, _, _, _, h5, _⟩ := h
  exact ⟨_, h5⟩
theorem own : ownKnob Tryz.prog.godebug = none := by kernel_rfl
theorem g1 : Tryz.prog.globalNamed "library/rules.standard" = some 1 := by kernel_rfl
theorem g4 : Tryz.prog.globalNamed "internal/strconv.uint64pow10" = some 4 := by kernel_rfl
noncomputable def gt (n : Nat) : TypeId := ((Tryz.prog.globals[n]?).map (·.type)).getD 0
theorem ok1 : okT Tryz.prog 6 (gt 1) = true := by kernel_rfl
theorem ok4 : okT Tryz.prog 6 (gt 4) = true := by kernel_rfl
theorem d1 : dT Tryz.prog 6 (gt 1) (Rows.laid_library_rules_standard (H := Unit)) = stdD := by kernel_rfl
theorem d4 : dT Tryz.prog 6 (gt 4) (Rows.laid_internal_strconv_uint64pow10 (H := Unit)) = powD := by kernel_rfl
abbrev laidL : List (String × DataW Unit) := [("math/bits.deBruijn32tab", Rows.laid_math_bits_deBruijn32tab), ("math/bits.deBruijn64tab", Rows.laid_math_bits_deBruijn64tab), ("internal/strconv.uint64pow10", Rows.laid_internal_strconv_uint64pow10), ("unicode/utf8.acceptRanges", Rows.laid_unicode_utf8_acceptRanges), ("library/rules.standard", Rows.laid_library_rules_standard), ("unicode/utf8.first", Rows.laid_unicode_utf8_first)]
theorem globs {W : World} (h : laidMet Tryz.prog laidL W) : ViewOk Γ0 (wV W) W := by
  obtain ⟨ps, hl, _⟩ := h
  have h1 := laid_tail ⟨ps, hl⟩
  have h2 := laid_tail h1
  have h3 := laid_tail h2
  have h4 := laid_tail h3
  refine viewOk_world fun p hp => ?_
  simp only [Γ0, List.mem_cons, List.not_mem_nil, or_false] at hp
  rcases hp with rfl | rfl
  · obtain ⟨ps, h⟩ := h4
    exact glob_data 6 g1 (by kernel_rfl) ok1 d1 ⟨ps, _, h⟩
  · obtain ⟨ps, h⟩ := h2
    exact glob_data 6 g4 (by kernel_rfl) ok4 d4 ⟨ps, _, h⟩
end Go.Proofs.YtanbfhnmklhjiaaGreatDoor
