/- Part of a proof about this program; no condition of its own. -/
import Derived.Test.YtanbfhnmklhjiaaGreatDoorP10
import Derived.Test.YtanbfhnmklhjiaaGreatDoorRows
import Derived.Test.YtanbfhnmklhjiaaGreatDoorP41
import Derived.Test.YtanbfhnmklhjiaaGreatDoorP20
import Derived.Test.YtanbfhnmklhjiaaGreatDoorCards
import Derived.Test.YtanbfhnmklhjiaaGreatDoorTie
import Derived.WalkKit
import Derived.ProofKit
import Derived.OpenShut
import Derived.Deep.DeepHandedRow
import Derived.Deep.DeepWitnessRowRef
set_option linter.all false
/- Arguments of a statement on what is not too great, read as closed data. No condition. -/
namespace Go.Ax
open Go Go.RowKit Go.Proofs.YtanbfhnmklhjiaaGreatDoor.Rows
theorem bulk_str {H : Type} (b : List UInt8) : uptoBulk (.lit (.string b) : DataW H) = b.length + 1 := by simp [uptoBulk]
theorem bulk_slice {H : Type} (es sp : List (DataW H)) : uptoBulk (.slice es sp) = uptoBulkAll es + uptoBulkAll sp + 1 := by simp [uptoBulk]
theorem bulk_agg {H : Type} (es : List (DataW H)) : uptoBulk (.agg es) = uptoBulkAll es + 1 := by simp [uptoBulk]
theorem bulk_cons {H : Type} (d : DataW H) (r : List (DataW H)) : uptoBulkAll (d :: r) = uptoBulk d + uptoBulkAll r := by simp [uptoBulkAll]
theorem bulk_mem {H : Type} {d : DataW H} : ∀ {l : List (DataW H)}, d ∈ l → uptoBulk d ≤ uptoBulkAll l
  | [], h => by cases h
  | x :: r, h => by
    rw [bulk_cons]
    rcases List.mem_cons.1 h with rfl | h
    · omega
    · have := bulk_mem h; omega
theorem bulk_pos {H : Type} (d : DataW H) : 1 ≤ uptoBulk d := by
  cases d with
  | lit l => cases l <;> simp [uptoBulk]
  | _ => simp [uptoBulk]
theorem bulk_len {H : Type} : ∀ l : List (DataW H), l.length ≤ uptoBulkAll l
  | [] => by simp
  | x :: r => by
    have h1 := bulk_pos x
    have h2 := bulk_len r
    rw [bulk_cons, List.length_cons]; omega
inductive FitB (K : Nat) : Cs → D → Prop where
  | int (k : IntKind) (n : Int) (h : (Lit.int k n).wf = true) : FitB K (.int k) (.int k n)
  | bool (b : Bool) : FitB K .bool (.bool b)
  | str (l : List UInt8) (h : l.length ≤ K) : FitB K .str (.str l)
  | lst (el : List Cs) (els : List (List D)) (h0 : els.length ≤ K) (h1 : ∀ (i : Nat) (e : List D), els[i]? = some e → e.length = el.length) (h2 : ∀ (i : Nat) (e : List D) (j : Nat) (s : Cs) (d : D), els[i]? = some e → el[j]? = some s → e[j]? = some d → FitB K s d) : FitB K (.lst el) (.lst el.length els)
variable {H : Type} {enc : TypeId × Value → H} {P : Program} {w : World} {base : Nat} {spare : Nat → Bool} {held : Bool} {K : Nat}
structure ReadsB (K : Nat) (w : World) (sh : List Cs) (cs : List Value) (ds : List D) : Prop where
  dr : All2 (Dr (wV w)) ds cs
  fit : All2 (FitB K) sh ds
theorem read_fieldsB {r : TypeId → Option (List Cs)} {g : TypeId → List Value → Option (DataW H × List MemPlace)} {cs : List Value} (hr : ∀ t cs x sh, r t = some sh → g t cs = some x → uptoBulk x.1 ≤ K → ∃ ds, ReadsB K w sh cs ds) : ∀ (fs : List Field) (off : Nat) (sh : List Cs), shapeFs P r fs off = some sh →
    (∀ f ∈ fs, ∃ y, g f.type ((cs.drop f.offset).take (P.cellsOf f.type)) = some y ∧ uptoBulk y.1 ≤ K) → ∃ ds, ReadsB K w sh ((cs.drop off).take sh.length) ds
  | [], off, sh, h, _ => by cases h; exact ⟨[], by simp; exact .nil, .nil⟩
  | f :: fs, off, sh, h, hy => by
    unfold shapeFs at h
    split at h
    · next ho =>
      split at h
      · next a ha =>
        split at h
        · next hl =>
          cases e : shapeFs P r fs (off + a.length) with
          | none => simp [e] at h
          | some b =>
            simp only [e, Option.map_some, Option.some.injEq] at h
            subst h
            obtain ⟨y, hy1, hy2⟩ := hy f (by simp)
            obtain ⟨d1, h1⟩ := hr _ _ _ _ ha hy1 hy2
            obtain ⟨d2, h2⟩ := read_fieldsB hr fs _ b e fun f' hf' => hy f' (by simp [hf'])
            refine ⟨d1 ++ d2, ?_, h1.fit.append h2.fit⟩
            have := h1.dr.append h2.dr
            rw [ho, ← hl] at this
            rwa [List.length_append, List.take_add, List.drop_drop]
        · cases h
      · cases h
    · cases h
theorem read_okB (hK : K ≤ maxLen) : ∀ (n : Nat) (t : TypeId) (sh : List Cs), shape P n t = some sh → ∀ (fuel : Nat) (cs : List Value) (x : DataW H × List MemPlace), DataW.trod enc P w base spare held fuel t cs = some x → uptoBulk x.1 ≤ K → ∃ ds, ReadsB K w sh cs ds
  | 0, _, _, h, _, _, _, _, _ => by cases h
  | n + 1, t, sh, h, fuel, cs, x, hx, hb0 => by
    unfold shape at h
    split at h
    · next hu => cases h; obtain ⟨b, rfl, _⟩ := DataW.trod_bool hu hx; exact ⟨[.bool b], .cons (.bool b) .nil, .cons (.bool b) .nil⟩
    · next k hu => cases h; obtain ⟨m, rfl, _, hw⟩ := DataW.trod_int hu hx; exact ⟨[.int k m], .cons (.int k m) .nil, .cons (.int k m hw) .nil⟩
    · next hu =>
      cases h; obtain ⟨s, rfl, rfl, hs⟩ := DataW.trod_string hu hx
      have hb1 := bulk_str (H := H) s.data.toList
      refine ⟨[.str s.data.toList], .cons ?_ .nil, .cons (.str _ (by simp only at hb0; omega)) .nil⟩
      have := Dr.str (V := wV w) s.data.toList
      rwa [byteArray_eta] at this
    · next e hu =>
      split at h
      · next el hel =>
        split at h
        · next hpos =>
          cases h
          rcases DataW.trod_slice hu hx with ⟨rfl, _⟩ | ⟨a, len, cap, elems, rest, m, _, rfl, rfl, hb, hlc, hcm, hlen, hat, _⟩
          · refine ⟨[.lst el.length []], .cons ((NilTo.nil el.length).dr (Dr.raw _ rfl)) .nil, .cons (FitB.lst el [] (Nat.zero_le _) (fun i e he => nomatch he) (fun i e j s d he => nomatch he)) .nil⟩
          · have hbs := bulk_slice (elems.map (·.1)) (rest.map (·.1))
            have hbl := bulk_len (elems.map (·.1))
            rw [List.length_map] at hbl
            simp only at hb0
            have key : ∀ i, i < len → ∃ ds : List D, ∃ cs', w.cells? base (a.add (i * P.cellsOf e)) (P.cellsOf e) = some cs' ∧ ReadsB K w el cs' ds := fun i hi => by
              have h1 := hat i hi
              rw [List.getElem?_eq_getElem (by omega)] at h1
              obtain ⟨cs', h2, h3⟩ := Option.bind_eq_some_iff.1 h1
              have hm := bulk_mem (List.mem_map.2 ⟨elems[i]'(by omega), List.getElem_mem _, rfl⟩ : (elems[i]'(by omega)).1 ∈ elems.map (·.1))
              obtain ⟨ds, h4⟩ := read_okB hK n e el hel _ _ _ h3 (by omega)
              exact ⟨ds, cs', h2, h4⟩
            let f : Nat → List D := fun i => if h : i < len then Classical.choose (key i h) else []
            have hf : ∀ i, i < len → ∃ cs', w.cells? base (a.add (i * P.cellsOf e)) (P.cellsOf e) = some cs' ∧ ReadsB K w el cs' (f i) := fun i hi => by
              have := Classical.choose_spec (key i hi)
              simp only [f, dif_pos hi]; exact this
            have hget : ∀ (i : Nat) (x : List D), ((List.range len).map f)[i]? = some x → i < len ∧ x = f i := fun i x hix => by
              have hlt := getElem?_lt hix
              simp only [List.length_map, List.length_range] at hlt
              simp [hlt] at hix
              exact ⟨hlt, hix.symm⟩
            have hall : ∀ (i : Nat) (x : List D), ((List.range len).map f)[i]? = some x → x.length = el.length ∧ ∀ (j : Nat) (c : D), x[j]? = some c → ∃ v, w.cell? (a.add (i * el.length + j)) = some v ∧ Dr (wV w) c v := fun i x hix => by
              obtain ⟨hi, rfl⟩ := hget i x hix
              obtain ⟨cs', h1, h2⟩ := hf i hi
              obtain ⟨h3, h4⟩ := cells_get h1
              refine ⟨h2.fit.length.symm, fun j c hj => ?_⟩
              obtain ⟨v, hv, hd⟩ := h2.dr.get j c hj
              have := h4 j v hv
              rw [add_add, ← hpos.2] at this
              exact ⟨v, this, hd⟩
            have hL : ((List.range len).map f).length = len := by simp
            have hdr : Dr (wV w) (.lst el.length ((List.range len).map f)) (.slice (some a) ((List.range len).map f).length cap) := by
              refine Dr.lst el.length _ (some a) cap (fun i j => (w.cell? (a.add (i * el.length + j))).getD undef) (by rw [hL]; exact hlc) hcm (fun x hx => ?_) (fun hn => ?_) (fun i x j c h1 h2 => ?_)
              · obtain ⟨i, hi, rfl⟩ := List.getElem_of_mem hx
                exact (hall i _ (List.getElem?_eq_getElem hi)).1
              · have hpl : 0 < ((List.range len).map f).length := List.length_pos_iff.2 hn
                refine ⟨a, rfl, ?_, fun i x j c h1 h2 => ?_⟩
                · obtain ⟨h3, h4⟩ := hall 0 _ (List.getElem?_eq_getElem hpl)
                  obtain ⟨v, hv, _⟩ := h4 0 _ (List.getElem?_eq_getElem (by omega))
                  have := heap_of_cell hv
                  rwa [add_block] at this
                · obtain ⟨v, hv, _⟩ := (hall i x h1).2 j c h2
                  rw [cellIn_world, hv]; rfl
              · obtain ⟨v, hv, hd⟩ := (hall i x h1).2 j c h2
                rw [hv]; exact hd
            rw [hL] at hdr
            refine ⟨_, .cons hdr .nil, .cons (.lst el _ (by rw [hL]; omega) (fun i x hix => (hall i x hix).1) (fun i x j s d hix hs hd => ?_)) .nil⟩
            obtain ⟨hi, rfl⟩ := hget i x hix
            obtain ⟨cs', h1, h2⟩ := hf i hi
            obtain ⟨d', hd', hfit⟩ := h2.fit.get j s hs
            rw [hd] at hd'; cases hd'
            exact hfit
        · cases h
      · cases h
    · next fs hu =>
      split at h
      · next sh' hsh =>
        split at h
        · next hl =>
          cases h
          obtain ⟨xs, m, rfl, rfl, hlen, hxl, hat⟩ := DataW.trod_struct hu hx
          have hbs := bulk_agg (xs.map (·.1))
          simp only at hb0
          obtain ⟨ds, hds⟩ := read_fieldsB (K := K) (P := P) (w := w) (g := DataW.trod enc P w base spare held m) (cs := cs) (fun t cs x sh h1 h2 h3 => read_okB hK n t sh h1 m cs x h2 h3) fs.toList 0 sh hsh fun f hf => by
            obtain ⟨i, hi, rfl⟩ := List.getElem_of_mem hf
            have h1 := hat i _ (by rw [Array.getElem?_eq_getElem (by simpa using hi)])
            rw [List.getElem?_eq_getElem (by rw [hxl]; simpa using hi)] at h1
            have hi' : i < xs.length := by rw [hxl]; simpa using hi
            have hm := bulk_mem (List.mem_map.2 ⟨xs[i], List.getElem_mem hi', rfl⟩ : xs[i].1 ∈ xs.map (·.1))
            exact ⟨xs[i], by simpa using h1, by omega⟩
          refine ⟨ds, ?_⟩
          rw [List.drop_zero, List.take_of_length_le (by rw [hl, hlen]; exact Nat.le_refl _)] at hds
          exact hds
        · cases h
      · cases h
    · cases h
theorem arg_oneB (hK : K ≤ maxLen) {t : TypeId} {v : Value} {d : DataW H} {ps : List MemPlace} (n : Nat) {s : Cs} (hv : v.cells = #[v]) (hsh : shape P n t = some [s]) (h : DataW.Trod enc P w base spare held t v d ps) (hb : uptoBulk d ≤ K) :
    ∃ x, FitB K s x ∧ Ar ⟨wV w, []⟩ (.c (.d x)) v := by
  obtain ⟨fuel, hf⟩ := h
  obtain ⟨ds, h1⟩ := read_okB hK n t _ hsh fuel _ _ hf hb
  rw [hv] at h1
  match ds, h1.dr, h1.fit with
  | [x], hd, hfit =>
    cases hd with | cons a _ => cases hfit with | cons b _ => exact ⟨x, b, a⟩
theorem arg_aggB (hK : K ≤ maxLen) {t : TypeId} {cs : Array Value} {d : DataW H} {ps : List MemPlace} (n : Nat) {sh : List Cs} (hsh : shape P n t = some sh) (h : DataW.Trod enc P w base spare held t (.agg cs) d ps) (hb : uptoBulk d ≤ K) :
    ∃ ds, All2 (FitB K) sh ds ∧ Ar ⟨wV w, []⟩ (.agg (ds.map C.d)) (.agg cs) := by
  obtain ⟨fuel, hf⟩ := h
  obtain ⟨ds, h1⟩ := read_okB hK n t _ hsh fuel _ _ hf hb
  refine ⟨ds, h1.fit, cs.toList, by simp, All2.map_left ?_⟩
  exact h1.dr
theorem fitB_int {k : IntKind} {x : D} (h : FitB K (.int k) x) : ∃ n, x = .int k n ∧ (Lit.int k n).wf = true := by cases h; exact ⟨_, rfl, by assumption⟩
theorem fitB_str {x : D} (h : FitB K .str x) : ∃ l, x = .str l ∧ l.length ≤ K := by cases h; exact ⟨_, rfl, by assumption⟩
theorem fitB_i64 {x : D} (h : FitB K (.int .i64) x) : ∃ n : Int, x = .int .i64 n ∧ -9223372036854775808 ≤ n ∧ n ≤ 9223372036854775807 := by
  obtain ⟨n, rfl, hw⟩ := fitB_int h
  have hx : -9223372036854775808 ≤ n ∧ n ≤ 9223372036854775807 := by simpa [Lit.wf, IntKind.min, IntKind.max, IntKind.signed, IntKind.bits] using hw
  exact ⟨n, rfl, hx⟩
theorem fitB_lst {el : List Cs} {x : D} (h : FitB K (.lst el) x) : ∃ els, x = .lst el.length els ∧ els.length ≤ K ∧ ∀ e ∈ els, All2 (FitB K) el e := by
  cases h with
  | lst _ els h0 h1 h2 =>
    refine ⟨els, rfl, h0, fun e he => ?_⟩
    obtain ⟨i, hi, rfl⟩ := List.getElem_of_mem he
    have hg := List.getElem?_eq_getElem hi
    exact All2.of_get (h1 i _ hg).symm fun j s d hs hd => h2 i _ j s d hg hs hd
end Go.Ax

/- What the arguments of the statements on authorities read as, the listed variables, a world for the witness. No condition. -/
namespace Go.Fc
open Go Go.Ax
def Γa (M : Int) : List (Nat × List D) := [(0, [D.int .i64 M]), (2, Tx.firstD), (3, Tx.acceptD)]
theorem max_in (M : Int) : (0, [D.int .i64 M]) ∈ Γa M := by simp [Γa]
theorem first_in (M : Int) : (2, Tx.firstD) ∈ Γa M := by simp [Γa]
theorem accept_in (M : Int) : (3, Tx.acceptD) ∈ Γa M := by simp [Γa]
abbrev shAu : List Cs := [.int .i64, .int .i64, .str, .lst [.str], .lst [.int .i64]]
def KK : Nat := 1048576
theorem KK_le : KK ≤ maxLen := by unfold KK; decide
theorem exists_ok {α : Type} {ds : α → List D} {p : α → Prop} : ∀ {els : List (List D)}, (∀ e ∈ els, ∃ x, e = ds x ∧ p x) → ∃ xs : List α, els = xs.map ds ∧ ∀ x ∈ xs, p x
  | [], _ => ⟨[], rfl, by simp⟩
  | e :: r, h => by
    obtain ⟨x, rfl, hx⟩ := h e (by simp)
    obtain ⟨xs, rfl, hxs⟩ := exists_ok (els := r) fun e he => h e (by simp [he])
    exact ⟨x :: xs, rfl, fun y hy => by
      rcases List.mem_cons.1 hy with rfl | hy
      · exact hx
      · exact hxs y hy⟩
theorem fitStr {x : D} (h : FitB KK .str x) : ∃ l : Str, x = .str l ∧ l.length ≤ 2000000 := by
  obtain ⟨l, rfl, hl⟩ := fitB_str h
  unfold KK at hl
  exact ⟨l, rfl, by omega⟩
theorem fitS1 {e : List D} (h : All2 (FitB KK) [.str] e) : ∃ s : Str, e = Fc.sD s ∧ s.length ≤ 2000000 := by
  cases h with | cons h1 h =>
  cases h
  obtain ⟨s, rfl, hs⟩ := fitStr h1
  exact ⟨s, rfl, hs⟩
theorem fitI1 {e : List D} (h : All2 (FitB KK) [.int .i64] e) : ∃ n : Int, e = Fc.iD n ∧ (-9223372036854775808 ≤ n ∧ n ≤ 9223372036854775807) := by
  cases h with | cons h1 h =>
  cases h
  obtain ⟨n, rfl, h1, h2⟩ := fitB_i64 h1
  exact ⟨n, rfl, h1, h2⟩
theorem fitAu {e : List D} (h : All2 (FitB KK) shAu e) : ∃ a : Au, e = a.ds ∧ ((a.see.length ≤ 2000000 ∧ ∀ s ∈ headsA a, s.length ≤ 2000000) ∧ AbI a) := by
  cases h with | cons h1 h => cases h with | cons h2 h => cases h with | cons h3 h => cases h with | cons h4 h => cases h with | cons h5 h =>
  cases h
  obtain ⟨n1, rfl, _⟩ := fitB_i64 h1
  obtain ⟨n2, rfl, _⟩ := fitB_i64 h2
  obtain ⟨s3, rfl, hs3⟩ := fitStr h3
  obtain ⟨els4, rfl, b4, he4⟩ := fitB_lst h4
  obtain ⟨els5, rfl, b5, he5⟩ := fitB_lst h5
  obtain ⟨l4, rfl, hl4⟩ := exists_ok (ds := Fc.sD) (p := fun s => s.length ≤ 2000000) fun e h => fitS1 (he4 e h)
  obtain ⟨l5, rfl, hl5⟩ := exists_ok (ds := Fc.iD) (p := fun n => -9223372036854775808 ≤ n ∧ n ≤ 9223372036854775807) fun e h => fitI1 (he5 e h)
  unfold KK at b4
  rw [List.length_map] at b4
  refine ⟨⟨n1, n2, s3, l4, l5⟩, rfl, ⟨by show l4.length ≤ _; omega, fun s hs => ?_⟩, hl5⟩
  rcases List.mem_cons.1 hs with rfl | hs
  · exact hs3
  · exact hl4 s hs
theorem fitAus {x : D} (h : FitB KK (.lst shAu) x) : ∃ l : List Au, x = .lst 5 (l.map Au.ds) ∧ AuSm2 l ∧ ∀ a ∈ l, AbI a := by
  obtain ⟨els, rfl, _, he⟩ := fitB_lst h
  obtain ⟨l, rfl, hl⟩ := exists_ok (ds := Au.ds) (p := fun a => (a.see.length ≤ 2000000 ∧ ∀ s ∈ headsA a, s.length ≤ 2000000) ∧ AbI a) fun e h => fitAu (he e h)
  exact ⟨l, rfl, ⟨fun a ha => (hl a ha).1.1, fun a ha => (hl a ha).1.2⟩, fun a ha => (hl a ha).2⟩
end Go.Fc
namespace Go.Proofs.YtanbfhnmklhjiaaGreatDoor
open Go Go.ChangeShapes Go.WideShapes Go.RowKit Go.Ax Go.Fc Go.Tx
set_option maxRecDepth 100000
theorem laid_tail {P : Program} {W : World} {x : String × DataW Unit} {q : List (String × DataW Unit)} (h : ∃ ps, DataW.LaidVars P W (x :: q) ps) : ∃ ps, DataW.LaidVars P W q ps := by
  obtain ⟨ps, g, t, cs, fuel, p, q', _, _, _, _, h5, _⟩ := h
  exact ⟨_, h5⟩
theorem own : ownKnob Tryz.prog.godebug = none := by kernel_rfl
theorem g2 : Tryz.prog.globalNamed "unicode/utf8.first" = some 2 := by kernel_rfl
theorem g3 : Tryz.prog.globalNamed "unicode/utf8.acceptRanges" = some 3 := by kernel_rfl
noncomputable def gt (n : Nat) : TypeId := ((Tryz.prog.globals[n]?).map (·.type)).getD 0
theorem ok2 : okT Tryz.prog 6 (gt 2) = true := by kernel_rfl
theorem ok3 : okT Tryz.prog 6 (gt 3) = true := by kernel_rfl
theorem d2 : dT Tryz.prog 6 (gt 2) Rows.laid_unicode_utf8_first = firstD := by kernel_rfl
theorem d3 : dT Tryz.prog 6 (gt 3) (Rows.laid_unicode_utf8_acceptRanges (H := Unit)) = acceptD := by kernel_rfl
abbrev laidL : List (String × DataW Unit) := [("unicode/utf8.acceptRanges", Rows.laid_unicode_utf8_acceptRanges), ("unicode/utf8.first", Rows.laid_unicode_utf8_first)]
theorem max_cell {W : World} (hs : W.ShapedOpen Tryz.prog) : ∃ M : Int, Gp ⟨wV W, []⟩ (0, [D.int .i64 M]) := by
  obtain ⟨cs, h1, h2, h3⟩ := hs.1 0 #[.int .i64 0] 3 (of_decide_eq_true (by kernel_rfl)) (by kernel_rfl)
  obtain ⟨ts, ht, _, hv⟩ := h3 (by kernel_rfl)
  have hts : Tryz.prog.cellTypes Tryz.prog.depth 3 = some [3] := by kernel_rfl
  rw [hts] at ht
  cases ht
  have hsz : cs.size = 1 := h2
  obtain ⟨v, hcs⟩ : ∃ v, cs = #[v] := ⟨cs[0], by
    apply Array.ext
    · simp [hsz]
    · intro i h1 h2
      have : i = 0 := by omega
      subst this
      simp⟩
  subst hcs
  obtain ⟨u, hu, hok⟩ := hv 0 v rfl
  have hu : u = 3 := by simpa using hu.symm
  subst hu
  unfold Cell.ok at hok
  rw [Tryz.underlying3] at hok
  cases v with
  | int k n =>
    obtain ⟨rfl, _⟩ := hok
    refine ⟨n, ⟨⟨0, 0, none⟩, fun _ => .int .i64 n, rfl, fun j c hj => ?_⟩, #[.int .i64 n], 3, (0, 0), h1, rfl⟩
    cases j with
    | succ j => simp at hj
    | zero =>
      simp only [List.getElem?_cons_zero, Option.some.injEq] at hj
      subst hj
      refine ⟨?_, .int _ _⟩
      have e : cellIn (fun b => W.heap[b]?) (⟨0, 0, none⟩ : Addr) = some (.int .i64 n) := by simp [cellIn, h1]
      rw [Ax.add_plain]
      exact e
  | _ => exact hok.elim
theorem globs {W : World} (h : laidMet Tryz.prog laidL W) (hs : W.ShapedOpen Tryz.prog) : ∃ M : Int, ViewOk (Γa M) (wV W) W := by
  obtain ⟨M, hM⟩ := max_cell hs
  obtain ⟨ps, hl, _⟩ := h
  have h1 := laid_tail ⟨ps, hl⟩
  refine ⟨M, viewOk_world fun p hp => ?_⟩
  simp only [Γa, List.mem_cons, List.not_mem_nil, or_false] at hp
  rcases hp with rfl | rfl | rfl
  · exact hM
  · obtain ⟨ps, h⟩ := h1
    exact glob_data 6 g2 (by kernel_rfl) ok2 d2 ⟨ps, _, h⟩
  · exact glob_data 6 g3 (by kernel_rfl) ok3 d3 ⟨ps, _, hl⟩
def DtoV : D → Value
  | .int k n => .int k n
  | .bool b => .bool b
  | .str l => .string ⟨l.toArray⟩
  | _ => undef
noncomputable def laidWorld (os : Os) : World :=
  let W := World.holding Tryz.prog os ⟨#[], #[], []⟩
  { W with heap := (W.heap.modify 2 fun
      | .cells _ t frozen => .cells ((dT Tryz.prog 6 (gt 2) Rows.laid_unicode_utf8_first).map DtoV).toArray t frozen
      | o => o).modify 3 fun
      | .cells _ t frozen => .cells ((dT Tryz.prog 6 (gt 3) (Rows.laid_unicode_utf8_acceptRanges (H := Unit))).map DtoV).toArray t frozen
      | o => o }
theorem wL1 (os : Os) (args : Array Value) : (DataW.laidRun Tryz.prog ((laidWorld os).forCall (fun _ _ => 0) ⟨#[], args, []⟩).memory 8 (laidL.map (·.1))).map (·.1) = some laidL := by kernel_rfl
def mkey : MemPlace → Nat
  | .cell b off => (if b = 3 then 0 else 1) * 100000 + off
  | .map _ => 0
def ascN : List Nat → Bool
  | [] => true
  | [_] => true
  | x :: y :: r => Nat.blt x y && ascN (y :: r)
theorem ascN_lt : ∀ (l : List Nat), ascN l = true → l.Pairwise (· < ·)
  | [], _ => .nil
  | [x], _ => List.pairwise_singleton _ _
  | x :: y :: r, h => by
    unfold ascN at h
    rw [Bool.and_eq_true] at h
    have hxy : x < y := by simpa [Nat.blt_eq] using h.1
    have ih := ascN_lt (y :: r) h.2
    refine List.pairwise_cons.2 ⟨fun z hz => ?_, ih⟩
    rcases List.mem_cons.1 hz with rfl | hz
    · exact hxy
    · exact Nat.lt_trans hxy ((List.pairwise_cons.1 ih).1 z hz)
theorem nodup_of_asc {ps : List MemPlace} (h : ascN (ps.map mkey) = true) : ps.Nodup := by
  have := ascN_lt _ h
  rw [List.pairwise_map] at this
  exact this.imp fun hab e => by rw [e] at hab; exact Nat.lt_irrefl _ hab
theorem wL2 (os : Os) (args : Array Value) : (DataW.laidRun Tryz.prog ((laidWorld os).forCall (fun _ _ => 0) ⟨#[], args, []⟩).memory 8 (laidL.map (·.1))).map (fun x => ascN (x.2.map mkey) && laidRowsB Tryz.prog ((laidWorld os).forCall (fun _ _ => 0) ⟨#[], args, []⟩).memory x.2) = some true := by kernel_rfl
theorem laidMet_of_asc {P : Program} {w : World} {l : List (String × DataW Unit)} (fuel : Nat) (h : (DataW.laidRun P w fuel (l.map (·.1))).map (·.1) = some l)
    (hr : (DataW.laidRun P w fuel (l.map (·.1))).map (fun x => ascN (x.2.map mkey) && laidRowsB P w x.2) = some true) : laidMet P l w := by
  cases hx : DataW.laidRun P w fuel (l.map (·.1)) with
  | none => simp [hx] at h
  | some x =>
    obtain ⟨l', ps⟩ := x
    simp only [hx, Option.map_some, Option.some.injEq] at h hr
    subst h
    simp only [Bool.and_eq_true] at hr
    exact laidMet_of_run fuel hx (decide_eq_true (nodup_of_asc hr.1)) hr.2
theorem wLaid (os : Os) (args : Array Value) : laidMet Tryz.prog laidL ((laidWorld os).forCall (fun _ _ => 0) ⟨#[], args, []⟩).memory := laidMet_of_asc 8 (wL1 os args) (wL2 os args)
theorem wVars (os : Os) (args : Array Value) : ((laidWorld os).forCall (fun _ _ => 0) ⟨#[], args, []⟩).variablesRefB Tryz.checked.prog = true := by kernel_rfl
theorem wRest (os : Os) (args : Array Value) : (((laidWorld os).forCall (fun _ _ => 0) ⟨#[], args, []⟩).heap.toList.drop Tryz.checked.prog.globals.size).take ((begin Tryz.checked.prog (fun _ _ => 0) default).world.heap.size - Tryz.checked.prog.globals.size) =
      (begin Tryz.checked.prog (fun _ _ => 0) default).world.heap.toList.drop Tryz.checked.prog.globals.size := by kernel_rfl
end Go.Proofs.YtanbfhnmklhjiaaGreatDoor

/- Facts on the whole program that every statement asks, each by itself. No condition. -/
namespace Go.Proofs.YtanbfhnmklhjiaaGreatDoor
open Go Go.ChangeShapes Go.WideShapes Go.RowKit Go.Ax Go.Fc
theorem and_ok {a b : Bool} (h : a = true) (g : b = true) : (a && b) = true := by rw [h, g]; rfl
theorem laidOut : laidOutB Tryz.prog = true := by kernel_rfl
theorem k_mr : (mapsRowed Tryz.prog) = true := by kernel_rfl
theorem k_st : (Tryz.prog.stops == []) = true := by kernel_rfl
theorem k_sk : (Tryz.prog.stopKnobs == []) = true := by kernel_rfl
theorem k_pk : (Rows.authorityFindsUptoRow.plainKeys == Tryz.prog.plainKeys) = true := by kernel_rfl
theorem k_sh : (Tryz.prog.stopsHeard) = true := by kernel_rfl
theorem k_me : (Tryz.prog.mayEnter) = true := by kernel_rfl
theorem k_lf : (Rows.authorityFindsUptoRow.lifted == Tryz.prog.liftsFinal) = true := by kernel_rfl
theorem k_mk : (Tryz.prog.make == some Rows.authorityFindsUptoRow.make) = true := by kernel_rfl
end Go.Proofs.YtanbfhnmklhjiaaGreatDoor
