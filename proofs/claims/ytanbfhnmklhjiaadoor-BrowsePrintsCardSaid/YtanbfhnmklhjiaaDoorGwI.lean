/- Part of a proof about this program; no condition of its own. -/
import Derived.Test.YtanbfhnmklhjiaaDoorGwH
import Derived.Test.YtanbfhnmklhjiaaDoorGsA
import Derived.Test.YtanbfhnmklhjiaaDoorYZLayB
import Derived.Shelf.SlSortCmp.NoneTotal
import Derived.Test.YtanbfhnmklhjiaaDoorGwE
import Derived.Test.YtanbfhnmklhjiaaDoorGxM
import Derived.Test.YtanbfhnmklhjiaaDoorGxK
import Derived.Test.YtanbfhnmklhjiaaDoorGfA
set_option linter.all false
/- The browse entries sorted by the program's closure. No condition. -/
namespace Go.Proofs
open Go Go.Ax Go.Tx Go.Lib Go.RowKit Go.Fc Go.Shelf Go.Sort
set_option maxRecDepth 100000
set_option maxHeartbeats 0
variable {Γ : List (Nat × List D)}
def _root_.Go.Fc.Br.sm (b : Br) : Prop := b.hd.length ≤ 1000000 ∧ b.ref.length ≤ 1000000
abbrev SBr := {b : Br // b.sm}
instance : Inhabited SBr := ⟨⟨⟨[], [], 0⟩, by simp [Br.sm]⟩⟩
def cmpBr (lang : Str) : List AV → List RV → Prop := fun a r => ∃ x y : Br, x.sm ∧ y.sm ∧ a = [.agg (x.ds.map C.d), .agg (y.ds.map C.d)] ∧ r = [.d (.int .i64 (cmpP lang x.pr y.pr))]
def encBr (b : SBr) : List Value := [encStr b.1.hd, encStr b.1.ref, .int .i64 b.1.cnt]
theorem brs_xs {V : Vw} : ∀ {l : List SBr} {xs : List Value}, All2 (Dr V) (l.map fun b => b.1.ds).flatten xs → xs = (l.map encBr).flatten
  | [], xs, h => by cases h; rfl
  | b :: l, xs, h => by
    rw [List.map_cons, List.flatten_cons, Fc.Br.ds] at h
    cases h with
    | cons h1 h2 => cases h2 with
      | cons h2 h3 => cases h3 with
        | cons h3 h4 => rw [dr_str h1, dr_str h2, dr_int h3, brs_xs h4]; rfl
theorem brs_dr (V : Vw) : ∀ l : List SBr, All2 (Dr V) (l.map fun b => b.1.ds).flatten (l.map encBr).flatten
  | [] => .nil
  | b :: l => .cons (.str _) (.cons (.str _) (.cons (.int _ _) (brs_dr V l)))
theorem brs_scal (l : List SBr) : (l.map fun b => b.1.ds).flatten.all D.scal = true := by
  rw [List.all_eq_true]
  intro d hd
  obtain ⟨e, he, hd⟩ := List.mem_flatten.1 hd
  obtain ⟨b, _, rfl⟩ := List.mem_map.1 he
  simp only [Fc.Br.ds, List.mem_cons, List.not_mem_nil, or_false] at hd
  rcases hd with rfl | rfl | rfl <;> rfl
theorem ltBr_eq (lang : Str) (x y : SBr) : ltOf (fun x y : SBr => cmpP lang x.1.pr y.1.pr) x y = ltP lang x.1.pr y.1.pr := rfl
theorem swoBr (lang : Str) : SWO (ltOf fun x y : SBr => cmpP lang x.1.pr y.1.pr) where
  irrefl x := by rw [ltBr_eq]; exact (sto_P lang).irr _
  trans x y z h1 h2 := by rw [ltBr_eq] at *; exact (sto_P lang).tr _ _ _ h1 h2
  ntrans x y z h1 h2 := by rw [ltBr_eq] at *; exact (sto_P lang).ntr _ _ _ h1 h2
theorem c19 (lang : Str) (l s : List SBr) (hl : l.length < 4611686018427387904) (hs : ∀ l' : List SBr, l'.Perm l → l'.Pairwise (fun x y => ltP lang y.1.pr x.1.pr = false) → l' = s) :
    RFn Tryd.prog Γ 19 29 3 (l.map fun b => b.1.ds) (s.map fun b => b.1.ds) [.c (.fn (FnSpec Tryd.prog Γ (cmpBr lang)))] [] := by
  refine RFn.sort encBr (fun b => b.1.ds) (fun _ => rfl) (fun _ => rfl) (fun x y : SBr => cmpP lang x.1.pr y.1.pr) l s (fun V xs h => brs_xs h) (fun V => brs_dr V s) (fun V x => .cons (.str _) (.cons (.str _) (.cons (.int _ _) .nil))) (brs_scal s) (fun l' h1 h2 => hs l' h1 h2) hl ⟨⟨_, Tryd.func19, by kernel_rfl, by kernel_rfl⟩⟩ (cmpBr lang) (fun x y => ⟨x.1, y.1, x.2, y.2, rfl, rfl⟩) ?_ ?_
  · intro p cap fv w
    exact AnyF.slices_SortFunc_none Tryd.sortBr p cap fv w
  · intro g cb blk cap d w eg hcmp h1 h2 h3
    exact AnyQ.slices_SortFunc Tryd.sortBr 3 Tryd.isAgg29 Tryd.sizeOf29 encBr (fun _ => rfl) (fun x v hv => by simp [encBr] at hv; rcases hv with rfl | rfl | rfl <;> rfl) (fun x y : SBr => cmpP lang x.1.pr y.1.pr) (swoBr lang) g cb blk 0 cap d w eg hcmp h1 h2 h3
end Go.Proofs

/- How many records bear a heading: the program's map. No condition. -/
namespace Go.Proofs
open Go Go.Ax Go.Tx Go.Lib Go.RowKit Go.Fc
set_option maxRecDepth 100000
set_option maxHeartbeats 0
variable {Γ : List (Nat × List D)}
theorem Tryd.mapT52 : MapT Tryd.prog 52 [.str] := MapT.str (K := 9) (E := 3) (by kernel_rfl) (by kernel_rfl) (by kernel_rfl) Tryd.zeroValue3
def cStep (kind : Int) (st : Mp × Mp) (f : Fld) : Mp × Mp :=
  if ¬ kindF f.tag = kind then st else if mget st.2 [.str (headF f)] = 0 then (mput st.1 [.str (headF f)] (mget st.1 [.str (headF f)] + 1), mput st.2 [.str (headF f)] (mget st.2 [.str (headF f)] + 1)) else st
def cRec (kind : Int) (out : Mp) (r : Rec) : Mp := (r.fields.foldl (cStep kind) (out, [])).1
def countsM (l : List Rec) (kind : Int) : Mp := l.foldl (cRec kind) []
theorem fold_take {α β : Type} (f : β → α → β) (l : List α) (b : β) {k : Nat} (h : k < l.length) : (l.take (k + 1)).foldl f b = f ((l.take k).foldl f b) l[k] := by
  rw [List.take_succ_eq_append_getElem h, List.foldl_append]; rfl
theorem mget_mset (k : List KD) (v : Int) (k' : List KD) : ∀ m : Mp, mhas m k = true → mget (mset m (midx m k) v) k' = if k = k' then v else mget m k'
  | [], h => by cases h
  | kv :: r, h => by
    unfold midx
    by_cases hk : kv.1 = k
    · rw [if_pos hk]
      show mget ((kv.1, v) :: r) k' = _
      unfold mget
      rw [hk]
      by_cases h2 : k = k'
      · rw [if_pos h2, if_pos h2]
      · rw [if_neg h2, if_neg h2, if_neg h2]
    · rw [if_neg hk]
      have hr : mhas r k = true := by
        unfold mhas at h ⊢
        simpa [hk] using h
      show mget (kv :: mset r (midx r k) v) k' = _
      unfold mget
      rw [mget_mset k v k' r hr]
      by_cases h2 : kv.1 = k'
      · rw [if_pos h2, if_neg (fun e => hk (h2.trans e.symm)), if_pos h2]
      · rw [if_neg h2, if_neg h2]
theorem mget_mput (m : Mp) (k : List KD) (v : Int) (k' : List KD) : mget (mput m k v) k' = if k = k' then v else mget m k' := by
  cases h : mhas m k with
  | true =>
    unfold mput mpre
    rw [h, if_pos rfl, mget_mset _ _ _ _ h]
  | false =>
    rw [mput_none h]
    induction m with
    | nil => rfl
    | cons kv r ih =>
      have hk : ¬ kv.1 = k := fun e => by simp [mhas, e] at h
      have hr : mhas r k = false := by unfold mhas at h ⊢; simp [hk] at h ⊢; exact h
      have ih' := ih hr
      show mget (kv :: (r ++ [(k, v)])) k' = _
      unfold mget
      rw [ih']
      by_cases h2 : kv.1 = k'
      · rw [if_pos h2, if_neg (fun e => hk (h2.trans e.symm)), if_pos h2]
      · rw [if_neg h2, if_neg h2]
theorem cStep_bd (kind : Int) (st : Mp × Mp) (f : Fld) (k : List KD) (h : 0 ≤ mget st.1 k) : 0 ≤ mget (cStep kind st f).1 k ∧ mget (cStep kind st f).1 k ≤ mget st.1 k + 1 := by
  unfold cStep
  split
  · exact ⟨h, by omega⟩
  · split
    · show 0 ≤ mget (mput _ _ _) k ∧ mget (mput _ _ _) k ≤ _
      rw [mget_mput]
      split
      · next e => rw [e]; omega
      · exact ⟨h, by omega⟩
    · exact ⟨h, by omega⟩
theorem cFold_bd (kind : Int) (k : List KD) : ∀ (fs : List Fld) (st : Mp × Mp), 0 ≤ mget st.1 k → 0 ≤ mget (fs.foldl (cStep kind) st).1 k ∧ mget (fs.foldl (cStep kind) st).1 k ≤ mget st.1 k + fs.length
  | [], st, h => ⟨h, by simp⟩
  | f :: fs, st, h => by
    have h1 := cStep_bd kind st f k h
    have h2 := cFold_bd kind k fs (cStep kind st f) h1.1
    rw [List.foldl_cons, List.length_cons]
    omega
theorem counts_bd (kind : Int) (k : List KD) : ∀ (l : List Rec) (M : Mp), (∀ r ∈ l, r.fields.length ≤ 1000000) → 0 ≤ mget M k → 0 ≤ mget (l.foldl (cRec kind) M) k ∧ mget (l.foldl (cRec kind) M) k ≤ mget M k + 1000000 * l.length
  | [], M, _, h => ⟨h, by simp⟩
  | r :: l, M, hf, h => by
    have h1 := cFold_bd kind k r.fields (M, []) h
    have h2 := counts_bd kind k l (cRec kind M r) (fun x hx => hf x (by simp [hx])) h1.1
    have h3 := hf r (by simp)
    rw [List.foldl_cons, List.length_cons]
    have h4 : mget (cRec kind M r) k = mget (r.fields.foldl (cStep kind) (M, [])).1 k := rfl
    have h5 := h1.2
    have h6 := h2.2
    rw [h4] at h6
    have h7 : mget (M, ([] : Mp)).1 k = mget M k := rfl
    rw [h7] at h5
    omega
theorem c17 (hΓ : (0, stdD) ∈ Γ) (l : List Rec) (kind : Int) (hl : l.length ≤ 1000000) (hf : ∀ r ∈ l, r.fields.length ≤ 1000000) (hh : ∀ r ∈ l, ∀ f ∈ r.fields, f.hok) :
    AFn Tryd.prog Γ 17 [.c (.d (.lst 5 (l.map Rec.ds))), .c (.d (.int .i64 kind))] [.d (.mp [.str] (countsM l kind))] := by
  refine AFn.vc [] Tryd.func17 rfl Tryd.mixed (by kernel_rfl) Tryd.ntmps17 Tryd.results17 (by simp) ?_
  push_cast
  refine LoopV.cntH Tryd.mixed [1, 5, 13, 14] l.length (fun k => [(15, .c (.d (.int .i64 k)))]) (fun k => [.mp [.str] (countsM (l.take k) kind)]) (fun _ => True) trivial ?_ (by push_cast; rfl)
  intro k hk _
  push_cast
  refine ⟨fun h => ?_, fun h => ?_⟩
  · have hlt : k < l.length := by omega
    refine ⟨hlt, ?_⟩
    have hfk := hf _ (List.getElem_mem hlt)
    have hhk := hh _ (List.getElem_mem hlt)
    have hst : countsM (l.take (k + 1)) kind = cRec kind (countsM (l.take k) kind) l[k] := fold_take _ _ _ hlt
    have hMb := fun q => counts_bd kind q (l.take k) [] (fun x hx => hf x (List.mem_of_mem_take hx)) (Int.le_refl 0)
    have hMl : (l.take k).length ≤ 1000000 := by rw [List.length_take]; omega
    change ∀ q, 0 ≤ mget (countsM (l.take k) kind) q ∧ mget (countsM (l.take k) kind) q ≤ 0 + 1000000 * (l.take k).length at hMb
    generalize countsM (l.take k) kind = M at *
    generalize hR : l[k] = r at *
    refine LoopV.cntH Tryd.mixed [1, 5, 8, 13, 14, 15, 21, 22] r.fields.length (fun j => [(23, .c (.d (.int .i64 j)))]) (fun j => [.mp [.str] ((r.fields.take j).foldl (cStep kind) (M, [])).1, .box 40 (r.ds.map C.d), .mp [.str] ((r.fields.take j).foldl (cStep kind) (M, [])).2]) (fun _ => True) trivial ?_ (by push_cast; exact ⟨rfl, rfl⟩)
    intro j hj _
    push_cast
    refine ⟨fun h2 => ?_, fun h2 => ?_⟩
    · have hjt : j < r.fields.length := by omega
      refine ⟨hjt, ?_⟩
      refine CallL.q (c24 hΓ r.fields[j].tag) ?_
      push_cast
      have hst2 := fold_take (cStep kind) r.fields (M, []) hjt
      have hSb := cFold_bd kind [.str (headF r.fields[j])] (r.fields.take j) (M, []) (hMb _).1
      have hM2 := (hMb [.str (headF r.fields[j])]).2
      have hSl : (r.fields.take j).length ≤ 1000000 := by rw [List.length_take]; omega
      generalize (r.fields.take j).foldl (cStep kind) (M, []) = S at *
      rw [hst2]
      unfold cStep
      refine ⟨fun e => ?_, fun e => ?_⟩
      · rw [if_pos e]; exact ⟨⟨by omega, by omega⟩, hjt, rfl, rfl⟩
      · rw [if_neg (by simpa using e)]
        refine CallL.q (c25 hΓ r.fields[j] (hhk _ (List.getElem_mem hjt))) ?_
        push_cast
        have hkl := headF_len (hhk _ (List.getElem_mem hjt))
        have hKl : (headF r.fields[j]).length ≤ 9223372036854775807 := by omega
        have hq : mget (M, ([] : Mp)).1 [.str (headF r.fields[j])] = mget M [.str (headF r.fields[j])] := rfl
        rw [hq] at hSb
        refine ⟨⟨Tryd.mapT52, hKl⟩, fun e2 => ?_, fun e2 => ?_⟩
        · rw [if_pos e2]
          exact ⟨⟨Tryd.mapT52, hKl⟩, ⟨by omega, by omega⟩, ⟨Tryd.mapT52, hKl⟩, ⟨Tryd.mapT52, hKl⟩, ⟨by omega, by omega⟩, ⟨Tryd.mapT52, hKl⟩, ⟨by omega, by omega⟩, hjt, rfl, rfl⟩
        · rw [if_neg e2]
          exact ⟨⟨by omega, by omega⟩, hjt, rfl, rfl⟩
    · rw [hst, cRec, List.take_of_length_le (by omega)]
      exact ⟨⟨by omega, by omega⟩, hlt, rfl⟩
  · rw [List.take_of_length_le (by omega)]
end Go.Proofs

/- What the program's maps of counts and of pairs hold. No condition. -/
namespace Go.Proofs
open Go Go.Ax Go.Tx Go.Fc
def headH (f : Fld) : Int × Str := (kindF f.tag, headF f)
def kp (p : Pr) : List KD := [.str p.1, .str p.2]
theorem kp_inj {p q : Pr} (h : kp p = kp q) : p = q := by
  obtain ⟨a, b⟩ := p
  obtain ⟨c, d⟩ := q
  simp [kp] at h
  rw [h.1, h.2]
structure AddInv (seen : Mp) (q : List Pr) : Prop where
  get : ∀ p, mget seen (kp p) = if p ∈ q then 1 else 0
  nd : q.Nodup
theorem AddInv.nil : AddInv [] [] := ⟨fun p => rfl, List.nodup_nil⟩
theorem AddInv.zero {seen : Mp} {q : List Pr} (h : AddInv seen q) (p : Pr) : mget seen (kp p) = 0 ↔ p ∉ q := by
  rw [h.get p]
  split
  · next e => exact ⟨fun x => by omega, fun x => absurd e x⟩
  · next e => exact ⟨fun _ => e, fun _ => rfl⟩
theorem AddInv.add {seen : Mp} {q : List Pr} (h : AddInv seen q) {p : Pr} (h0 : mget seen (kp p) = 0) : AddInv (mput seen (kp p) (mget seen (kp p) + 1)) (q ++ [p]) := by
  have hp := (h.zero p).1 h0
  refine ⟨fun p' => ?_, ?_⟩
  · rw [mget_mput]
    by_cases e : kp p = kp p'
    · rw [if_pos e, h0, ← kp_inj e]
      simp
    · rw [if_neg e, h.get p']
      have hne : ¬ p' = p := fun x => e (by rw [x])
      by_cases h2 : p' ∈ q
      · rw [if_pos h2, if_pos (List.mem_append_left _ h2)]
      · rw [if_neg h2, if_neg (fun x => by
          rcases List.mem_append.1 x with x | x
          · exact h2 x
          · exact hne (by simpa using x))]
  · rw [List.nodup_append]
    exact ⟨h.nd, by simp, fun a ha b hb => by
      have : b = p := by simpa using hb
      rw [this]
      exact fun x => hp (x ▸ ha)⟩
/-! ### counts -/
theorem cStep_seen (kind : Int) (st : Mp × Mp) (f : Fld) (h : Str) : (mget (cStep kind st f).2 [.str h] = 0) ↔ (mget st.2 [.str h] = 0 ∧ ¬ headH f = (kind, h)) := by
  unfold cStep headH
  by_cases e : kindF f.tag = kind
  · rw [if_neg (by simpa using e)]
    by_cases e0 : mget st.2 [.str (headF f)] = 0
    · rw [if_pos e0]
      show mget (mput _ _ _) _ = 0 ↔ _
      rw [mget_mput, e0]
      by_cases eh : headF f = h
      · rw [if_pos (by rw [eh])]
        simp [e, eh]
      · rw [if_neg (by simpa using eh)]
        simp [eh]
    · rw [if_neg e0]
      constructor
      · intro x
        refine ⟨x, fun y => e0 ?_⟩
        injection y with y1 y2
        rw [y2]; exact x
      · exact fun x => x.1
  · rw [if_pos e]
    simp [e]
theorem cStep_out (kind : Int) (st : Mp × Mp) (f : Fld) (h : Str) : mget (cStep kind st f).1 [.str h] = mget st.1 [.str h] + (if mget st.2 [.str h] = 0 ∧ headH f = (kind, h) then 1 else 0) := by
  unfold cStep headH
  by_cases e : kindF f.tag = kind
  · rw [if_neg (by simpa using e)]
    by_cases e0 : mget st.2 [.str (headF f)] = 0
    · rw [if_pos e0]
      show mget (mput _ _ _) _ = _
      rw [mget_mput]
      by_cases eh : headF f = h
      · subst eh
        rw [if_pos rfl, if_pos ⟨e0, by rw [e]⟩]
      · rw [if_neg (by simpa using eh), if_neg (fun x => eh (by injection x.2))]
        omega
    · rw [if_neg e0, if_neg (fun x => e0 (by have := x.2; injection this with y1 y2; rw [y2]; exact x.1))]
      omega
  · rw [if_pos e, if_neg (fun x => e (by injection x.2))]
    omega
theorem cFold_out (kind : Int) (h : Str) : ∀ (fs : List Fld) (st : Mp × Mp), mget (fs.foldl (cStep kind) st).1 [.str h] = mget st.1 [.str h] + (if mget st.2 [.str h] = 0 ∧ (fs.any fun f => decide (headH f = (kind, h))) = true then 1 else 0)
  | [], st => by simp
  | f :: fs, st => by
    rw [List.foldl_cons, cFold_out kind h fs (cStep kind st f), cStep_out, List.any_cons]
    have hs := cStep_seen kind st f h
    by_cases e0 : mget st.2 [.str h] = 0
    · by_cases e1 : headH f = (kind, h)
      · rw [if_pos ⟨e0, e1⟩, if_neg (fun x => (hs.1 x.1).2 e1), if_pos ⟨e0, by simp [e1]⟩]
        omega
      · rw [if_neg (fun x => e1 x.2)]
        by_cases e2 : (fs.any fun f => decide (headH f = (kind, h))) = true
        · rw [if_pos ⟨hs.2 ⟨e0, e1⟩, e2⟩, if_pos ⟨e0, by rw [e2]; simp⟩]
          omega
        · rw [if_neg (fun x => e2 x.2), if_neg (fun x => e2 (by simpa [e1] using x.2))]
          omega
    · rw [if_neg (fun x => e0 x.1), if_neg (fun x => e0 (hs.1 x.1).1), if_neg (fun x => e0 x.1)]
      omega
theorem counts_get (kind : Int) (h : Str) : ∀ (l : List Rec) (M : Mp), mget (l.foldl (cRec kind) M) [.str h] = mget M [.str h] + cntH headH l kind h
  | [], M => by simp [cntH]
  | r :: l, M => by
    rw [List.foldl_cons, counts_get kind h l]
    have h1 := cFold_out kind h r.fields (M, [])
    change mget (cRec kind M r) [.str h] = mget M [.str h] + _ at h1
    rw [h1]
    unfold cntH
    rw [List.countP_cons]
    have e : hasH headH r kind h = (r.fields.any fun f => decide (headH f = (kind, h))) := rfl
    rw [e]
    have e0 : mget ([] : Mp) [.str h] = 0 := rfl
    by_cases e2 : (r.fields.any fun f => decide (headH f = (kind, h))) = true
    · rw [if_pos ⟨e0, e2⟩, if_pos e2]; push_cast; omega
    · rw [if_neg (fun x => e2 x.2), if_neg e2]; push_cast; omega
theorem countsM_get (l : List Rec) (kind : Int) (h : Str) : mget (countsM l kind) [.str h] = cntH headH l kind h := by
  have := counts_get kind h l []
  rw [show mget ([] : Mp) [.str h] = 0 from rfl, Int.zero_add] at this
  exact this
end Go.Proofs

/- The keys of the program's map of counts. No condition. -/
namespace Go.Proofs
open Go Go.Ax Go.Tx Go.Fc
theorem mhas_iff {m : Mp} {k : List KD} : mhas m k = true ↔ k ∈ m.map (·.1) := by
  unfold mhas
  simp only [List.any_eq_true, decide_eq_true_eq, beq_iff_eq, List.mem_map]
theorem mset_keys (m : Mp) (i : Nat) (v : Int) : (mset m i v).map (·.1) = m.map (·.1) := by
  unfold mset
  apply List.ext_getElem?
  intro j
  rw [List.getElem?_map, List.getElem?_map, List.getElem?_modify]
  cases m[j]? with
  | none => rfl
  | some kv => simp only [Option.map_some]; split <;> rfl
theorem mput_keys (m : Mp) (k : List KD) (v : Int) : (mput m k v).map (·.1) = if k ∈ m.map (·.1) then m.map (·.1) else m.map (·.1) ++ [k] := by
  by_cases h : k ∈ m.map (·.1)
  · rw [if_pos h]
    unfold mput mpre
    rw [mhas_iff.2 h, if_pos rfl, mset_keys]
  · rw [if_neg h, mput_none (by cases e : mhas m k with | false => rfl | true => exact absurd (mhas_iff.1 e) h)]
    simp
theorem mput_nodup {m : Mp} {k : List KD} {v : Int} (h : (m.map (·.1)).Nodup) : ((mput m k v).map (·.1)).Nodup := by
  rw [mput_keys]
  split
  · exact h
  · next e =>
    rw [List.nodup_append]
    exact ⟨h, by simp, fun a ha b hb => by
      have : b = k := by simpa using hb
      rw [this]
      exact fun x => e (x ▸ ha)⟩
theorem mput_mem {m : Mp} {k : List KD} {v : Int} {x : List KD} (h : x ∈ (mput m k v).map (·.1)) : x ∈ m.map (·.1) ∨ x = k := by
  rw [mput_keys] at h
  split at h
  · exact .inl h
  · rcases List.mem_append.1 h with h | h
    · exact .inl h
    · exact .inr (by simpa using h)
theorem mput_len (m : Mp) (k : List KD) (v : Int) : (mput m k v).length ≤ m.length + 1 := by
  have := congrArg List.length (mput_keys m k v)
  rw [List.length_map] at this
  rw [this]
  split <;> simp
structure KeysOk (l : List Rec) (kind : Int) (M : Mp) : Prop where
  nd : (M.map (·.1)).Nodup
  key : ∀ k ∈ M.map (·.1), ∃ r ∈ l, ∃ f ∈ r.fields, headH f = (kind, headF f) ∧ k = [.str (headF f)]
theorem KeysOk.step {l : List Rec} {kind : Int} {st : Mp × Mp} (h : KeysOk l kind st.1) {r : Rec} (hr : r ∈ l) {f : Fld} (hf : f ∈ r.fields) : KeysOk l kind (cStep kind st f).1 := by
  unfold cStep
  by_cases e : kindF f.tag = kind
  · rw [if_neg (by simpa using e)]
    split
    · exact ⟨mput_nodup h.nd, fun k hk => (mput_mem hk).elim (h.key k) fun x => ⟨r, hr, f, hf, by rw [headH, e], x⟩⟩
    · exact h
  · rw [if_pos e]; exact h
theorem KeysOk.fold {l : List Rec} {kind : Int} {r : Rec} (hr : r ∈ l) : ∀ (fs : List Fld) (st : Mp × Mp), (∀ f ∈ fs, f ∈ r.fields) → KeysOk l kind st.1 → KeysOk l kind (fs.foldl (cStep kind) st).1
  | [], _, _, h => h
  | f :: fs, st, hs, h => KeysOk.fold hr fs _ (fun x hx => hs x (by simp [hx])) (h.step hr (hs f (by simp)))
theorem KeysOk.all {l : List Rec} {kind : Int} : ∀ (rs : List Rec) (M : Mp), (∀ r ∈ rs, r ∈ l) → KeysOk l kind M → KeysOk l kind (rs.foldl (cRec kind) M)
  | [], _, _, h => h
  | r :: rs, M, hs, h => KeysOk.all rs _ (fun x hx => hs x (by simp [hx])) (KeysOk.fold (hs r (by simp)) r.fields (M, []) (fun f hf => hf) h)
theorem countsM_keys (l : List Rec) (kind : Int) : KeysOk l kind (countsM l kind) := KeysOk.all l [] (fun r hr => hr) ⟨List.nodup_nil, fun k hk => by cases hk⟩
theorem countsM_mem {l : List Rec} {kind : Int} {kv : List KD × Int} (h : kv ∈ countsM l kind) : ∃ r ∈ l, ∃ f ∈ r.fields, headH f = (kind, headF f) ∧ kv.1 = [.str (headF f)] ∧ kv.2 = cntH headH l kind (headF f) := by
  have hk := countsM_keys l kind
  obtain ⟨r, hr, f, hf, h1, h2⟩ := hk.key kv.1 (List.mem_map_of_mem h)
  refine ⟨r, hr, f, hf, h1, h2, ?_⟩
  obtain ⟨j, hj⟩ := List.getElem?_of_mem h
  have := (midx_of hk.nd hj h2).2.1
  rw [← this, countsM_get]
theorem countsM_has {l : List Rec} {kind : Int} {r : Rec} (hr : r ∈ l) {f : Fld} (hf : f ∈ r.fields) (h : kindF f.tag = kind) : ∃ kv ∈ countsM l kind, kv.1 = [.str (headF f)] := by
  have hpos : 0 < cntH headH l kind (headF f) := by
    unfold cntH
    have : 0 < l.countP fun r => hasH headH r kind (headF f) := List.countP_pos_iff.2 ⟨r, hr, by
      unfold hasH
      exact List.any_eq_true.2 ⟨f, hf, by simp [headH, h]⟩⟩
    omega
  rw [← countsM_get] at hpos
  cases e : mhas (countsM l kind) [.str (headF f)] with
  | false => rw [(mget_none e).1] at hpos; omega
  | true =>
    obtain ⟨kv, h1, h2⟩ := List.mem_map.1 (mhas_iff.1 e)
    exact ⟨kv, h1, h2⟩
theorem cStep_len (kind : Int) (st : Mp × Mp) (f : Fld) : (cStep kind st f).1.length ≤ st.1.length + 1 := by
  unfold cStep
  split
  · omega
  · split
    · exact mput_len _ _ _
    · omega
theorem cFold_len (kind : Int) : ∀ (fs : List Fld) (st : Mp × Mp), (fs.foldl (cStep kind) st).1.length ≤ st.1.length + fs.length
  | [], _ => by simp
  | f :: fs, st => by
    rw [List.foldl_cons, List.length_cons]
    have h1 := cFold_len kind fs (cStep kind st f)
    have h2 := cStep_len kind st f
    omega
theorem counts_len (kind : Int) : ∀ (l : List Rec) (M : Mp), (l.foldl (cRec kind) M).length ≤ M.length + (l.flatMap fun r => r.fields).length
  | [], M => by simp
  | r :: l, M => by
    rw [List.foldl_cons, List.flatMap_cons, List.length_append]
    have h1 := counts_len kind l (cRec kind M r)
    have h2 : (cRec kind M r).length ≤ M.length + r.fields.length := cFold_len kind r.fields (M, [])
    omega
end Go.Proofs

/- What holds while the program puts the headings of the records. No condition. -/
namespace Go.Proofs
open Go Go.Ax Go.Tx Go.Fc
theorem mem_pairsR {l : List Rec} {kind : Int} {p : Pr} : p ∈ pairsR headH l kind ↔ ∃ r ∈ l, ∃ f ∈ r.fields, kindF f.tag = kind ∧ headF f ≠ [] ∧ p = (headF f, []) := by
  unfold pairsR
  simp only [List.mem_flatMap, List.mem_map, List.mem_filter, Bool.and_eq_true, decide_eq_true_eq]
  constructor
  · rintro ⟨r, hr, f, ⟨hf, h1, h2⟩, rfl⟩
    exact ⟨r, hr, f, hf, h1, h2, rfl⟩
  · rintro ⟨r, hr, f, hf, h1, h2, rfl⟩
    exact ⟨r, hr, f, ⟨hf, h1, h2⟩, rfl⟩
structure In0 (l : List Rec) (kind : Int) (M todo seen : Mp) (q : List Pr) : Prop where
  sub : ∀ kv ∈ todo, kv ∈ M
  add : AddInv seen q
  len : q.length + todo.length ≤ M.length
  q1 : ∀ p ∈ q, p ∈ pairsR headH l kind
  q2 : ∀ p ∈ pairsR headH l kind, p ∈ q ∨ ∃ kv ∈ todo, kv.1 = [.str p.1]
theorem In0.start (l : List Rec) (kind : Int) : In0 l kind (countsM l kind) (countsM l kind) [] [] where
  sub _ h := h
  add := .nil
  len := by simp
  q1 p h := by cases h
  q2 p h := by
    obtain ⟨r, hr, f, hf, h1, h2, rfl⟩ := mem_pairsR.1 h
    exact .inr (countsM_has hr hf h1)
theorem erase_mem {todo : Mp} {i : Nat} (hi : i < todo.length) {kv : List KD × Int} (h : kv ∈ todo) : kv = todo[i] ∨ kv ∈ todo.eraseIdx i := by
  obtain ⟨j, hj, e⟩ := List.getElem_of_mem h
  by_cases hij : j = i
  · subst hij; exact .inl e.symm
  · exact .inr (List.mem_eraseIdx_iff_getElem.2 ⟨j, hj, hij, e⟩)
theorem pairsR_snd {l : List Rec} {kind : Int} {p : Pr} (h : p ∈ pairsR headH l kind) : p.1 ≠ [] ∧ p.2 = [] := by
  obtain ⟨r, hr, f, hf, h1, h2, rfl⟩ := mem_pairsR.1 h
  exact ⟨h2, rfl⟩
theorem In0.put {l : List Rec} {kind : Int} {todo seen : Mp} {q : List Pr} (h : In0 l kind (countsM l kind) todo seen q) {i : Nat} (hi : i < todo.length) {hd : Str} (hkv : todo[i].1 = [.str hd]) (hne : hd ≠ []) (h0 : mget seen (kp (hd, [])) = 0) :
    In0 l kind (countsM l kind) (todo.eraseIdx i) (mput seen (kp (hd, [])) (mget seen (kp (hd, [])) + 1)) (q ++ [(hd, [])]) where
  sub kv hk := h.sub kv (List.mem_of_mem_eraseIdx hk)
  add := h.add.add h0
  len := by have := h.len; rw [List.length_append, List.length_eraseIdx_of_lt hi]; simp; omega
  q1 p hp := by
    rcases List.mem_append.1 hp with hp | hp
    · exact h.q1 p hp
    · obtain ⟨r, hr, f, hf, h1, h2, _⟩ := countsM_mem (h.sub _ (List.getElem_mem hi))
      have e : headF f = hd := by rw [hkv] at h2; simpa using h2.symm
      have hp' : p = (hd, []) := by simpa using hp
      rw [hp']
      refine mem_pairsR.2 ⟨r, hr, f, hf, ?_, by rw [e]; exact hne, by rw [e]⟩
      injection h1
  q2 p hp := by
    rcases h.q2 p hp with h1 | ⟨kv, hk, e⟩
    · exact .inl (List.mem_append_left _ h1)
    · rcases erase_mem hi hk with h2 | h2
      · refine .inl (List.mem_append_right _ ?_)
        rw [h2, hkv] at e
        have e1 : hd = p.1 := by simpa using e
        have e2 := (pairsR_snd hp).2
        simp only [List.mem_singleton]
        exact Prod.ext e1.symm e2
      · exact .inr ⟨kv, h2, e⟩
theorem In0.skip {l : List Rec} {kind : Int} {todo seen : Mp} {q : List Pr} (h : In0 l kind (countsM l kind) todo seen q) {i : Nat} (hi : i < todo.length) {hd : Str} (hkv : todo[i].1 = [.str hd]) (h0 : hd = [] ∨ ¬ mget seen (kp (hd, [])) = 0) :
    In0 l kind (countsM l kind) (todo.eraseIdx i) seen q where
  sub kv hk := h.sub kv (List.mem_of_mem_eraseIdx hk)
  add := h.add
  len := by have := h.len; rw [List.length_eraseIdx_of_lt hi]; omega
  q1 := h.q1
  q2 p hp := by
    rcases h.q2 p hp with h1 | ⟨kv, hk, e⟩
    · exact .inl h1
    · rcases erase_mem hi hk with h2 | h2
      · rw [h2, hkv] at e
        have e1 : hd = p.1 := by simpa using e
        have e2 := pairsR_snd hp
        rcases h0 with h0 | h0
        · exact absurd (e1.symm.trans h0) e2.1
        · have hq : (hd, ([] : Str)) ∈ q := by
            rcases Classical.em ((hd, ([] : Str)) ∈ q) with x | x
            · exact x
            · exact absurd ((h.add.zero _).2 x) h0
          exact .inl (by rw [show p = (hd, []) from Prod.ext e1.symm e2.2]; exact hq)
      · exact .inr ⟨kv, h2, e⟩
theorem In0.done {l : List Rec} {kind : Int} {M seen : Mp} {q : List Pr} (h : In0 l kind M [] seen q) (p : Pr) : p ∈ q ↔ p ∈ pairsR headH l kind :=
  ⟨h.q1 p, fun hp => (h.q2 p hp).elim id fun ⟨kv, hk, _⟩ => by cases hk⟩
end Go.Proofs

/- Pairs put one by one, as the program's closure does it. No condition. -/
namespace Go.Proofs
open Go Go.Ax Go.Tx Go.Fc
def addP (st : Mp × List Pr) (p : Pr) : Mp × List Pr := if mget st.1 (kp p) = 0 then (mput st.1 (kp p) (mget st.1 (kp p) + 1), st.2 ++ [p]) else st
def aPairs (a : Au) : List Pr := (a.hd, []) :: a.see.map fun s => (s, a.hd)
def aStep (kind : Int) (st : Mp × List Pr) (a : Au) : Mp × List Pr := if ¬ a.kind = kind then st else (a.see.map fun s => ((s, a.hd) : Pr)).foldl addP (addP st (a.hd, []))
structure AddOk (st : Mp × List Pr) (S : Pr → Prop) (n : Nat) : Prop where
  inv : AddInv st.1 st.2
  mem : ∀ p, p ∈ st.2 ↔ S p
  len : st.2.length ≤ n
theorem AddOk.add {st : Mp × List Pr} {S : Pr → Prop} {n : Nat} (h : AddOk st S n) (p : Pr) : AddOk (addP st p) (fun x => S x ∨ x = p) (n + 1) := by
  unfold addP
  by_cases e : mget st.1 (kp p) = 0
  · rw [if_pos e]
    refine ⟨h.inv.add e, fun x => ?_, ?_⟩
    · show x ∈ st.2 ++ [p] ↔ _
      rw [List.mem_append, List.mem_singleton, h.mem]
    · show (st.2 ++ [p]).length ≤ _
      rw [List.length_append]; have := h.len; simp; omega
  · rw [if_neg e]
    refine ⟨h.inv, fun x => ?_, Nat.le_succ_of_le h.len⟩
    rw [h.mem]
    have hp : S p := (h.mem p).1 (Classical.byContradiction fun x => e ((h.inv.zero p).2 x))
    exact ⟨.inl, fun x => x.elim id fun e => e ▸ hp⟩
theorem AddOk.fold : ∀ (ps : List Pr) {st : Mp × List Pr} {S : Pr → Prop} {n : Nat}, AddOk st S n → AddOk (ps.foldl addP st) (fun x => S x ∨ x ∈ ps) (n + ps.length)
  | [], st, S, n, h => ⟨h.inv, fun x => by rw [List.foldl_nil, h.mem]; simp, by simpa using h.len⟩
  | p :: ps, st, S, n, h => by
    have h1 := AddOk.fold ps (h.add p)
    rw [List.foldl_cons]
    refine ⟨h1.inv, fun x => ?_, by have := h1.len; rw [List.length_cons]; omega⟩
    rw [h1.mem, List.mem_cons]
    exact ⟨fun x => by rcases x with (x | x) | x; exact .inl x; exact .inr (.inl x); exact .inr (.inr x), fun x => by rcases x with x | x | x; exact .inl (.inl x); exact .inl (.inr x); exact .inr x⟩
theorem AddOk.au {kind : Int} {st : Mp × List Pr} {S : Pr → Prop} {n : Nat} (h : AddOk st S n) (a : Au) : AddOk (aStep kind st a) (fun x => S x ∨ x ∈ pairsA [a] kind) (n + (pairsA [a] kind).length) := by
  unfold aStep
  by_cases e : a.kind = kind
  · rw [if_neg (by simpa using e)]
    have h1 := AddOk.fold (aPairs a) h
    have e1 : pairsA [a] kind = aPairs a := by simp [pairsA, aPairs, e]
    rw [e1]
    exact h1
  · rw [if_pos e]
    have e1 : pairsA [a] kind = [] := by simp [pairsA, e]
    rw [e1]
    exact ⟨h.inv, fun x => by rw [h.mem]; simp, by simpa using h.len⟩
theorem pairsA_cons (a : Au) (l : List Au) (kind : Int) : pairsA (a :: l) kind = pairsA [a] kind ++ pairsA l kind := by
  unfold pairsA
  rw [← List.flatMap_append, ← List.filter_append]; rfl
theorem AddOk.aus {kind : Int} : ∀ (us : List Au) {st : Mp × List Pr} {S : Pr → Prop} {n : Nat}, AddOk st S n → AddOk (us.foldl (aStep kind) st) (fun x => S x ∨ x ∈ pairsA us kind) (n + (pairsA us kind).length)
  | [], st, S, n, h => ⟨h.inv, fun x => by rw [List.foldl_nil, h.mem]; simp [pairsA], by simpa [pairsA] using h.len⟩
  | a :: us, st, S, n, h => by
    have h1 := AddOk.aus (kind := kind) us (h.au (kind := kind) a)
    rw [List.foldl_cons, pairsA_cons]
    refine ⟨h1.inv, fun x => ?_, by have := h1.len; rw [List.length_append]; omega⟩
    rw [h1.mem, List.mem_append]
    exact ⟨fun x => by rcases x with (x | x) | x; exact .inl x; exact .inr (.inl x); exact .inr (.inr x), fun x => by rcases x with x | x | x; exact .inl (.inl x); exact .inl (.inr x); exact .inr x⟩
theorem pairsA_take (us : List Au) (kind : Int) (k : Nat) : (pairsA (us.take k) kind).length ≤ (pairsA us kind).length := by
  have h : pairsA us kind = pairsA (us.take k) kind ++ pairsA (us.drop k) kind := by
    unfold pairsA
    rw [← List.flatMap_append, ← List.filter_append, List.take_append_drop]
  rw [h, List.length_append]
  omega
theorem In0.ok {l : List Rec} {kind : Int} {seen : Mp} {q : List Pr} (h : In0 l kind (countsM l kind) [] seen q) : AddOk (seen, q) (fun p => p ∈ pairsR headH l kind) (countsM l kind).length :=
  ⟨h.add, h.done, by have := h.len; simpa using this⟩
end Go.Proofs
