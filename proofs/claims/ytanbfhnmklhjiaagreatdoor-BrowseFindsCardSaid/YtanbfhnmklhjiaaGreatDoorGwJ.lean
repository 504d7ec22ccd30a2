/- Part of a proof about this program; no condition of its own. -/
import Derived.Test.YtanbfhnmklhjiaaGreatDoorGwF
import Derived.Test.YtanbfhnmklhjiaaGreatDoorGwE
import Derived.Test.YtanbfhnmklhjiaaGreatDoorGwI
set_option linter.all false
/- The reference's browse list: entries put in. No condition. -/
namespace Go.Fc
open Go Go.Ax Go.Or Go.Tx
/-- A pair of texts of moderate size. -/
structure PrOk (p : Pr) : Prop where
  v1 : validF p.1 = true
  v2 : validF p.2 = true
  n1 : p.1.length ≤ 100000
  n2 : p.2.length ≤ 100000
theorem cmpPR_eq {lang : Str} {x y : Pr} (hx : PrOk x) (hy : PrOk y) : Proofs.cmpPR lang x y = cmpP lang x y := by
  unfold Proofs.cmpPR cmpP
  rw [Proofs.cmpKR_eq hx.v1 hy.v1, Proofs.cmpKR_eq hx.v2 hy.v2]
theorem put_step' {lang : Str} {l : List Pr} {k : Nat} {n : Pr} {d : Bool} (h : k < l.length) : put (ltP lang) (l.drop k) n d = if d = false ∧ 0 < cmpP lang l[k] n then n :: l[k] :: put (ltP lang) (l.drop (k + 1)) n true else l[k] :: put (ltP lang) (l.drop (k + 1)) n (d || decide (cmpP lang l[k] n = 0)) := by
  rw [drop_cons h]
  show (if _ then _ else _) = _
  have e : decide (l[k] = n) = decide (cmpP lang l[k] n = 0) := decide_eq_decide.2 (cmpP_zero lang _ _).symm
  rw [e]
  by_cases c : d = false ∧ 0 < cmpP lang l[k] n
  · rw [if_pos c, if_pos ⟨c.1, cmpP_pos.1 c.2⟩]
  · rw [if_neg c, if_neg (fun q => c ⟨q.1, cmpP_pos.2 q.2⟩)]
theorem put_end' {lang : Str} {l : List Pr} {k : Nat} {n : Pr} {d : Bool} (h : ¬ k < l.length) : put (ltP lang) (l.drop k) n d = if d then [] else [n] := by
  rw [List.drop_eq_nil_of_le (by omega)]; rfl
end Go.Fc
namespace Go.Proofs
open Go Go.Ax Go.Tx Go.Lib Go.RowKit Go.Fc
set_option maxRecDepth 100000
set_option maxHeartbeats 0
variable {Γ : List (Nat × List D)}
theorem put_ok {lang : Str} {l : List Pr} {p : Pr} (ho : ∀ x ∈ l, PrOk x) (hp : PrOk p) : ∀ x ∈ Or.put (ltP lang) l p false, PrOk x := fun x hx => by
  rcases Or.put_mem p l false x hx with h | h
  · rw [h]; exact hp
  · exact ho x h
theorem F_hd {F : Pr → Br} (hF : ∀ p, (F p).pr = p) (p : Pr) : (F p).hd = p.1 ∧ (F p).ref = p.2 := by
  have := hF p
  unfold Br.pr at this
  exact ⟨congrArg Prod.fst this, congrArg Prod.snd this⟩
theorem c68 (lang : Str) (F : Pr → Br) (hF : ∀ p, (F p).pr = p) (l : List Pr) (p : Pr) (hl : l.length ≤ 1000000) (ho : ∀ x ∈ l, PrOk x) (hp : PrOk p) :
    AFn Tryz.prog Γ 68 [.c (.d (.lst 3 ((l.map F).map Br.ds))), .c (.d (.str lang)), .agg ((F p).ds.map C.d)] [.d (.lst 3 (((Or.put (ltP lang) l p false).map F).map Br.ds))] := by
  generalize hR : Or.put (ltP lang) l p false = R
  refine AFn.vc [] Tryz.func68 rfl Tryz.mixed (by kernel_rfl) Tryz.ntmps68 Tryz.results68 (by simp) ?_
  push_cast
  refine LoopV.of Tryz.mixed [0, 1, 5, 6] (S := Nat × List Pr × Bool) (fun s => [(7, .c (.own 1 s.2.1.length)), (8, .c (.d (.bool s.2.2))), (9, .c (.d (.int .i64 s.1)))]) (fun s => [.box 37 ((F p).ds.map C.d), .row 37 3 ((s.2.1.map F).map Br.ds) s.2.1.length]) (fun s => s.1 ≤ l.length ∧ s.2.1.length ≤ 2 * s.1 ∧ R = s.2.1 ++ Or.put (ltP lang) (l.drop s.1) p s.2.2) (fun s => l.length - s.1) (0, [], false) (by simp [hR]) (by push_cast) ?_
  rintro ⟨k, o, d⟩ ⟨hk, ho2, hinv⟩
  simp only at hk ho2 hinv
  push_cast
  refine ⟨fun h => ?_, fun h => ?_⟩
  · have hlt : k < l.length := by omega
    have hox := ho _ (List.getElem_mem hlt)
    rw [put_step' hlt] at hinv
    refine ⟨hlt, ?_⟩
    have h23 := c23 (Γ := Γ) lang (F l[k]) (F p) (by rw [(F_hd hF _).1]; exact hox.n1) (by rw [(F_hd hF _).1]; exact hp.n1) (by rw [(F_hd hF _).2]; exact hox.n2) (by rw [(F_hd hF _).2]; exact hp.n2)
    rw [hF, hF, cmpPR_eq hox hp] at h23
    refine CallX.q h23 ?_
    push_cast
    have one : ∀ e : Bool, e = (d || decide (cmpP lang l[k] p = 0)) → ¬ (d = false ∧ 0 < cmpP lang l[k] p) → R = (o ++ [l[k]]) ++ Or.put (ltP lang) (l.drop (k + 1)) p e := fun e h1 h2 => by
      rw [hinv, if_neg h2, h1]; simp
    refine ⟨fun e => ⟨fun f => by omega, fun f => ?_⟩, fun e => ⟨fun f => ⟨fun g => ?_, fun g => ?_⟩, fun f => ?_⟩⟩
    · exact ⟨hlt, by omega, by omega, (k + 1, o ++ [l[k]], true), ⟨⟨by show k + 1 ≤ _; omega, by simp <;> omega, one true (by simp [e]) (by omega)⟩, by show l.length - (k + 1) < _; omega⟩, ⟨by simp, rfl, by push_cast⟩, by simp [Br.ds], by simp⟩
    · exact ⟨by omega, hlt, by omega, by omega, (k + 1, o ++ [p, l[k]], true), ⟨⟨by show k + 1 ≤ _; omega, by simp <;> omega, by rw [hinv, if_pos ⟨g, f⟩]; simp⟩, by show l.length - (k + 1) < _; omega⟩, ⟨by simp, rfl, by push_cast⟩, by simp [Br.ds], by simp⟩
    · exact ⟨hlt, by omega, by omega, (k + 1, o ++ [l[k]], d), ⟨⟨by show k + 1 ≤ _; omega, by simp <;> omega, one d (by simp [e]) (by simp [g])⟩, by show l.length - (k + 1) < _; omega⟩, ⟨by simp, rfl, by push_cast⟩, by simp [Br.ds], by simp⟩
    · exact ⟨hlt, by omega, by omega, (k + 1, o ++ [l[k]], d), ⟨⟨by show k + 1 ≤ _; omega, by simp <;> omega, one d (by simp [e]) (by omega)⟩, by show l.length - (k + 1) < _; omega⟩, ⟨by simp, rfl, by push_cast⟩, by simp [Br.ds], by simp⟩
  · rw [put_end' (by omega)] at hinv
    refine ⟨fun e => ⟨by omega, ?_⟩, fun e => ?_⟩
    · rw [hinv, e]; simp [Br.ds]
    · rw [hinv, e]; simp
end Go.Proofs

/- The reference's browse list. No condition. -/
namespace Go.Proofs
open Go Go.Ax Go.Tx Go.Lib Go.RowKit Go.Fc
set_option maxRecDepth 100000
set_option maxHeartbeats 0
variable {Γ : List (Nat × List D)}
theorem c132 (r : Rec) (kind : Int) (h : Str) (hf : r.fields.length ≤ 1000000) (hh : ∀ f ∈ r.fields, f.hok) : AFn Tryz.prog Γ 132 [.agg (r.ds.map C.d), .c (.d (.int .i64 kind)), .c (.d (.str h))] [.d (.bool (hasH headH r kind h))] := by
  refine AFn.vc [] Tryz.func132 rfl Tryz.mixed (by kernel_rfl) Tryz.ntmps132 Tryz.results132 (by simp) ?_
  push_cast
  unfold hasH
  refine LoopV.cnt Tryz.mixed [1, 2, 3] r.fields.length (fun k => [(7, .c (.d (.int .i64 k)))]) (fun k => (r.fields.any fun f => decide (headH f = (kind, h))) = (r.fields.drop k).any fun f => decide (headH f = (kind, h))) (by simp) ?_
  intro k hk hinv
  push_cast
  refine ⟨fun h1 => ?_, fun h1 => ?_⟩
  · have hlt : k < r.fields.length := by omega
    rw [any_step hlt] at hinv
    refine ⟨hlt, ?_⟩
    refine CallL.q (c67 r.fields[k].tag) ?_
    push_cast
    refine ⟨fun e => ⟨hlt, ?_⟩, fun e => ⟨by omega, hlt, ?_⟩⟩
    · refine CallL.q (c66 r.fields[k] (hh _ (List.getElem_mem hlt))) ?_
      push_cast
      refine ⟨fun e2 => ?_, fun e2 => ⟨by omega, hlt, ?_⟩⟩
      · rw [hinv, decide_eq_true (by unfold headH; rw [e, e2])]; rfl
      · rw [hinv, decide_eq_false (by unfold headH; intro q; injection q with q1 q2; exact e2 q2)]; rfl
    · rw [hinv, decide_eq_false (by unfold headH; intro q; injection q with q1 q2; exact e q1)]; rfl
  · rw [hinv, any_end (by omega)]
theorem cntH_next {H : Fld → Int × Str} {l : List Rec} {k : Nat} {kind : Int} {h : Str} (hlt : k < l.length) : cntH H (l.take (k + 1)) kind h = if hasH H l[k] kind h = true then cntH H (l.take k) kind h + 1 else cntH H (l.take k) kind h := by
  unfold cntH
  rw [Fc.take_next hlt, List.countP_append, List.countP_singleton]
  split <;> simp
theorem cnt_bound {H : Fld → Int × Str} (l : List Rec) (kind : Int) (h : Str) : 0 ≤ cntH H l kind h ∧ cntH H l kind h ≤ l.length := by
  unfold cntH
  have := cntP_le (fun r => hasH H r kind h) l
  omega
theorem c69 (l : List Rec) (kind : Int) (h : Str) (hl : l.length ≤ 1000000) (hf : ∀ r ∈ l, r.fields.length ≤ 1000000) (hh : ∀ r ∈ l, ∀ f ∈ r.fields, f.hok) : AFn Tryz.prog Γ 69 [.c (.d (.lst 5 (l.map Rec.ds))), .c (.d (.int .i64 kind)), .c (.d (.str h))] [.d (.int .i64 (cntH headH l kind h))] := by
  refine AFn.vc [] Tryz.func69 rfl Tryz.mixed (by kernel_rfl) Tryz.ntmps69 Tryz.results69 (by simp) ?_
  push_cast
  refine LoopV.cnt Tryz.mixed [0, 1, 2] l.length (fun k => [(7, .c (.d (.int .i64 (cntH headH (l.take k) kind h)))), (8, .c (.d (.int .i64 k)))]) (fun k => True) trivial ?_ (by push_cast; rfl)
  intro k hk _
  push_cast
  refine ⟨fun h1 => ?_, fun h1 => ?_⟩
  · have hlt : k < l.length := by omega
    refine ⟨hlt, ?_⟩
    refine CallL.q (c132 l[k] kind h (hf _ (List.getElem_mem hlt)) (hh _ (List.getElem_mem hlt))) ?_
    push_cast
    have hn := cntH_next (H := headH) (kind := kind) (h := h) hlt
    have hb := cnt_bound (H := headH) (l.take k) kind h
    rw [List.length_take] at hb
    refine ⟨fun e => ?_, fun e => ?_⟩
    · rw [if_pos e] at hn
      exact ⟨by omega, by omega, hlt, by rw [hn]⟩
    · rw [if_neg (by rw [e]; simp)] at hn
      exact ⟨by omega, hlt, by rw [hn]⟩
  · rw [List.take_of_length_le (by omega)]
end Go.Proofs

/- The reference's browse list, put together. No condition. -/
namespace Go.Proofs
open Go Go.Ax Go.Tx Go.Lib Go.RowKit Go.Fc
set_option maxRecDepth 100000
set_option maxHeartbeats 0
variable {Γ : List (Nat × List D)}
def fStep (kind : Int) (lang : Str) (P : List Pr) (f : Fld) : List Pr := if kindF f.tag = kind ∧ headF f ≠ [] then Or.put (ltP lang) P (headF f, []) false else P
def sStep (lang : Str) (P : List Pr) (q : Pr) : List Pr := Or.put (ltP lang) P q false
def aStepR (kind : Int) (lang : Str) (P : List Pr) (a : Au) : List Pr := if ¬ a.kind = kind then P else (a.see.map fun s => ((s, a.hd) : Pr)).foldl (sStep lang) (sStep lang P (a.hd, []))
theorem fold_flat {α β γ : Type} (f : γ → β → γ) (g : α → List β) : ∀ (l : List α) (z : γ), (l.flatMap g).foldl f z = l.foldl (fun z x => (g x).foldl f z) z
  | [], _ => rfl
  | x :: l, z => by rw [List.flatMap_cons, List.foldl_append, fold_flat f g l]; rfl
theorem recs_fold (kind : Int) (lang : Str) (l : List Rec) (P : List Pr) : l.foldl (fun P r => r.fields.foldl (fStep kind lang) P) P = (pairsR headH l kind).foldl (sStep lang) P := by
  unfold pairsR
  rw [fold_flat]
  congr 1
  funext P r
  generalize r.fields = fs
  induction fs generalizing P with
  | nil => rfl
  | cons f fs ih =>
    rw [List.foldl_cons, ih]
    unfold fStep headH
    by_cases h : kindF f.tag = kind ∧ headF f ≠ []
    · rw [if_pos h, List.filter_cons_of_pos (by simp [h]), List.map_cons, List.foldl_cons]; rfl
    · rw [if_neg h, List.filter_cons_of_neg (by simpa using h)]
theorem auths_fold (kind : Int) (lang : Str) (l : List Au) (P : List Pr) : l.foldl (aStepR kind lang) P = (pairsA l kind).foldl (sStep lang) P := by
  induction l generalizing P with
  | nil => rfl
  | cons a l ih =>
    rw [List.foldl_cons, ih]
    unfold pairsA aStepR
    by_cases h : a.kind = kind
    · rw [if_neg (by simpa using h), List.filter_cons_of_pos (by simpa using h), List.flatMap_cons, List.foldl_append, List.foldl_cons]
    · rw [if_pos h, List.filter_cons_of_neg (by simpa using h)]
theorem buildP_folds (l : List Rec) (auths : List Au) (kind : Int) (lang : Str) : auths.foldl (aStepR kind lang) (l.foldl (fun P r => r.fields.foldl (fStep kind lang) P) []) = buildP headH l auths kind lang := by
  rw [recs_fold, auths_fold]
  unfold buildP allP
  rw [List.foldl_append]; rfl
end Go.Proofs

/- The reference's Build. No condition. -/
namespace Go.Proofs
open Go Go.Ax Go.Tx Go.Lib Go.RowKit Go.Fc
set_option maxRecDepth 100000
set_option maxHeartbeats 0
variable {Γ : List (Nat × List D)}
/-- What the pairs of a row are. -/
structure GoodP (P : List Pr) (n : Nat) : Prop where
  len : P.length ≤ n
  ok : ∀ x ∈ P, PrOk x
theorem GoodP.put {lang : Str} {P : List Pr} {n : Nat} (h : GoodP P n) {p : Pr} (hp : PrOk p) : GoodP (Or.put (ltP lang) P p false) (n + 1) :=
  ⟨Nat.le_trans (Or.put_len p P false) (by have := h.len; omega), put_ok h.ok hp⟩
theorem GoodP.mono {P : List Pr} {n m : Nat} (h : GoodP P n) (hm : n ≤ m) : GoodP P m := ⟨Nat.le_trans h.len hm, h.ok⟩
theorem GoodP.fstep {kind : Int} {lang : Str} {P : List Pr} {n : Nat} (h : GoodP P n) {f : Fld} (hf : kindF f.tag = kind → headF f ≠ [] → PrOk (headF f, [])) : GoodP (fStep kind lang P f) (n + 1) := by
  unfold fStep
  split
  · next e => exact h.put (hf e.1 e.2)
  · exact h.mono (by omega)
theorem GoodP.fs {kind : Int} {lang : Str} : ∀ (fs : List Fld) {P : List Pr} {n : Nat}, GoodP P n → (∀ f ∈ fs, kindF f.tag = kind → headF f ≠ [] → PrOk (headF f, [])) → GoodP (fs.foldl (fStep kind lang) P) (n + fs.length)
  | [], _, _, h, _ => h
  | f :: fs, P, n, h, hf => by
    have := GoodP.fs (lang := lang) fs (h.fstep (lang := lang) (hf f (by simp))) fun x hx => hf x (by simp [hx])
    rw [List.foldl_cons, List.length_cons]
    exact this.mono (by omega)
theorem GoodP.rs {kind : Int} {lang : Str} : ∀ (l : List Rec) {P : List Pr} {n : Nat}, GoodP P n → (∀ r ∈ l, ∀ f ∈ r.fields, kindF f.tag = kind → headF f ≠ [] → PrOk (headF f, [])) → GoodP (l.foldl (fun P r => r.fields.foldl (fStep kind lang) P) P) (n + (l.flatMap fun r => r.fields).length)
  | [], _, _, h, _ => h
  | r :: l, P, n, h, hf => by
    have := GoodP.rs (lang := lang) l (GoodP.fs r.fields (lang := lang) h (hf r (by simp))) fun x hx => hf x (by simp [hx])
    rw [List.foldl_cons, List.flatMap_cons, List.length_append]
    exact this.mono (by omega)
theorem GoodP.ss {lang : Str} : ∀ (xs : List Pr) {P : List Pr} {n : Nat}, GoodP P n → (∀ x ∈ xs, PrOk x) → GoodP (xs.foldl (sStep lang) P) (n + xs.length)
  | [], _, _, h, _ => h
  | x :: xs, P, n, h, hx => by
    have := GoodP.ss (lang := lang) xs (h.put (lang := lang) (hx x (by simp))) fun y hy => hx y (by simp [hy])
    rw [List.foldl_cons, List.length_cons]
    exact this.mono (by omega)
theorem flat_take (l : List Rec) (k : Nat) : ((l.take k).flatMap fun r => r.fields).length ≤ (l.flatMap fun r => r.fields).length := by
  have h : (l.flatMap fun r => r.fields) = ((l.take k).flatMap fun r => r.fields) ++ ((l.drop k).flatMap fun r => r.fields) := by rw [← List.flatMap_append, List.take_append_drop]
  rw [h, List.length_append]; omega
theorem flat_at {l : List Rec} {r : Rec} (h : r ∈ l) : r.fields.length ≤ (l.flatMap fun r => r.fields).length := by
  induction l with
  | nil => cases h
  | cons x l ih =>
    rw [List.flatMap_cons, List.length_append]
    rcases List.mem_cons.1 h with rfl | h
    · omega
    · have := ih h; omega
theorem mk0 (l : List Rec) (kind : Int) (h : Str) : (mkBr headH l kind (h, [])).ds = [.str h, .str [], .int .i64 (cntH headH l kind h)] := rfl
theorem mk1 (l : List Rec) (kind : Int) (s : Str) {h : Str} (hne : h ≠ []) : (mkBr headH l kind (s, h)).ds = [.str s, .str h, .int .i64 (cntH headH l kind h)] := by
  unfold mkBr Br.ds
  simp only [if_neg hne]
theorem GoodP.as {kind : Int} {lang : Str} (us : List Au) {P : List Pr} {n : Nat} (h : GoodP P n) (ha : ∀ a ∈ us, a.kind = kind → PrOk (a.hd, []) ∧ ∀ s ∈ a.see, PrOk (s, a.hd)) : GoodP (us.foldl (aStepR kind lang) P) (n + (pairsA us kind).length) := by
  rw [auths_fold]
  refine GoodP.ss _ h fun x hx => ?_
  unfold pairsA at hx
  obtain ⟨a, h1, h2⟩ := List.mem_flatMap.1 hx
  obtain ⟨h3, h4⟩ := List.mem_filter.1 h1
  have h5 := ha a h3 (of_decide_eq_true h4)
  rcases List.mem_cons.1 h2 with rfl | h2
  · exact h5.1
  · obtain ⟨s, hs, rfl⟩ := List.mem_map.1 h2
    exact h5.2 s hs
theorem pairsA_take' (us : List Au) (kind : Int) (k : Nat) : (pairsA (us.take k) kind).length ≤ (pairsA us kind).length := by
  have h : pairsA us kind = pairsA (us.take k) kind ++ pairsA (us.drop k) kind := by
    unfold pairsA
    rw [← List.flatMap_append, ← List.filter_append, List.take_append_drop]
  rw [h, List.length_append]
  omega
theorem pairsA_see {us : List Au} {kind : Int} {a : Au} (h : a ∈ us) (hk : a.kind = kind) : a.see.length < (pairsA us kind).length := by
  induction us with
  | nil => cases h
  | cons b us ih =>
    have e : pairsA (b :: us) kind = pairsA [b] kind ++ pairsA us kind := by
      unfold pairsA
      rw [← List.flatMap_append, ← List.filter_append]; rfl
    rw [e, List.length_append]
    rcases List.mem_cons.1 h with rfl | h
    · simp [pairsA, hk]; omega
    · have := ih h; omega
theorem c19 (l : List Rec) (auths : List Au) (kind : Int) (lang : Str) (hl : l.length ≤ 1000000) (hh : ∀ r ∈ l, ∀ f ∈ r.fields, f.hok) (htot : (l.flatMap fun r => r.fields).length ≤ 300000) (hal : (pairsA auths kind).length ≤ 300000) (hau : auths.length ≤ 1000000)
    (hpf : ∀ r ∈ l, ∀ f ∈ r.fields, kindF f.tag = kind → headF f ≠ [] → PrOk (headF f, [])) (hpa : ∀ a ∈ auths, a.kind = kind → PrOk (a.hd, []) ∧ ∀ s ∈ a.see, PrOk (s, a.hd)) (hne : ∀ a ∈ auths, a.kind = kind → a.hd ≠ []) :
    AFn Tryz.prog Γ 19 [.c (.d (.lst 5 (l.map Rec.ds))), .c (.d (.lst 5 (auths.map Au.ds))), .c (.d (.int .i64 kind)), .c (.d (.str lang))] [.d (.lst 3 ((buildF headH l auths kind lang).map Br.ds))] := by
  generalize hR : buildF headH l auths kind lang = R
  unfold buildF okKind at hR
  rw [← buildP_folds] at hR
  have hF : ∀ p, (mkBr headH l kind p).pr = p := fun _ => rfl
  have hlf : ∀ r ∈ l, r.fields.length ≤ 1000000 := fun r hr => Nat.le_trans (flat_at hr) (by omega)
  refine AFn.vc [18, 114] Tryz.func19 rfl Tryz.mixed (by kernel_rfl) Tryz.ntmps19 Tryz.results19 (by simp) ?_
  push_cast
  refine ⟨fun a1 => ⟨fun a2 => ?_, fun a2 => ?_⟩, fun a1 => ?_⟩
  · rw [← hR, if_neg (by simp; omega)]; rfl
  · rw [if_pos (by simp; omega)] at hR
    refine LoopV.cnt Tryz.mixed [0, 1, 2, 3] l.length (fun i => [(9, .c (.d (.lst 3 ((((l.take i).foldl (fun P r => r.fields.foldl (fStep kind lang) P) []).map (mkBr headH l kind)).map Br.ds)))), (10, .c (.d (.int .i64 i)))]) (fun _ => True) trivial ?_ (by push_cast; rfl)
    intro i hi _
    push_cast
    refine ⟨fun h => ?_, fun h => ?_⟩
    · have hlt : i < l.length := by omega
      have hnx := fold_take (fun P r => r.fields.foldl (fStep kind lang) P) l ([] : List Pr) hlt
      have hG := GoodP.rs (kind := kind) (lang := lang) (l.take i) (P := []) (n := 0) ⟨by simp, by simp⟩ (fun r hr => hpf r (List.mem_of_mem_take hr))
      have hGl := flat_take l i
      have hfl := flat_at (List.getElem_mem hlt)
      refine LoopV.cnt Tryz.mixed [0, 1, 2, 3, 10] l[i].fields.length (fun k => [(9, .c (.d (.lst 3 ((((l[i].fields.take k).foldl (fStep kind lang) ((l.take i).foldl (fun P r => r.fields.foldl (fStep kind lang) P) [])).map (mkBr headH l kind)).map Br.ds)))), (11, .c (.d (.int .i64 k)))]) (fun _ => True) trivial ?_ (by push_cast; rfl)
      intro k hk _
      push_cast
      refine ⟨hlt, fun h2 => ?_, fun h2 => ?_⟩
      · have hkt : k < l[i].fields.length := by omega
        have hnk := fold_take (fStep kind lang) l[i].fields ((l.take i).foldl (fun P r => r.fields.foldl (fStep kind lang) P) []) hkt
        have hGk := GoodP.fs (kind := kind) (lang := lang) (l[i].fields.take k) hG (fun f hf => hpf _ (List.getElem_mem hlt) f (List.mem_of_mem_take hf))
        rw [List.length_take] at hGk
        have hkk := hpf _ (List.getElem_mem hlt) _ (List.getElem_mem hkt)
        have hok := hh _ (List.getElem_mem hlt) _ (List.getElem_mem hkt)
        refine ⟨hlt, hkt, ?_⟩
        refine CallL.q (c66 l[i].fields[k] hok) ?_
        push_cast
        refine CallL.q (c67 l[i].fields[k].tag) ?_
        push_cast
        have f0 : ¬ (kindF l[i].fields[k].tag = kind ∧ headF l[i].fields[k] ≠ []) → (l[i].fields.take (k + 1)).foldl (fStep kind lang) ((l.take i).foldl (fun P r => r.fields.foldl (fStep kind lang) P) []) = (l[i].fields.take k).foldl (fStep kind lang) ((l.take i).foldl (fun P r => r.fields.foldl (fStep kind lang) P) []) := fun q => hnk.trans (if_neg q)
        have f1 : (kindF l[i].fields[k].tag = kind ∧ headF l[i].fields[k] ≠ []) → (l[i].fields.take (k + 1)).foldl (fStep kind lang) ((l.take i).foldl (fun P r => r.fields.foldl (fStep kind lang) P) []) = Or.put (ltP lang) ((l[i].fields.take k).foldl (fStep kind lang) ((l.take i).foldl (fun P r => r.fields.foldl (fStep kind lang) P) [])) (headF l[i].fields[k], []) false := fun q => hnk.trans (if_pos q)
        refine ⟨fun e => ⟨fun e2 => ?_, fun e2 => ⟨by omega, hkt, by rw [f0 (fun q => q.2 e2)]⟩⟩, fun e => ⟨by omega, hkt, by rw [f0 (fun q => e q.1)]⟩⟩
        have f1 := f1 ⟨e, e2⟩
        refine CallL.q (c69 l kind (headF l[i].fields[k]) hl hlf hh) ?_
        push_cast
        have h68 := c68 (Γ := Γ) lang (mkBr headH l kind) hF ((l[i].fields.take k).foldl (fStep kind lang) ((l.take i).foldl (fun P r => r.fields.foldl (fStep kind lang) P) [])) (headF l[i].fields[k], []) (by have := hGk.len; omega) hGk.ok (hkk e e2)
        rw [mk0] at h68
        refine CallL.q h68 ?_
        push_cast
        exact ⟨by omega, hkt, by rw [f1]⟩
      · rw [List.take_of_length_le (show l[i].fields.length ≤ k by omega)]
        exact ⟨by omega, hlt, by rw [hnx]⟩
    · have hG := GoodP.rs (kind := kind) (lang := lang) l (P := []) (n := 0) ⟨by simp, by simp⟩ hpf
      rw [List.take_of_length_le (by omega)]
      refine LoopV.cnt Tryz.mixed [0, 1, 2, 3] auths.length (fun j => [(9, .c (.d (.lst 3 ((((auths.take j).foldl (aStepR kind lang) (l.foldl (fun P r => r.fields.foldl (fStep kind lang) P) [])).map (mkBr headH l kind)).map Br.ds)))), (14, .c (.d (.int .i64 j)))]) (fun _ => True) trivial ?_ (by push_cast; rfl)
      intro j hj _
      push_cast
      refine ⟨fun h2 => ?_, fun h2 => ?_⟩
      · have hjt : j < auths.length := by omega
        have hnj := fold_take (aStepR kind lang) auths (l.foldl (fun P r => r.fields.foldl (fStep kind lang) P) []) hjt
        refine ⟨hjt, fun e => ⟨by omega, hjt, by rw [hnj.trans (if_pos e)]⟩, fun e => ?_⟩
        have hnj := hnj.trans (if_neg (by simpa using e))
        have hGj := GoodP.as (kind := kind) (lang := lang) (auths.take j) hG (fun a ha => hpa a (List.mem_of_mem_take ha))
        have hjl := pairsA_take' auths kind j
        have hpj := hpa _ (List.getElem_mem hjt) e
        have hnej := hne _ (List.getElem_mem hjt) e
        have hsl := pairsA_see (List.getElem_mem hjt) e
        have hG1 := hGj.put (lang := lang) hpj.1
        refine CallL.q (c69 l kind auths[j].hd hl hlf hh) ?_
        push_cast
        have h68 := c68 (Γ := Γ) lang (mkBr headH l kind) hF ((auths.take j).foldl (aStepR kind lang) (l.foldl (fun P r => r.fields.foldl (fStep kind lang) P) [])) (auths[j].hd, []) (by have := hGj.len; omega) hGj.ok hpj.1
        rw [mk0] at h68
        refine CallL.q h68 ?_
        push_cast
        refine LoopV.cntH Tryz.mixed [0, 1, 2, 3, 14, 15, 16] auths[j].see.length (fun m => [(9, .c (.d (.lst 3 (((((auths[j].see.take m).map fun s => ((s, auths[j].hd) : Pr)).foldl (sStep lang) (sStep lang ((auths.take j).foldl (aStepR kind lang) (l.foldl (fun P r => r.fields.foldl (fStep kind lang) P) [])) (auths[j].hd, []))).map (mkBr headH l kind)).map Br.ds)))), (17, .c (.d (.int .i64 m)))]) (fun _ => [.box 45 (auths[j].ds.map C.d)]) (fun _ => True) trivial ?_ (by push_cast; rfl)
        intro m hm _
        push_cast
        refine ⟨fun h3 => ?_, fun h3 => ?_⟩
        · have hmt : m < auths[j].see.length := by omega
          have hGm := GoodP.ss (lang := lang) ((auths[j].see.take m).map fun s => ((s, auths[j].hd) : Pr)) hG1 (fun x hx => by
            obtain ⟨s, hs, rfl⟩ := List.mem_map.1 hx
            exact hpj.2 s (List.mem_of_mem_take hs))
          rw [List.length_map, List.length_take] at hGm
          refine ⟨hmt, ?_⟩
          have h68 := c68 (Γ := Γ) lang (mkBr headH l kind) hF _ (auths[j].see[m], auths[j].hd) (by have := hGm.len; omega) hGm.ok (hpj.2 _ (List.getElem_mem hmt))
          rw [mk1 _ _ _ hnej] at h68
          refine CallL.q h68 ?_
          push_cast
          refine ⟨by omega, hmt, ?_⟩
          rw [Fc.take_next hmt, List.map_append, List.foldl_append]; rfl
        · rw [List.take_of_length_le (show auths[j].see.length ≤ m by omega)]
          exact ⟨by omega, hjt, by rw [hnj]⟩
      · rw [← hR, List.take_of_length_le (by omega)]
  · rw [← hR, if_neg (by simp; omega)]; rfl
end Go.Proofs
