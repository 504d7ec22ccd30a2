/- Part of a proof about this program; no condition of its own. -/
import Derived.Lib.SlicesCompact
import Derived.Sort.Walk0
import Derived.Test.YtanbfhnmklhjiaaDoorAxVd
import Derived.Test.YtanbfhnmklhjiaaDoorGtA
import Derived.Lib.ItoaNum
import Derived.Lib.Join
set_option linter.all false
/- Lists ascending by a strict total order: insertion, sorting, compacting. Plain Lean; no condition of its own. -/
namespace Go.Or
open Go
/-- A strict total order, as a test. -/
structure STO {α : Type} (lt : α → α → Bool) : Prop where
  irr : ∀ x, lt x x = false
  tr : ∀ x y z, lt x y = true → lt y z = true → lt x z = true
  tri : ∀ x y, lt x y = false → lt y x = false → x = y
variable {α : Type} {lt : α → α → Bool}
theorem STO.asym (h : STO lt) {x y : α} (a : lt x y = true) : lt y x = false := by
  cases e : lt y x with
  | false => rfl
  | true => have := h.tr x y x a e; rw [h.irr] at this; cases this
theorem STO.ne (h : STO lt) {x y : α} (a : lt x y = true) : x ≠ y := fun e => by subst e; rw [h.irr] at a; cases a
theorem STO.ntr (h : STO lt) (x y z : α) (a : lt x y = false) (b : lt y z = false) : lt x z = false := by
  cases e : lt x z with
  | false => rfl
  | true =>
    cases e2 : lt z y with
    | true => have := h.tr x z y e e2; rw [a] at this; cases this
    | false => have := h.tri y z b e2; subst this; rw [a] at e; cases e
abbrev Asc (lt : α → α → Bool) (l : List α) : Prop := l.Pairwise (fun x y => lt x y = true)
theorem asc_eq (h : STO lt) : ∀ {a b : List α}, Asc lt a → Asc lt b → (∀ v, v ∈ a ↔ v ∈ b) → a = b
  | [], [], _, _, _ => rfl
  | [], y :: b, _, _, hm => by have := (hm y).2 (List.mem_cons_self ..); cases this
  | x :: a, [], _, _, hm => by have := (hm x).1 (List.mem_cons_self ..); cases this
  | x :: a, y :: b, ha, hb, hm => by
    rw [Asc, List.pairwise_cons] at ha hb
    have hxy : x = y := by
      rcases List.mem_cons.1 ((hm x).1 (List.mem_cons_self ..)) with e | e
      · exact e
      · rcases List.mem_cons.1 ((hm y).2 (List.mem_cons_self ..)) with e' | e'
        · exact e'.symm
        · have h1 := ha.1 y e'
          have h2 := hb.1 x e
          rw [h.asym h1] at h2; cases h2
    subst hxy
    rw [asc_eq h ha.2 hb.2 fun v => ?_]
    constructor
    · intro hv
      rcases List.mem_cons.1 ((hm v).1 (List.mem_cons_of_mem _ hv)) with e | e
      · have := ha.1 v hv; rw [e, h.irr] at this; cases this
      · exact e
    · intro hv
      rcases List.mem_cons.1 ((hm v).2 (List.mem_cons_of_mem _ hv)) with e | e
      · have := hb.1 v hv; rw [e, h.irr] at this; cases this
      · exact e
/-- Ascending elements with another one, each once, as a reference's loop does it. -/
def put [DecidableEq α] (lt : α → α → Bool) : List α → α → Bool → List α
  | [], n, done => if done then [] else [n]
  | x :: r, n, done => if done = false ∧ x ≠ n ∧ lt n x = true then n :: x :: put lt r n true else x :: put lt r n (done || decide (x = n))
section
variable [DecidableEq α]
theorem put_true (n : α) : ∀ l : List α, put lt l n true = l
  | [] => rfl
  | x :: r => by unfold put; rw [if_neg (by simp)]; simp [put_true n r]
theorem put_spec (h : STO lt) (n : α) : ∀ l : List α, Asc lt l → Asc lt (put lt l n false) ∧ ∀ v, v ∈ put lt l n false ↔ (v = n ∨ v ∈ l)
  | [], _ => by simp [put, Asc]
  | x :: r, ha => by
    rw [Asc, List.pairwise_cons] at ha
    obtain ⟨i1, i2⟩ := put_spec h n r ha.2
    unfold put
    by_cases hx : x = n
    · subst hx
      rw [if_neg (by simp)]
      simp only [decide_true, Bool.or_true, put_true]
      exact ⟨List.pairwise_cons.2 ha, fun v => by simp⟩
    · by_cases hn : lt n x = true
      · rw [if_pos ⟨rfl, hx, hn⟩, put_true]
        refine ⟨List.pairwise_cons.2 ⟨fun v hv => ?_, List.pairwise_cons.2 ha⟩, fun v => by simp⟩
        rcases List.mem_cons.1 hv with rfl | hv
        · exact hn
        · exact h.tr _ _ _ hn (ha.1 v hv)
      · rw [if_neg (fun c => hn c.2.2)]
        have hb : decide (x = n) = false := decide_eq_false hx
        rw [hb, Bool.or_false]
        have hxn : lt x n = true := by
          cases e : lt x n with
          | true => rfl
          | false => exact absurd (h.tri x n e (by simpa using hn)) hx
        refine ⟨List.pairwise_cons.2 ⟨fun v hv => ?_, i1⟩, fun v => ?_⟩
        · rcases (i2 v).1 hv with rfl | hv
          · exact hxn
          · exact ha.1 v hv
        · rw [List.mem_cons, i2, List.mem_cons]
          constructor
          · rintro (h | h | h) <;> simp [h]
          · rintro (h | h | h) <;> simp [h]
theorem puts_spec (h : STO lt) : ∀ (xs l : List α), Asc lt l → Asc lt (xs.foldl (fun o x => put lt o x false) l) ∧ ∀ v, v ∈ xs.foldl (fun o x => put lt o x false) l ↔ (v ∈ l ∨ v ∈ xs)
  | [], l, hl => ⟨hl, fun v => by simp⟩
  | x :: xs, l, hl => by
    obtain ⟨h1, h2⟩ := put_spec h x l hl
    obtain ⟨h3, h4⟩ := puts_spec h xs _ h1
    refine ⟨h3, fun v => ?_⟩
    rw [List.foldl_cons, h4, h2, List.mem_cons]
    constructor
    · rintro ((h | h) | h) <;> simp [h]
    · rintro (h | h | h) <;> simp [h]
theorem put_len (n : α) : ∀ (l : List α) (d : Bool), (put lt l n d).length ≤ l.length + 1
  | [], d => by unfold put; cases d <;> simp
  | x :: r, d => by
    unfold put
    split
    · rw [put_true]; simp
    · have := put_len n r (d || decide (x = n)); simp; omega
theorem puts_len : ∀ (xs l : List α), (xs.foldl (fun o x => put lt o x false) l).length ≤ l.length + xs.length
  | [], l => by simp
  | x :: xs, l => by
    have h1 := puts_len xs (put lt l x false)
    have h2 := put_len (lt := lt) x l false
    simp only [List.foldl_cons, List.length_cons]; omega
theorem put_mem (n : α) : ∀ (l : List α) (d : Bool) (v : α), v ∈ put lt l n d → v = n ∨ v ∈ l
  | [], d, v, h => by unfold put at h; cases d <;> simp_all
  | x :: r, d, v, h => by
    unfold put at h
    split at h
    · rw [put_true] at h
      simpa using h
    · rcases List.mem_cons.1 h with rfl | h
      · simp
      · rcases put_mem n r _ v h with h | h <;> simp [h]
/-! ### compacting a sorted list -/
theorem compact_spec [Inhabited α] (h : STO lt) (zs : List α) (hs : zs.Pairwise (fun x y => lt y x = false)) : Asc lt (Lib.compact zs) ∧ ∀ v, v ∈ Lib.compact zs ↔ v ∈ zs := by
  have hd : ∀ j, j < zs.length → zs.toArray[j]! = zs[j]! := fun j hj => by simp
  have hm : ∀ i j, i ≤ j → j < zs.length → lt zs[j]! zs[i]! = false := fun i j hij hj => by
    rcases Nat.lt_or_ge i j with hh | hh
    · rw [getElem!_pos zs i (by omega), getElem!_pos zs j hj]
      exact List.pairwise_iff_getElem.1 hs i j (by omega) hj hh
    · rw [show i = j by omega]; exact h.irr _
  have key : ∀ m, m ≤ zs.length → Asc lt (Lib.compactUpTo zs.toArray m) ∧ ∀ v, v ∈ Lib.compactUpTo zs.toArray m ↔ ∃ j, j < m ∧ zs[j]! = v := by
    intro m
    induction m with
    | zero => intro _; exact ⟨by simp [Lib.compactUpTo, Asc], fun v => by simp [Lib.compactUpTo]⟩
    | succ m ih =>
      intro hml
      obtain ⟨h1, h2⟩ := ih (by omega)
      rw [Lib.compactUpTo_succ]
      by_cases hk : Lib.keeps zs.toArray m = true
      · rw [if_pos hk]
        have hlt : ∀ x ∈ Lib.compactUpTo zs.toArray m, lt x zs[m]! = true := fun x hx => by
          obtain ⟨j, hj, rfl⟩ := (h2 x).1 hx
          unfold Lib.keeps at hk
          simp only [decide_eq_true_eq] at hk
          rw [hd m (by omega), hd (m - 1) (by omega)] at hk
          have a := hm j (m - 1) (by omega) (by omega)
          have b := hm (m - 1) m (by omega) (by omega)
          rcases hk with hk | hk
          · omega
          · have hc : lt zs[m - 1]! zs[m]! = true := by
              cases e : lt zs[m - 1]! zs[m]! with
              | true => rfl
              | false => exact absurd (h.tri _ _ b e) hk
            cases e : lt zs[j]! zs[m]! with
            | true => rfl
            | false =>
              have := h.ntr _ _ _ a e
              rw [hc] at this; cases this
        rw [hd m (by omega)]
        refine ⟨List.pairwise_append.2 ⟨h1, List.pairwise_singleton _ _, fun x hx y hy => ?_⟩, fun v => ?_⟩
        · rw [List.mem_singleton.1 hy]; exact hlt x hx
        · rw [List.mem_append, h2, List.mem_singleton]
          constructor
          · rintro (⟨j, hj, e⟩ | e)
            · exact ⟨j, by omega, e⟩
            · exact ⟨m, by omega, e.symm⟩
          · rintro ⟨j, hj, e⟩
            by_cases hjm : j = m
            · exact .inr (by rw [← e, hjm])
            · exact .inl ⟨j, by omega, e⟩
      · rw [if_neg hk, List.append_nil]
        refine ⟨h1, fun v => ?_⟩
        rw [h2]
        constructor
        · rintro ⟨j, hj, e⟩; exact ⟨j, by omega, e⟩
        · rintro ⟨j, hj, e⟩
          by_cases hjm : j = m
          · unfold Lib.keeps at hk
            simp only [decide_eq_true_eq, not_or, Classical.not_not] at hk
            rw [hd m (by omega), hd (m - 1) (by omega)] at hk
            exact ⟨m - 1, by omega, by rw [← hk.2, ← hjm, e]⟩
          · exact ⟨j, by omega, e⟩
  obtain ⟨h1, h2⟩ := key zs.length (Nat.le_refl _)
  refine ⟨h1, fun v => (h2 v).trans ⟨fun ⟨j, hj, e⟩ => ?_, fun hv => ?_⟩⟩
  · rw [← e, getElem!_pos zs j hj]; exact List.getElem_mem hj
  · obtain ⟨j, hj, e⟩ := List.mem_iff_getElem.1 hv
    exact ⟨j, hj, by rw [getElem!_pos zs j hj, e]⟩
end
theorem sort_perm_eq (h : STO lt) {a b : List α} (hp : a.Perm b) (ha : a.Pairwise (fun x y => lt y x = false)) (hb : b.Pairwise (fun x y => lt y x = false)) : a = b :=
  List.Perm.eq_of_pairwise (le := fun x y => lt y x = false) (fun x y _ _ hx hy => h.tri x y hy hx) ha hb hp
/-! ### strings -/
def ltS (x y : List UInt8) : Bool := Op.bytesLess x y
theorem bl_irr : ∀ x : List UInt8, Op.bytesLess x x = false
  | [] => rfl
  | a :: x => by simp [Op.bytesLess, bl_irr x]
theorem bl_tr : ∀ x y z : List UInt8, Op.bytesLess x y = true → Op.bytesLess y z = true → Op.bytesLess x z = true
  | _, [], _, h, _ => by unfold Op.bytesLess at h; cases h
  | _, _ :: _, [], _, h => by unfold Op.bytesLess at h; cases h
  | [], _ :: _, _ :: _, _, _ => rfl
  | a :: x, b :: y, c :: z, h1, h2 => by
    simp only [Op.bytesLess, Bool.or_eq_true, decide_eq_true_eq, Bool.and_eq_true, beq_iff_eq] at h1 h2 ⊢
    rcases h1 with h1 | ⟨rfl, h1⟩
    · rcases h2 with h2 | ⟨rfl, h2⟩
      · exact .inl (UInt8.lt_trans h1 h2)
      · exact .inl h1
    · rcases h2 with h2 | ⟨rfl, h2⟩
      · exact .inl h2
      · exact .inr ⟨rfl, bl_tr x y z h1 h2⟩
theorem bl_tri : ∀ x y : List UInt8, Op.bytesLess x y = false → Op.bytesLess y x = false → x = y
  | [], [], _, _ => rfl
  | [], _ :: _, h, _ => by simp [Op.bytesLess] at h
  | _ :: _, [], _, h => by simp [Op.bytesLess] at h
  | a :: x, b :: y, h1, h2 => by
    simp only [Op.bytesLess, Bool.or_eq_false_iff, decide_eq_false_iff_not, Bool.and_eq_false_imp, beq_iff_eq] at h1 h2
    have e : a = b := by
      have h3 := h1.1
      have h4 := h2.1
      apply UInt8.toNat_inj.1
      rw [UInt8.lt_iff_toNat_lt] at h3 h4
      omega
    subst e
    rw [bl_tri x y (h1.2 rfl) (h2.2 rfl)]
theorem sto_S : STO ltS := ⟨bl_irr, bl_tr, bl_tri⟩
def ltI (x y : Int) : Bool := decide (x < y)
theorem sto_I : STO ltI := ⟨fun x => by simp [ltI], fun x y z => by simp [ltI]; omega, fun x y => by simp [ltI]; omega⟩
/-- What slices.Sort makes of strings. -/
def sortS (l : List (List UInt8)) : List (List UInt8) := l.mergeSort fun x y => decide (x ≤ y)
theorem le_S (x y : List UInt8) : (decide (x ≤ y)) = !ltS y x := by
  unfold ltS
  rw [Go.Proofs.bytesLess_eq]
  rw [← decide_not]
  exact decide_eq_decide.2 (by rw [List.not_lt])
theorem sortS_eq (l : List (List UInt8)) : sortS l = l.mergeSort fun x y => !ltS y x := by
  unfold sortS
  congr 1
  funext x y
  exact le_S x y
theorem ms_sorted {β : Type} {lt : β → β → Bool} (hn : ∀ x y z, lt x y = false → lt y z = false → lt x z = false) (ha : ∀ x y, lt x y = true → lt y x = false) (l : List β) : (l.mergeSort fun x y => !lt y x).Pairwise (fun x y => lt y x = false) := by
  have tr : ∀ x y z : β, (!lt y x) = true → (!lt z y) = true → (!lt z x) = true := fun x y z => by
    simp only [Bool.not_eq_true']
    exact fun a b => hn z y x b a
  have to : ∀ x y : β, ((!lt y x) || (!lt x y)) = true := fun x y => by
    cases e : lt y x with
    | false => rfl
    | true => rw [ha y x e]; rfl
  exact (List.pairwise_mergeSort tr to l).imp fun h => by simpa using h
theorem sortS_sorted (l : List (List UInt8)) : (sortS l).Pairwise (fun x y => ltS y x = false) := by
  rw [sortS_eq]
  exact ms_sorted sto_S.ntr (fun x y => sto_S.asym) l
end Go.Or

/- Records and facets, in plain data. No condition. -/
namespace Go.Fc
open Go Go.Ax Go.Or
abbrev Str := List UInt8
structure Sb where
  code : Int
  val : Str
  deriving DecidableEq, Inhabited
structure Fld where
  tag : Str
  ind : Str
  subs : List Sb
  auth : Int
  deriving DecidableEq, Inhabited
structure Rec where
  id : Int
  ver : Int
  kind : Int
  lang : Str
  fields : List Fld
  deriving DecidableEq, Inhabited
structure Bk where
  val : Str
  cnt : Int
  deriving DecidableEq, Inhabited
def Sb.ds (s : Sb) : List D := [.int .u8 s.code, .str s.val]
def Fld.ds (f : Fld) : List D := [.str f.tag, .str f.ind, .lst 2 (f.subs.map Sb.ds), .int .i64 f.auth]
def Rec.ds (r : Rec) : List D := [.int .i64 r.id, .int .i64 r.ver, .int .i64 r.kind, .str r.lang, .lst 4 (r.fields.map Fld.ds)]
def Bk.ds (b : Bk) : List D := [.str b.val, .int .i64 b.cnt]
def sD (s : Str) : List D := [.str s]
def iD (n : Int) : List D := [.int .i64 n]
@[push_cast] theorem Sb.ds_eq (s : Sb) : s.ds = [.int .u8 s.code, .str s.val] := rfl
@[push_cast] theorem Fld.ds_eq (f : Fld) : f.ds = [.str f.tag, .str f.ind, .lst 2 (f.subs.map Sb.ds), .int .i64 f.auth] := rfl
@[push_cast] theorem Rec.ds_eq (r : Rec) : r.ds = [.int .i64 r.id, .int .i64 r.ver, .int .i64 r.kind, .str r.lang, .lst 4 (r.fields.map Fld.ds)] := rfl
@[push_cast] theorem Bk.ds_eq (b : Bk) : b.ds = [.str b.val, .int .i64 b.cnt] := rfl
@[push_cast] theorem sD_eq (s : Str) : sD s = [.str s] := rfl
@[push_cast] theorem iD_eq (n : Int) : iD n = [.int .i64 n] := rfl
attribute [push_cast] Nat.min_self
theorem take_next {α : Type} {l : List α} {k : Nat} (h : k < l.length) : l.take (k + 1) = l.take k ++ [l[k]] := by
  rw [List.take_add_one, List.getElem?_eq_getElem h]; rfl
theorem drop_cons {α : Type} {l : List α} {k : Nat} (h : k < l.length) : l.drop k = l[k] :: l.drop (k + 1) := List.drop_eq_getElem_cons h
/-! ### fields -/
/-- The first value of a code, and whether there is one. -/
def getS (l : List Sb) (c : Int) : Str × Bool :=
  match l.find? (fun s => decide (s.code = c)) with
  | some s => (s.val, true)
  | none => ([], false)
def inCodes (codes : Str) (c : Int) : Bool := codes.isEmpty || codes.any (fun x => decide ((x.toNat : Int) = c))
def allS (l : List Sb) (codes : Str) : List Str := (l.filter fun s => inCodes codes s.code).map Sb.val
/-! ### years -/
def digB (x : UInt8) : Bool := decide (48 ≤ x.toNat ∧ x.toNat ≤ 57)
/-! ### steps of loops -/
theorem eq_step {α : Type} {a b : List α} {k : Nat} (ha : k < a.length) (hb : k < b.length) : (a.drop k = b.drop k) ↔ (a[k] = b[k] ∧ a.drop (k + 1) = b.drop (k + 1)) := by
  rw [drop_cons ha, drop_cons hb]
  exact ⟨fun h => by injection h with h1 h2; exact ⟨h1, h2⟩, fun h => by rw [h.1, h.2]⟩
theorem eq_end {α : Type} {a b : List α} {k : Nat} (ha : ¬ k < a.length) (h : a.length = b.length) : a.drop k = b.drop k := by
  rw [List.drop_eq_nil_of_le (by omega), List.drop_eq_nil_of_le (by omega)]
theorem mem_step {α : Type} {l : List α} {k : Nat} {n : α} (h : k < l.length) : (n ∈ l.drop k) ↔ (l[k] = n ∨ n ∈ l.drop (k + 1)) := by
  rw [drop_cons h, List.mem_cons]
  exact ⟨fun h => h.imp Eq.symm id, fun h => h.imp Eq.symm id⟩
theorem mem_end {α : Type} {l : List α} {k : Nat} {n : α} (h : ¬ k < l.length) : ¬ n ∈ l.drop k := by
  rw [List.drop_eq_nil_of_le (by omega)]; simp
theorem getS_step {l : List Sb} {k : Nat} {c : Int} (h : k < l.length) : getS (l.drop k) c = if l[k].code = c then (l[k].val, true) else getS (l.drop (k + 1)) c := by
  rw [drop_cons h]
  unfold getS
  rw [List.find?_cons]
  by_cases e : l[k].code = c
  · rw [if_pos e, decide_eq_true e]
  · rw [if_neg e, decide_eq_false e]
theorem getS_end {l : List Sb} {k : Nat} {c : Int} (h : ¬ k < l.length) : getS (l.drop k) c = ([], false) := by
  rw [List.drop_eq_nil_of_le (by omega)]; rfl
theorem allS_next {l : List Sb} {k : Nat} {codes : Str} (h : k < l.length) : allS (l.take (k + 1)) codes = if inCodes codes l[k].code = true then allS (l.take k) codes ++ [l[k].val] else allS (l.take k) codes := by
  unfold allS
  rw [take_next h, List.filter_append, List.map_append]
  by_cases e : inCodes codes l[k].code = true
  · rw [if_pos e]; simp [List.filter_cons, e]
  · rw [if_neg e]; simp [List.filter_cons, e]
theorem allS_len (l : List Sb) (codes : Str) : (allS l codes).length ≤ l.length := by
  unfold allS
  rw [List.length_map]; exact List.length_filter_le _ _
theorem allS_mem {l : List Sb} {codes : Str} {v : Str} (h : v ∈ allS l codes) : ∃ s ∈ l, s.val = v := by
  unfold allS at h
  obtain ⟨s, hs, rfl⟩ := List.mem_map.1 h
  exact ⟨s, (List.mem_filter.1 hs).1, rfl⟩
def anyIs (codes : Str) (c : Int) : Bool := codes.any (fun x => decide ((x.toNat : Int) = c))
theorem anyIs_step {l : Str} {k : Nat} {c : Int} (h : k < l.length) : anyIs (l.drop k) c = (decide ((l[k].toNat : Int) = c) || anyIs (l.drop (k + 1)) c) := by
  rw [drop_cons h]; rfl
theorem anyIs_end {l : Str} {k : Nat} {c : Int} (h : ¬ k < l.length) : anyIs (l.drop k) c = false := by
  rw [List.drop_eq_nil_of_le (by omega)]; rfl
/-! ### validity -/
def digI (c : Int) : Bool := decide (48 ≤ c ∧ c ≤ 57)
def codeI (c : Int) : Bool := digI c || decide (97 ≤ c ∧ c ≤ 122)
def tagB (t : Str) : Bool := decide (t.length = 3) && (t.all digB && !Op.bytesLess t [48, 49, 48])
def indB (t : Str) : Bool := decide (t.length = 2) && t.all fun x => decide (x.toNat = 32) || digB x
end Go.Fc

/- Validity of fields and records, in plain data. No condition. -/
namespace Go.Fc
open Go Go.Ax Go.Or Go.Tx
def rightS (s : Sb) : Int := if codeI s.code = false then 1 else if s.val = [] then 8 else if validF s.val = false then 3 else if 200 < s.val.length then 4 else 0
def rightSs : List Sb → Int
  | [] => 0
  | s :: r => if rightS s = 0 then rightSs r else rightS s
def rightF (f : Fld) : Int :=
  if tagB f.tag = false then 6 else if indB f.ind = false then 3 else if f.subs.length = 0 then 8 else if 16 < f.subs.length then 4
  else if rightSs f.subs = 0 then (if f.auth < 0 ∨ 9999 < f.auth then 2 else 0) else rightSs f.subs
def rightFs : List Fld → Int
  | [] => 0
  | f :: r => if rightF f = 0 then rightFs r else rightF f
def langB (t : Str) : Bool := t.all fun x => decide (97 ≤ x.toNat ∧ x.toNat ≤ 122)
def rightR (r : Rec) : Int :=
  if r.id < 0 ∨ 9999 < r.id then 2 else if r.ver < 1 ∨ 3 < r.ver then 20 else if r.kind < 1 ∨ 4 < r.kind then 1 else if r.lang.length = 3 then
    (if langB r.lang = false then 3 else if 64 < r.fields.length then 4 else rightFs r.fields) else 3
theorem rightSs_step {l : List Sb} {k : Nat} (h : k < l.length) : rightSs (l.drop k) = if rightS l[k] = 0 then rightSs (l.drop (k + 1)) else rightS l[k] := by
  rw [drop_cons h]; rfl
theorem rightSs_end {l : List Sb} {k : Nat} (h : ¬ k < l.length) : rightSs (l.drop k) = 0 := by
  rw [List.drop_eq_nil_of_le (by omega)]; rfl
theorem rightFs_step {l : List Fld} {k : Nat} (h : k < l.length) : rightFs (l.drop k) = if rightF l[k] = 0 then rightFs (l.drop (k + 1)) else rightF l[k] := by
  rw [drop_cons h]; rfl
theorem rightFs_end {l : List Fld} {k : Nat} (h : ¬ k < l.length) : rightFs (l.drop k) = 0 := by
  rw [List.drop_eq_nil_of_le (by omega)]; rfl
/-- What a walk wants of the sizes of texts. -/
def Fld.sm (f : Fld) : Prop := ∀ s ∈ f.subs, s.val.length ≤ 2000000
def Rec.sm (r : Rec) : Prop := ∀ f ∈ r.fields, f.sm
theorem rightSs_ok : ∀ {l : List Sb}, rightSs l = 0 → ∀ s ∈ l, rightS s = 0
  | [], _, s, hs => by cases hs
  | x :: r, h, s, hs => by
    unfold rightSs at h
    split at h
    · next h0 =>
      rcases List.mem_cons.1 hs with rfl | hs
      · exact h0
      · exact rightSs_ok h s hs
    · next h0 => exact absurd h h0
theorem rightFs_ok : ∀ {l : List Fld}, rightFs l = 0 → ∀ s ∈ l, rightF s = 0
  | [], _, s, hs => by cases hs
  | x :: r, h, s, hs => by
    unfold rightFs at h
    split at h
    · next h0 =>
      rcases List.mem_cons.1 hs with rfl | hs
      · exact h0
      · exact rightFs_ok h s hs
    · next h0 => exact absurd h h0
theorem rightS_ok {s : Sb} (h : rightS s = 0) : s.val ≠ [] ∧ validF s.val = true ∧ s.val.length ≤ 200 := by
  unfold rightS at h
  split at h
  · omega
  · split at h
    · omega
    · split at h
      · omega
      · next h1 h2 h3 =>
        split at h
        · omega
        · exact ⟨h2, by simpa using h3, by omega⟩
theorem rightF_ok {f : Fld} (h : rightF f = 0) : f.tag.length = 3 ∧ f.subs.length ≤ 16 ∧ ∀ s ∈ f.subs, rightS s = 0 := by
  unfold rightF at h
  split at h
  · omega
  · next h1 =>
    split at h
    · omega
    · split at h
      · omega
      · split at h
        · omega
        · split at h
          · next h4 =>
            refine ⟨?_, by omega, rightSs_ok h4⟩
            simp only [Bool.not_eq_false] at h1
            unfold tagB at h1
            simp at h1; exact h1.1
          · next h4 => exact absurd h h4
theorem rightR_ok {r : Rec} (h : rightR r = 0) : (0 ≤ r.id ∧ r.id ≤ 9999) ∧ (1 ≤ r.kind ∧ r.kind ≤ 4) ∧ r.lang.length = 3 ∧ r.fields.length ≤ 64 ∧ ∀ f ∈ r.fields, rightF f = 0 := by
  unfold rightR at h
  split at h
  · omega
  · split at h
    · omega
    · split at h
      · omega
      · split at h
        · next h3 =>
          split at h
          · omega
          · split at h
            · omega
            · exact ⟨by omega, by omega, h3, by omega, rightFs_ok h⟩
        · omega
end Go.Fc

/- Decimals; the values of a facet, in plain data. No condition. -/
namespace Go.Fc
open Go Go.Ax Go.Or Go.Tx Go.Lib
theorem dec_small {n : Nat} (h : n < 10) : decDigits n = [UInt8.ofNat (48 + n)] := by rw [decDigits, dif_pos h]
theorem dec_big {n : Nat} (h : ¬ n < 10) : decDigits n = decDigits (n / 10) ++ [UInt8.ofNat (48 + n % 10)] := by rw [decDigits, dif_neg h]
def DigI (n : Nat) (s : Nat × List UInt8) : Prop := (s.2 = [] ∧ s.1 = n) ∨ (s.2 ≠ [] ∧ ((s.1 = 0 ∧ s.2 = decDigits n) ∨ (0 < s.1 ∧ decDigits s.1 ++ s.2 = decDigits n)))
theorem DigI.next {n m : Nat} {o : List UInt8} (h : DigI n (m, o)) (hm : 0 < m ∨ o = []) : DigI n (m / 10, UInt8.ofNat (48 + m % 10) :: o) := by
  refine .inr ⟨by simp, ?_⟩
  simp only
  rcases h with ⟨h1, h2⟩ | ⟨h1, h2⟩
  · simp only at h1 h2
    subst h1; subst h2
    by_cases hs : m < 10
    · exact .inl ⟨by omega, by rw [dec_small hs, Nat.mod_eq_of_lt hs]⟩
    · exact .inr ⟨by omega, by rw [dec_big hs]⟩
  · simp only at h1 h2
    rcases h2 with ⟨h3, _⟩ | ⟨h3, h4⟩
    · rcases hm with hm | hm
      · omega
      · exact absurd hm h1
    · rw [← h4]
      by_cases hs : m < 10
      · exact .inl ⟨by omega, by rw [dec_small hs, Nat.mod_eq_of_lt hs]; rfl⟩
      · exact .inr ⟨by omega, by rw [dec_big hs, List.append_assoc]; rfl⟩
theorem DigI.done {n m : Nat} {o : List UInt8} (h : DigI n (m, o)) (hm : m = 0) (ho : o ≠ []) : o = decDigits n := by
  rcases h with ⟨h1, h2⟩ | ⟨h1, h2⟩
  · exact absurd h1 ho
  · rcases h2 with ⟨_, h3⟩ | ⟨h3, _⟩
    · exact h3
    · simp only at h3; omega
theorem digit_at : ∀ d, d < 10 → (([48, 49, 50, 51, 52, 53, 54, 55, 56, 57] : List UInt8).drop d).take 1 = [UInt8.ofNat (48 + d)] := by decide
theorem dec_len : ∀ (u : Nat), (decDigits u).length ≤ u + 1 := fun u => by
  induction u using Nat.strongRecOn with
  | _ u ih =>
    by_cases h : u < 10
    · rw [dec_small h]; simp
    · rw [dec_big h, List.length_append]
      have := ih (u / 10) (by omega)
      simp
      omega
theorem dec_len_k : ∀ (k u : Nat), u < 10 ^ (k + 1) → (decDigits u).length ≤ k + 1
  | 0, u, h => by rw [dec_small (by omega)]; simp
  | k + 1, u, h => by
    by_cases hs : u < 10
    · rw [dec_small hs]; simp
    · rw [dec_big hs, List.length_append]
      have := dec_len_k k (u / 10) (by rw [Nat.pow_succ] at h; omega)
      simp
      omega
/-! ### ascending texts -/
def putS (l : List Str) (s : Str) : List Str := if s = [] then l else Or.put ltS l s false
theorem putS_len (l : List Str) (s : Str) : (putS l s).length ≤ l.length + 1 := by
  unfold putS
  split
  · omega
  · exact put_len s l false
theorem put_step {l : List Str} {k : Nat} {n : Str} {d : Bool} (h : k < l.length) : Or.put ltS (l.drop k) n d = if d = false ∧ l[k] ≠ n ∧ ltS n l[k] = true then n :: l[k] :: Or.put ltS (l.drop (k + 1)) n true else l[k] :: Or.put ltS (l.drop (k + 1)) n (d || decide (l[k] = n)) := by
  rw [drop_cons h]; rfl
theorem put_end {l : List Str} {k : Nat} {n : Str} {d : Bool} (h : ¬ k < l.length) : Or.put ltS (l.drop k) n d = if d then [] else [n] := by
  rw [List.drop_eq_nil_of_le (by omega)]; rfl
/-! ### years -/
/-- The first run of exactly four digits that is a year, as the reference reads it: the number so far, and how many digits. -/
def yrG : Str → Int → Int → Int
  | [], n, g => if g = 4 ∧ 1000 ≤ n ∧ n ≤ 2199 then n else 0
  | x :: r, n, g => if digB x = true then yrG r (if g + 1 ≤ 4 then n * 10 + ((x.toNat : Int) - 48) else n) (g + 1) else if g = 4 ∧ 1000 ≤ n ∧ n ≤ 2199 then n else yrG r 0 0
def yearS (s : Str) : Int := yrG s 0 0
def yearSs : List Str → Int
  | [] => 0
  | s :: r => if 0 < yearS s then yearS s else yearSs r
def isYT (t : Str) : Bool := decide (t = [50, 54, 48]) || decide (t = [50, 54, 52])
def yearFs : List Fld → Int
  | [] => 0
  | f :: r => if isYT f.tag = true ∧ 0 < yearSs (allS f.subs [99]) then yearSs (allS f.subs [99]) else yearFs r
theorem yrG_bd : ∀ (s : Str) (n g : Int), 0 ≤ yrG s n g ∧ yrG s n g ≤ 2199
  | [], n, g => by unfold yrG; split <;> omega
  | x :: r, n, g => by
    unfold yrG
    split
    · exact yrG_bd r _ _
    · split
      · omega
      · exact yrG_bd r 0 0
theorem yearS_bd (s : Str) : 0 ≤ yearS s ∧ yearS s ≤ 2199 := yrG_bd s 0 0
theorem yearS_ge (s : Str) : yearS s = 0 ∨ 1000 ≤ yearS s := by
  have : ∀ (s : Str) (n g : Int), yrG s n g = 0 ∨ 1000 ≤ yrG s n g := by
    intro s
    induction s with
    | nil => intro n g; unfold yrG; split <;> omega
    | cons x r ih =>
      intro n g
      unfold yrG
      split
      · exact ih _ _
      · split
        · omega
        · exact ih _ _
  exact this s 0 0
theorem yearSs_bd : ∀ l : List Str, (yearSs l = 0 ∨ 1000 ≤ yearSs l) ∧ yearSs l ≤ 2199
  | [] => by simp [yearSs]
  | s :: r => by
    unfold yearSs
    have h1 := yearS_bd s
    have h2 := yearS_ge s
    split
    · omega
    · exact yearSs_bd r
theorem yearFs_bd : ∀ l : List Fld, (yearFs l = 0 ∨ 1000 ≤ yearFs l) ∧ yearFs l ≤ 2199
  | [] => by simp [yearFs]
  | f :: r => by
    unfold yearFs
    split
    · exact yearSs_bd _
    · exact yearFs_bd r
theorem yearSs_step {l : List Str} {k : Nat} (h : k < l.length) : yearSs (l.drop k) = if 0 < yearS l[k] then yearS l[k] else yearSs (l.drop (k + 1)) := by
  rw [drop_cons h]; rfl
theorem yearSs_end {l : List Str} {k : Nat} (h : ¬ k < l.length) : yearSs (l.drop k) = 0 := by
  rw [List.drop_eq_nil_of_le (by omega)]; rfl
theorem yearFs_step {l : List Fld} {k : Nat} (h : k < l.length) : yearFs (l.drop k) = if isYT l[k].tag = true ∧ 0 < yearSs (allS l[k].subs [99]) then yearSs (allS l[k].subs [99]) else yearFs (l.drop (k + 1)) := by
  rw [drop_cons h]; rfl
theorem yearFs_end {l : List Fld} {k : Nat} (h : ¬ k < l.length) : yearFs (l.drop k) = 0 := by
  rw [List.drop_eq_nil_of_le (by omega)]; rfl
/-! ### values -/
def unknownS : Str := [117, 110, 107, 110, 111, 119, 110]
def decadeS (r : Rec) : Str := if yearFs r.fields = 0 then unknownS else itoa (yearFs r.fields / 10 * 10) ++ [115]
def kindS (k : Int) : Str := if k = 1 then [98, 111, 111, 107] else if k = 2 then [115, 101, 114, 105, 97, 108] else if k = 3 then [109, 97, 112] else [100, 105, 103, 105, 116, 97, 108]
def isSubj (t : Str) : Bool := match t with | x :: _ => decide (x.toNat = 54) | [] => false
def isAuth (t : Str) : Bool := decide (t = [49, 48, 48]) || (decide (t = [49, 49, 48]) || (decide (t = [55, 48, 48]) || decide (t = [55, 49, 48])))
/-- What a field gives to a facet. -/
def rawFld (kind : Int) (f : Fld) : List Str := if kind = 4 then (if isSubj f.tag = true then [(getS f.subs 97).1] else []) else if kind = 5 then (if isAuth f.tag = true then [Lib.join (allS f.subs [97]) [32]] else []) else []
def rawV (kind : Int) (r : Rec) : List Str :=
  if kind = 1 then [r.lang] else if kind = 2 then (if 1 ≤ r.kind ∧ r.kind ≤ 4 then [kindS r.kind] else []) else if kind = 3 then [decadeS r] else r.fields.flatMap (rawFld kind)
def putsS (l : List Str) : List Str := l.foldl putS []
def valuesF (kind : Int) (r : Rec) : List Str := putsS (rawV kind r)
theorem putsS_len (l : List Str) : (putsS l).length ≤ l.length := by
  have : ∀ (xs o : List Str), (xs.foldl putS o).length ≤ o.length + xs.length := by
    intro xs
    induction xs with
    | nil => intro o; simp
    | cons x r ih =>
      intro o
      have h1 := ih (putS o x)
      have h2 := putS_len o x
      simp only [List.foldl_cons, List.length_cons]; omega
  have := this l []
  simpa [putsS] using this
theorem putsS_eq (l : List Str) : putsS l = (l.filter fun s => decide (s ≠ [])).foldl (fun o x => Or.put ltS o x false) [] := by
  unfold putsS
  have : ∀ (xs o : List Str), xs.foldl putS o = (xs.filter fun s => decide (s ≠ [])).foldl (fun o x => Or.put ltS o x false) o := by
    intro xs
    induction xs with
    | nil => intro o; rfl
    | cons x r ih =>
      intro o
      rw [List.foldl_cons, ih]
      by_cases h : x = []
      · subst h; simp [putS]
      · rw [List.filter_cons_of_pos (by simpa using h), List.foldl_cons]
        unfold putS
        rw [if_neg h]
  exact this l []
theorem putsS_spec (l : List Str) : Asc ltS (putsS l) ∧ ∀ v, v ∈ putsS l ↔ (v ≠ [] ∧ v ∈ l) := by
  rw [putsS_eq]
  obtain ⟨h1, h2⟩ := puts_spec sto_S (l.filter fun s => decide (s ≠ [])) [] .nil
  refine ⟨h1, fun v => ?_⟩
  rw [h2]
  simp [and_comm]
theorem dec3 {y : Nat} (h1 : 1000 ≤ y) (h2 : y ≤ 2199) : 3 ≤ (decDigits (y / 10)).length := by
  rw [dec_big (by omega), dec_big (by omega), List.length_append, List.length_append]
  have : 0 < (decDigits (y / 10 / 10 / 10)).length := by
    rw [decDigits]
    split <;> simp
  simp only [List.length_cons, List.length_nil]; omega
theorem dec0s {y : Nat} (h1 : 1000 ≤ y) : decDigits (y / 10) ++ [48, 115] = itoa ((y : Int) / 10 * 10) ++ [115] := by
  have e : ((y : Int) / 10 * 10) = ((y / 10 * 10 : Nat) : Int) := by omega
  rw [e]
  unfold itoa
  rw [if_neg (by omega), Int.toNat_natCast, dec_big (by omega : ¬ y / 10 * 10 < 10)]
  rw [show y / 10 * 10 / 10 = y / 10 by omega, show y / 10 * 10 % 10 = 0 by omega]
  simp
theorem foldl_next {k : Nat} {kind : Int} {fs : List Fld} (h : k < fs.length) : putsS ((fs.take (k + 1)).flatMap (rawFld kind)) = (rawFld kind fs[k]).foldl putS (putsS ((fs.take k).flatMap (rawFld kind))) := by
  unfold putsS
  rw [Fc.take_next h, List.flatMap_append, List.foldl_append]
  simp
/-- What a record must be, for its facets. -/
structure Rec.fit (r : Rec) : Prop where
  sm : r.sm
  nf : r.fields.length ≤ 2000
  ns : ∀ f ∈ r.fields, f.subs.length ≤ 2000
  jl : ∀ f ∈ r.fields, (Lib.join (allS f.subs [97]) [32]).length ≤ 1000000000
theorem raw_len (kind : Int) (f : Fld) : (rawFld kind f).length ≤ 1 := by
  unfold rawFld
  split
  · split <;> simp
  · split
    · split <;> simp
    · simp
theorem raws_len (kind : Int) : ∀ fs : List Fld, (fs.flatMap (rawFld kind)).length ≤ fs.length
  | [] => by simp
  | f :: r => by
    rw [List.flatMap_cons, List.length_append, List.length_cons]
    have := raw_len kind f
    have := raws_len kind r
    omega
end Go.Fc

/- Browse lists, in plain data. No condition. -/
namespace Go.Or
open Go
theorem sto_lex {α β : Type} [DecidableEq β] {lt1 : β → β → Bool} (h1 : STO lt1) (f : α → β) (lt2 : α → α → Bool) (irr : ∀ x, lt2 x x = false) (tr : ∀ x y z, lt2 x y = true → lt2 y z = true → lt2 x z = true) (tri : ∀ x y, f x = f y → lt2 x y = false → lt2 y x = false → x = y) :
    STO fun x y => lt1 (f x) (f y) || (decide (f x = f y) && lt2 x y) where
  irr x := by simp [h1.irr, irr]
  tr x y z a b := by
    simp only [Bool.or_eq_true, Bool.and_eq_true, decide_eq_true_eq] at *
    rcases a with a | ⟨a1, a2⟩
    · rcases b with b | ⟨b1, b2⟩
      · exact .inl (h1.tr _ _ _ a b)
      · exact .inl (b1 ▸ a)
    · rcases b with b | ⟨b1, b2⟩
      · exact .inl (a1 ▸ b)
      · exact .inr ⟨a1.trans b1, tr _ _ _ a2 b2⟩
  tri x y a b := by
    simp only [Bool.or_eq_false_iff, Bool.and_eq_false_iff, decide_eq_false_iff_not] at *
    have e := h1.tri _ _ a.1 b.1
    refine tri x y e ?_ ?_
    · rcases a.2 with h | h
      · exact absurd e h
      · exact h
    · rcases b.2 with h | h
      · exact absurd e.symm h
      · exact h
end Go.Or
namespace Go.Fc
open Go Go.Ax Go.Or Go.Tx
structure Br where
  hd : Str
  ref : Str
  cnt : Int
  deriving DecidableEq, Inhabited
structure Au where
  id : Int
  kind : Int
  hd : Str
  see : List Str
  above : List Int
  deriving DecidableEq, Inhabited
def Br.ds (b : Br) : List D := [.str b.hd, .str b.ref, .int .i64 b.cnt]
def Au.ds (a : Au) : List D := [.int .i64 a.id, .int .i64 a.kind, .str a.hd, .lst 1 (a.see.map sD), .lst 1 (a.above.map iD)]
@[push_cast] theorem Br.ds_eq (b : Br) : b.ds = [.str b.hd, .str b.ref, .int .i64 b.cnt] := rfl
@[push_cast] theorem Au.ds_eq (a : Au) : a.ds = [.int .i64 a.id, .int .i64 a.kind, .str a.hd, .lst 1 (a.see.map sD), .lst 1 (a.above.map iD)] := rfl
/-! ### the order -/
theorem cmpB_zero : ∀ (a b : Str), (Lib.compareBytes a b = 0) ↔ a = b
  | [], [] => by simp [Lib.compareBytes]
  | [], _ :: _ => by simp [Lib.compareBytes]
  | _ :: _, [] => by simp [Lib.compareBytes]
  | a :: r, b :: t => by
    unfold Lib.compareBytes
    by_cases h1 : a < b
    · simp only [if_pos h1]
      exact ⟨fun h => by omega, fun h => by injection h with h; subst h; exact absurd h1 (UInt8.lt_irrefl _)⟩
    · by_cases h2 : b < a
      · simp only [if_neg h1, if_pos h2]
        exact ⟨fun h => by omega, fun h => by injection h with h; subst h; exact absurd h2 (UInt8.lt_irrefl _)⟩
      · have h3 : a = b := UInt8.le_antisymm (UInt8.not_lt.1 h2) (UInt8.not_lt.1 h1)
        subst h3
        simp only [if_neg h1]
        rw [cmpB_zero r t]
        simp
theorem cmpB_lt : ∀ (a b : Str), decide (Lib.compareBytes a b < 0) = ltS a b
  | [], [] => by simp [Lib.compareBytes, Or.ltS, Op.bytesLess]
  | [], _ :: _ => by simp [Lib.compareBytes, Or.ltS, Op.bytesLess]
  | _ :: _, [] => by simp [Lib.compareBytes, Or.ltS, Op.bytesLess]
  | a :: r, b :: t => by
    have ih := cmpB_lt r t
    unfold Or.ltS at *
    unfold Lib.compareBytes Op.bytesLess
    by_cases h1 : a < b
    · simp [h1]
    · by_cases h2 : b < a
      · have h3 : ¬ a = b := fun e => by subst e; exact h1 h2
        simp [h1, h2, h3]
      · have h3 : a = b := UInt8.le_antisymm (UInt8.not_lt.1 h2) (UInt8.not_lt.1 h1)
        subst h3
        simp only [if_neg h1]
        rw [ih]
        simp [h1]
def cmpK (lang a b : Str) : Int := if Lib.compareBytes (keyP lang a) (keyP lang b) ≠ 0 then Lib.compareBytes (keyP lang a) (keyP lang b) else Lib.compareBytes a b
def ltK (lang a b : Str) : Bool := decide (cmpK lang a b < 0)
theorem ltK_eq (lang a b : Str) : ltK lang a b = (ltS (keyP lang a) (keyP lang b) || (decide (keyP lang a = keyP lang b) && ltS a b)) := by
  unfold ltK cmpK
  rw [← cmpB_lt, ← cmpB_lt]
  have h := cmpB_zero (keyP lang a) (keyP lang b)
  by_cases e : Lib.compareBytes (keyP lang a) (keyP lang b) = 0
  · rw [if_neg (by simpa using e), decide_eq_true (h.1 e), e]; simp
  · rw [if_pos e, decide_eq_false (fun q => e (h.2 q))]; simp
theorem sto_K (lang : Str) : STO (ltK lang) := by
  have h := sto_lex sto_S (keyP lang) ltS sto_S.irr sto_S.tr (fun x y _ => sto_S.tri x y)
  have e : ltK lang = fun x y => ltS (keyP lang x) (keyP lang y) || (decide (keyP lang x = keyP lang y) && ltS x y) := by
    funext x y; exact ltK_eq lang x y
  rw [e]; exact h
theorem cmpK_zero (lang a b : Str) : cmpK lang a b = 0 ↔ a = b := by
  unfold cmpK
  by_cases e : Lib.compareBytes (keyP lang a) (keyP lang b) = 0
  · rw [if_neg (by simpa using e)]; exact cmpB_zero a b
  · rw [if_pos e]
    exact ⟨fun h => absurd h e, fun h => by subst h; exact absurd ((cmpB_zero _ _).2 rfl) e⟩
abbrev Pr := Str × Str
def cmpP (lang : Str) (x y : Pr) : Int := if cmpK lang x.1 y.1 ≠ 0 then cmpK lang x.1 y.1 else cmpK lang x.2 y.2
def ltP (lang : Str) (x y : Pr) : Bool := decide (cmpP lang x y < 0)
theorem ltP_eq (lang : Str) (x y : Pr) : ltP lang x y = (ltK lang x.1 y.1 || (decide (x.1 = y.1) && ltK lang x.2 y.2)) := by
  unfold ltP cmpP
  have h := cmpK_zero lang x.1 y.1
  by_cases e : cmpK lang x.1 y.1 = 0
  · rw [if_neg (by simpa using e), decide_eq_true (h.1 e)]
    have : ltK lang x.1 y.1 = false := by unfold ltK; rw [e]; rfl
    rw [this]; simp [ltK]
  · rw [if_pos e, decide_eq_false (fun q => e (h.2 q))]; simp [ltK]
theorem sto_P (lang : Str) : STO (ltP lang) := by
  have h := sto_lex (sto_K lang) (Prod.fst : Pr → Str) (fun x y => ltK lang x.2 y.2) (fun x => (sto_K lang).irr _) (fun x y z => (sto_K lang).tr _ _ _) (fun x y e a b => Prod.ext e ((sto_K lang).tri _ _ a b))
  have e : ltP lang = fun x y => ltK lang x.1 y.1 || (decide (x.1 = y.1) && ltK lang x.2 y.2) := by
    funext x y; exact ltP_eq lang x y
  rw [e]; exact h
theorem cmpP_zero (lang : Str) (x y : Pr) : cmpP lang x y = 0 ↔ x = y := by
  unfold cmpP
  by_cases e : cmpK lang x.1 y.1 = 0
  · rw [if_neg (by simpa using e), cmpK_zero]
    have := (cmpK_zero lang x.1 y.1).1 e
    exact ⟨fun h => Prod.ext this h, fun h => by rw [h]⟩
  · rw [if_pos e]
    exact ⟨fun h => absurd h e, fun h => by subst h; exact absurd ((cmpK_zero _ _ _).2 rfl) e⟩
def Br.pr (b : Br) : Pr := (b.hd, b.ref)
end Go.Fc

/- Browse lists: the list that is built. Plain data; no condition. -/
namespace Go.Fc
open Go Go.Ax Go.Or Go.Tx
theorem cntP_le {α : Type} (p : α → Bool) (l : List α) : l.countP p ≤ l.length := List.countP_le_length
/-- Records' headings: whether a record has a heading of a kind, for a way H of reading a field's kind and heading. -/
def hasH (H : Fld → Int × Str) (r : Rec) (kind : Int) (h : Str) : Bool := r.fields.any fun f => decide (H f = (kind, h))
def cntH (H : Fld → Int × Str) (l : List Rec) (kind : Int) (h : Str) : Int := (l.countP fun r => hasH H r kind h : Nat)
/-- The pairs that are put into a list: those of the records, and those of the authorities. -/
def pairsR (H : Fld → Int × Str) (l : List Rec) (kind : Int) : List Pr := l.flatMap fun r => (r.fields.filter fun f => decide ((H f).1 = kind) && decide ((H f).2 ≠ [])).map fun f => ((H f).2, [])
def pairsA (auths : List Au) (kind : Int) : List Pr := (auths.filter fun a => decide (a.kind = kind)).flatMap fun a => (a.hd, []) :: a.see.map fun s => (s, a.hd)
def mkBr (H : Fld → Int × Str) (l : List Rec) (kind : Int) (p : Pr) : Br := ⟨p.1, p.2, if p.2 = [] then cntH H l kind p.1 else cntH H l kind p.2⟩
def okKind (kind : Int) : Bool := decide (1 ≤ kind) && decide (kind ≤ 4)
def allP (H : Fld → Int × Str) (l : List Rec) (auths : List Au) (kind : Int) : List Pr := pairsR H l kind ++ pairsA auths kind
/-- The list, as the reference puts it together. -/
def buildP (H : Fld → Int × Str) (l : List Rec) (auths : List Au) (kind : Int) (lang : Str) : List Pr := (allP H l auths kind).foldl (fun o x => put (ltP lang) o x false) []
def buildF (H : Fld → Int × Str) (l : List Rec) (auths : List Au) (kind : Int) (lang : Str) : List Br := if okKind kind = true then (buildP H l auths kind lang).map (mkBr H l kind) else []
theorem buildP_spec (H : Fld → Int × Str) (l : List Rec) (auths : List Au) (kind : Int) (lang : Str) : Asc (ltP lang) (buildP H l auths kind lang) ∧ ∀ v, v ∈ buildP H l auths kind lang ↔ v ∈ allP H l auths kind := by
  obtain ⟨h1, h2⟩ := puts_spec (sto_P lang) (allP H l auths kind) [] List.Pairwise.nil
  exact ⟨h1, fun v => by rw [show v ∈ buildP H l auths kind lang ↔ _ from h2 v]; simp⟩
/-- A row of different pairs, sorted, is the list. -/
theorem build_sorted {H : Fld → Int × Str} {l : List Rec} {auths : List Au} {kind : Int} {lang : Str} {q s : List Pr} (hn : q.Nodup) (hm : ∀ v, v ∈ q ↔ v ∈ allP H l auths kind) (hp : s.Perm q) (hs : s.Pairwise fun x y => ltP lang y x = false) : s = buildP H l auths kind lang := by
  obtain ⟨h1, h2⟩ := buildP_spec H l auths kind lang
  refine asc_eq (sto_P lang) ?_ h1 fun v => by rw [hp.mem_iff, hm, h2]
  have hns : s.Nodup := hp.nodup_iff.2 hn
  have := hs.and (List.nodup_iff_pairwise_ne.1 hns)
  refine this.imp fun {x y} ⟨a, b⟩ => ?_
  cases e : ltP lang x y with
  | true => rfl
  | false => exact absurd ((sto_P lang).tri x y e a) b
theorem map_key_perm {H : Fld → Int × Str} {l : List Rec} {kind : Int} {q : List Pr} {s : List Br} (hp : s.Perm (q.map (mkBr H l kind))) : (s.map Br.pr).Perm q ∧ s = (s.map Br.pr).map (mkBr H l kind) := by
  have e : ∀ p, Br.pr (mkBr H l kind p) = p := fun p => rfl
  have h1 : (s.map Br.pr).Perm q := by
    have := hp.map Br.pr
    rwa [List.map_map, show Br.pr ∘ mkBr H l kind = id from funext e, List.map_id] at this
  refine ⟨h1, ?_⟩
  rw [List.map_map]
  refine (List.map_id s).symm.trans (List.map_congr_left fun x hx => ?_)
  obtain ⟨p, _, rfl⟩ := List.mem_map.1 (hp.mem_iff.1 hx)
  rfl
end Go.Fc

/- Authorities, in plain data. No condition. -/
namespace Go.Fc
open Go Go.Ax Go.Or Go.Tx
def firstE {α : Type} (f : α → Int) : List α → Int
  | [] => 0
  | x :: r => if f x = 0 then firstE f r else f x
theorem firstE_step {α : Type} {f : α → Int} {l : List α} {k : Nat} (h : k < l.length) : firstE f (l.drop k) = if f l[k] = 0 then firstE f (l.drop (k + 1)) else f l[k] := by rw [drop_cons h]; rfl
theorem firstE_end {α : Type} {f : α → Int} {l : List α} {k : Nat} (h : ¬ k < l.length) : firstE f (l.drop k) = 0 := by rw [List.drop_eq_nil_of_le (by omega)]; rfl
theorem firstE_ok {α : Type} {f : α → Int} : ∀ {l : List α}, firstE f l = 0 → ∀ x ∈ l, f x = 0
  | [], _, x, hx => by cases hx
  | y :: r, h, x, hx => by
    unfold firstE at h
    split at h
    · next h0 =>
      rcases List.mem_cons.1 hx with rfl | hx
      · exact h0
      · exact firstE_ok h x hx
    · next h0 => exact absurd h h0
def headsA (a : Au) : List Str := a.hd :: a.see
def shape1 (k : Int) (s : Str) : Int := if validF s = false ∨ ¬ cleanF s = s ∨ normF s = [] ∨ (k = 3 ∧ ¬ Lib.join (partsF s) [45, 45] = s) then 3 else if 200 < s.length ∨ 4 < (partsF s).length then 4 else 0
def shapeA (a : Au) : Int := if a.kind < 1 ∨ 4 < a.kind then 1 else if firstE (shape1 a.kind) (headsA a) = 0 then (if 8 < a.see.length then 13 else 0) else firstE (shape1 a.kind) (headsA a)
/-- IDs, kinds and headings, one authority after the other. -/
def formsE : Option Int → List Au → Int
  | _, [] => 0
  | p, a :: r => if a.id < 1 ∨ 9999 < a.id then 2 else if (match p with | none => false | some q => decide (a.id ≤ q)) = true then 7 else if shapeA a = 0 then formsE (some a.id) r else shapeA a
def prevI (l : List Au) (k : Nat) : Option Int := if k = 0 then none else (l[k - 1]?).map Au.id
def keysA (l : List Au) : List (Str × Int) := l.flatMap fun a => (headsA a).map fun s => (normF s, a.kind)
def twiceA (l : List Au) : Bool := !decide ((keysA l).Nodup)
def ascI : List Int → Bool
  | [] => true
  | [_] => true
  | x :: y :: r => decide (x < y) && ascI (y :: r)
def getA (l : List Au) (id : Int) : Option Au := l.find? fun a => decide (a.id = id)
def sameK (l : List Au) (kind id : Int) : Bool := match getA l id with | some a => decide (a.kind = kind) | none => false
def above1 (l : List Au) (a : Au) : Int := if 4 < a.above.length then 13 else if ascI a.above = false then 7 else if a.above.all (sameK l a.kind) = true then 0 else 9
def ltI (a b : Int) : Bool := decide (a < b)
def putI (l : List Int) (n : Int) : List Int := if n ∈ l then l else Or.put ltI l n false
def stepA (id : Int) (out : List Int) (a : Au) : List Int := if ¬ a.id = id ∧ ¬ a.id ∈ out then out else a.above.foldl putI out
def roundA (l : List Au) (id : Int) (out : List Int) : List Int := l.foldl (stepA id) out
def iterN {α : Type} (f : α → α) : Nat → α → α
  | 0, x => x
  | n + 1, x => iterN f n (f x)
def aboveR (l : List Au) (id : Int) : List Int := iterN (roundA l id) (l.length + 1) []
def loopE (l : List Au) : Bool := l.any fun a => decide (a.id ∈ aboveR l a.id)
def rightA (l : List Au) : Int := if 64 < l.length then 13 else if formsE none l = 0 then (if twiceA l = true then 7 else if firstE (above1 l) l = 0 then (if loopE l = true then 11 else 0) else firstE (above1 l) l) else formsE none l
def smallA (a : Au) : Bool := decide ((headsA a).length ≤ 12) && (decide (a.above.length ≤ 8) && (headsA a).all fun s => decide (s.length ≤ 260))
def smallAs (l : List Au) : Bool := decide (l.length ≤ 30) && l.all smallA
theorem formsE_step {l : List Au} {k : Nat} (h : k < l.length) : formsE (prevI l k) (l.drop k) = if l[k].id < 1 ∨ 9999 < l[k].id then 2 else if (match prevI l k with | none => false | some q => decide (l[k].id ≤ q)) = true then 7 else if shapeA l[k] = 0 then formsE (prevI l (k + 1)) (l.drop (k + 1)) else shapeA l[k] := by
  rw [drop_cons h]
  have : prevI l (k + 1) = some l[k].id := by
    unfold prevI
    rw [if_neg (by omega), Nat.add_sub_cancel, List.getElem?_eq_getElem h]; rfl
  rw [this]; rfl
theorem formsE_end {l : List Au} {k : Nat} (h : ¬ k < l.length) : formsE (prevI l k) (l.drop k) = 0 := by
  rw [List.drop_eq_nil_of_le (by omega)]; rfl
theorem getA_step {l : List Au} {k : Nat} {id : Int} (h : k < l.length) : getA (l.drop k) id = if l[k].id = id then some l[k] else getA (l.drop (k + 1)) id := by
  rw [drop_cons h]
  unfold getA
  rw [List.find?_cons]
  by_cases e : l[k].id = id
  · rw [if_pos e, decide_eq_true e]
  · rw [if_neg e, decide_eq_false e]
theorem getA_end {l : List Au} {k : Nat} {id : Int} (h : ¬ k < l.length) : getA (l.drop k) id = none := by
  rw [List.drop_eq_nil_of_le (by omega)]; rfl
theorem getA_mem {l : List Au} {id : Int} {a : Au} (h : getA l id = some a) : a ∈ l ∧ a.id = id := by
  unfold getA at h
  have h2 := List.find?_some h
  exact ⟨List.mem_of_find?_eq_some h, by simpa using h2⟩
/-- How many numbers stand above. -/
def abN (l : List Au) : Nat := (l.map fun a => a.above.length).sum
theorem putI_len (l : List Int) (n : Int) : (putI l n).length ≤ l.length + 1 := by
  unfold putI
  split
  · omega
  · exact Or.put_len n l false
theorem putI_mem {l : List Int} {n v : Int} (h : v ∈ putI l n) : v = n ∨ v ∈ l := by
  unfold putI at h
  split at h
  · exact .inr h
  · exact Or.put_mem n l false v h
theorem putsI_len : ∀ (xs o : List Int), (xs.foldl putI o).length ≤ o.length + xs.length
  | [], o => by simp
  | x :: xs, o => by
    have h1 := putsI_len xs (putI o x)
    have h2 := putI_len o x
    rw [List.foldl_cons, List.length_cons]; omega
theorem stepA_len (id : Int) (o : List Int) (a : Au) : (stepA id o a).length ≤ o.length + a.above.length := by
  unfold stepA
  split
  · omega
  · exact putsI_len _ _
theorem steps_len (id : Int) : ∀ (l : List Au) (o : List Int), (l.foldl (stepA id) o).length ≤ o.length + abN l
  | [], o => by simp [abN]
  | a :: l, o => by
    have h1 := steps_len id l (stepA id o a)
    have h2 := stepA_len id o a
    have h3 : abN (a :: l) = a.above.length + abN l := by simp [abN]
    rw [List.foldl_cons, h3]; omega
theorem abN_take (l : List Au) (k : Nat) : abN (l.take k) ≤ abN l := by
  have h : abN l = abN (l.take k) + abN (l.drop k) := by
    unfold abN
    rw [← List.sum_append, ← List.map_append, List.take_append_drop]
  omega
theorem abN_mem : ∀ {l : List Au} {a : Au}, a ∈ l → a.above.length ≤ abN l
  | [], a, h => by cases h
  | b :: l, a, h => by
    have h3 : abN (b :: l) = b.above.length + abN l := by simp [abN]
    rw [h3]
    rcases List.mem_cons.1 h with rfl | h
    · omega
    · have := abN_mem h; omega
theorem iterN_succ {α : Type} (f : α → α) : ∀ (n : Nat) (x : α), iterN f (n + 1) x = f (iterN f n x)
  | 0, _ => rfl
  | n + 1, x => by
    have := iterN_succ f n (f x)
    exact this
theorem iter_len (l : List Au) (id : Int) : ∀ k : Nat, (iterN (roundA l id) k []).length ≤ k * abN l
  | 0 => by simp [iterN]
  | k + 1 => by
    rw [iterN_succ, Nat.add_mul]
    have h1 := iter_len l id k
    have h2 := steps_len id l (iterN (roundA l id) k [])
    unfold roundA at *
    omega
theorem shapeA_ok {a : Au} (h : shapeA a = 0) : (1 ≤ a.kind ∧ a.kind ≤ 4) ∧ a.see.length ≤ 8 ∧ ∀ s ∈ headsA a, validF s = true ∧ s.length ≤ 200 ∧ normF s ≠ [] := by
  unfold shapeA at h
  split at h
  · omega
  · next h1 =>
    split at h
    · next h2 =>
      split at h
      · omega
      · refine ⟨by omega, by omega, fun s hs => ?_⟩
        have h3 := firstE_ok h2 s hs
        unfold shape1 at h3
        split at h3
        · omega
        · next h4 =>
          split at h3
          · omega
          · refine ⟨?_, by omega, fun e => h4 (.inr (.inr (.inl e)))⟩
            cases e : validF s with
            | true => rfl
            | false => exact absurd (.inl e) h4
    · next h2 => exact absurd h h2
def leP (p : Option Int) (n : Int) : Bool := match p with | none => false | some q => decide (n ≤ q)
theorem formsE_ok : ∀ {l : List Au} {p : Option Int}, formsE p l = 0 → ∀ a ∈ l, shapeA a = 0 ∧ 1 ≤ a.id ∧ a.id ≤ 9999
  | [], _, _, a, ha => by cases ha
  | b :: r, p, h, a, ha => by
    have h : (if b.id < 1 ∨ 9999 < b.id then 2 else if leP p b.id = true then 7 else if shapeA b = 0 then formsE (some b.id) r else shapeA b) = 0 := h
    by_cases h1 : b.id < 1 ∨ 9999 < b.id
    · rw [if_pos h1] at h; omega
    · rw [if_neg h1] at h
      by_cases h2 : leP p b.id = true
      · rw [if_pos h2] at h; omega
      · rw [if_neg h2] at h
        by_cases h3 : shapeA b = 0
        · rw [if_pos h3] at h
          rcases List.mem_cons.1 ha with rfl | ha
          · exact ⟨h3, by omega, by omega⟩
          · exact formsE_ok h a ha
        · rw [if_neg h3] at h; exact absurd h h3
theorem keys_le (n : Nat) : ∀ (l : List Au), (∀ a ∈ l, a.see.length ≤ n) → (keysA l).length ≤ l.length * (n + 1)
  | [], _ => by simp [keysA]
  | a :: l, h => by
    have h1 := keys_le n l fun x hx => h x (by simp [hx])
    have h2 := h a (by simp)
    have e : (keysA (a :: l)).length = (a.see.length + 1) + (keysA l).length := by simp [keysA, headsA]; omega
    rw [e, List.length_cons, Nat.add_mul l.length 1]; omega
theorem ab_le (n : Nat) : ∀ (l : List Au), (∀ a ∈ l, a.above.length ≤ n) → abN l ≤ l.length * n
  | [], _ => by simp [abN]
  | a :: l, h => by
    have h1 := ab_le n l fun x hx => h x (by simp [hx])
    have h2 := h a (by simp)
    have e : abN (a :: l) = a.above.length + abN l := by simp [abN]
    rw [e, List.length_cons, Nat.add_mul]; omega
theorem above1_len {l : List Au} {a : Au} (h : above1 l a = 0) : a.above.length ≤ 4 := by
  unfold above1 at h
  split at h
  · omega
  · omega
end Go.Fc
