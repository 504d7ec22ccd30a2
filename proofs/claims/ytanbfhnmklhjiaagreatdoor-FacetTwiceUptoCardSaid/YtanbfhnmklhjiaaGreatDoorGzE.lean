/- Part of a proof about this program; no condition of its own. -/
import Derived.Lib.SlicesCompact
import Derived.Sort.Walk0
import Derived.Test.YtanbfhnmklhjiaaGreatDoorAxVd
set_option linter.all false
/- Lists ascending by a strict total order: insertion, sorting, compacting. Plain Lean; no condition of its own. -/
namespace Go.Or
open Go
/-- A strict total order, as a test. -/
structure STO {α : Type} (lt : α → α → Bool) : Prop where
  irr : ∀ x, lt x x = false
  tr : ∀ x y z, lt x y = true → lt y z = true → lt x z = true
  tri : ∀ x y, lt x y = false → lt y x = false → x = y
variable {α : Type} {lt : α → α → Bool}
theorem STO.asym (h : STO lt) {x y : α} (a : lt x y = true) : lt y x = false := by
  cases e : lt y x with
  | false => rfl
  | true => have := h.tr x y x a e; rw [h.irr] at this; cases this
theorem STO.ne (h : STO lt) {x y : α} (a : lt x y = true) : x ≠ y := fun e => by subst e; rw [h.irr] at a; cases a
theorem STO.ntr (h : STO lt) (x y z : α) (a : lt x y = false) (b : lt y z = false) : lt x z = false := by
  cases e : lt x z with
  | false => rfl
  | true =>
    cases e2 : lt z y with
    | true => have := h.tr x z y e e2; rw [a] at this; cases this
    | false => have := h.tri y z b e2; subst this; rw [a] at e; cases e
abbrev Asc (lt : α → α → Bool) (l : List α) : Prop := l.Pairwise (fun x y => lt x y = true)
theorem asc_eq (h : STO lt) : ∀ {a b : List α}, Asc lt a → Asc lt b → (∀ v, v ∈ a ↔ v ∈ b) → a = b
  | [], [], _, _, _ => rfl
  | [], y :: b, _, _, hm => by have := (hm y).2 (List.mem_cons_self ..); cases this
  | x :: a, [], _, _, hm => by have := (hm x).1 (List.mem_cons_self ..); cases this
  | x :: a, y :: b, ha, hb, hm => by
    rw [Asc, List.pairwise_cons] at ha hb
    have hxy : x = y := by
      rcases List.mem_cons.1 ((hm x).1 (List.mem_cons_self ..)) with e | e
      · exact e
      · rcases List.mem_cons.1 ((hm y).2 (List.mem_cons_self ..)) with e' | e'
        · exact e'.symm
        · have h1 := ha.1 y e'
          have h2 := hb.1 x e
          rw [h.asym h1] at h2; cases h2
    subst hxy
    rw [asc_eq h ha.2 hb.2 fun v => ?_]
    constructor
    · intro hv
      rcases List.mem_cons.1 ((hm v).1 (List.mem_cons_of_mem _ hv)) with e | e
      · have := ha.1 v hv; rw [e, h.irr] at this; cases this
      · exact e
    · intro hv
      rcases List.mem_cons.1 ((hm v).2 (List.mem_cons_of_mem _ hv)) with e | e
      · have := hb.1 v hv; rw [e, h.irr] at this; cases this
      · exact e
/-- Ascending elements with another one, each once, as a reference's loop does it. -/
def put [DecidableEq α] (lt : α → α → Bool) : List α → α → Bool → List α
  | [], n, done => if done then [] else [n]
  | x :: r, n, done => if done = false ∧ x ≠ n ∧ lt n x = true then n :: x :: put lt r n true else x :: put lt r n (done || decide (x = n))
section
variable [DecidableEq α]
theorem put_true (n : α) : ∀ l : List α, put lt l n true = l
  | [] => rfl
  | x :: r => by unfold put; rw [if_neg (by simp)]; simp [put_true n r]
theorem put_spec (h : STO lt) (n : α) : ∀ l : List α, Asc lt l → Asc lt (put lt l n false) ∧ ∀ v, v ∈ put lt l n false ↔ (v = n ∨ v ∈ l)
  | [], _ => by simp [put, Asc]
  | x :: r, ha => by
    rw [Asc, List.pairwise_cons] at ha
    obtain ⟨i1, i2⟩ := put_spec h n r ha.2
    unfold put
    by_cases hx : x = n
    · subst hx
      rw [if_neg (by simp)]
      simp only [decide_true, Bool.or_true, put_true]
      exact ⟨List.pairwise_cons.2 ha, fun v => by simp⟩
    · by_cases hn : lt n x = true
      · rw [if_pos ⟨rfl, hx, hn⟩, put_true]
        refine ⟨List.pairwise_cons.2 ⟨fun v hv => ?_, List.pairwise_cons.2 ha⟩, fun v => by simp⟩
        rcases List.mem_cons.1 hv with rfl | hv
        · exact hn
        · exact h.tr _ _ _ hn (ha.1 v hv)
      · rw [if_neg (fun c => hn c.2.2)]
        have hb : decide (x = n) = false := decide_eq_false hx
        rw [hb, Bool.or_false]
        have hxn : lt x n = true := by
          cases e : lt x n with
          | true => rfl
          | false => exact absurd (h.tri x n e (by simpa using hn)) hx
        refine ⟨List.pairwise_cons.2 ⟨fun v hv => ?_, i1⟩, fun v => ?_⟩
        · rcases (i2 v).1 hv with rfl | hv
          · exact hxn
          · exact ha.1 v hv
        · rw [List.mem_cons, i2, List.mem_cons]
          constructor
          · rintro (h | h | h) <;> simp [h]
          · rintro (h | h | h) <;> simp [h]
theorem puts_spec (h : STO lt) : ∀ (xs l : List α), Asc lt l → Asc lt (xs.foldl (fun o x => put lt o x false) l) ∧ ∀ v, v ∈ xs.foldl (fun o x => put lt o x false) l ↔ (v ∈ l ∨ v ∈ xs)
  | [], l, hl => ⟨hl, fun v => by simp⟩
  | x :: xs, l, hl => by
    obtain ⟨h1, h2⟩ := put_spec h x l hl
    obtain ⟨h3, h4⟩ := puts_spec h xs _ h1
    refine ⟨h3, fun v => ?_⟩
    rw [List.foldl_cons, h4, h2, List.mem_cons]
    constructor
    · rintro ((h | h) | h) <;> simp [h]
    · rintro (h | h | h) <;> simp [h]
theorem put_len (n : α) : ∀ (l : List α) (d : Bool), (put lt l n d).length ≤ l.length + 1
  | [], d => by unfold put; cases d <;> simp
  | x :: r, d => by
    unfold put
    split
    · rw [put_true]; simp
    · have := put_len n r (d || decide (x = n)); simp; omega
theorem puts_len : ∀ (xs l : List α), (xs.foldl (fun o x => put lt o x false) l).length ≤ l.length + xs.length
  | [], l => by simp
  | x :: xs, l => by
    have h1 := puts_len xs (put lt l x false)
    have h2 := put_len (lt := lt) x l false
    simp only [List.foldl_cons, List.length_cons]; omega
theorem put_mem (n : α) : ∀ (l : List α) (d : Bool) (v : α), v ∈ put lt l n d → v = n ∨ v ∈ l
  | [], d, v, h => by unfold put at h; cases d <;> simp_all
  | x :: r, d, v, h => by
    unfold put at h
    split at h
    · rw [put_true] at h
      simpa using h
    · rcases List.mem_cons.1 h with rfl | h
      · simp
      · rcases put_mem n r _ v h with h | h <;> simp [h]
/-! ### compacting a sorted list -/
theorem compact_spec [Inhabited α] (h : STO lt) (zs : List α) (hs : zs.Pairwise (fun x y => lt y x = false)) : Asc lt (Lib.compact zs) ∧ ∀ v, v ∈ Lib.compact zs ↔ v ∈ zs := by
  have hd : ∀ j, j < zs.length → zs.toArray[j]! = zs[j]! := fun j hj => by simp
  have hm : ∀ i j, i ≤ j → j < zs.length → lt zs[j]! zs[i]! = false := fun i j hij hj => by
    rcases Nat.lt_or_ge i j with hh | hh
    · rw [getElem!_pos zs i (by omega), getElem!_pos zs j hj]
      exact List.pairwise_iff_getElem.1 hs i j (by omega) hj hh
    · rw [show i = j by omega]; exact h.irr _
  have key : ∀ m, m ≤ zs.length → Asc lt (Lib.compactUpTo zs.toArray m) ∧ ∀ v, v ∈ Lib.compactUpTo zs.toArray m ↔ ∃ j, j < m ∧ zs[j]! = v := by
    intro m
    induction m with
    | zero => intro _; exact ⟨by simp [Lib.compactUpTo, Asc], fun v => by simp [Lib.compactUpTo]⟩
    | succ m ih =>
      intro hml
      obtain ⟨h1, h2⟩ := ih (by omega)
      rw [Lib.compactUpTo_succ]
      by_cases hk : Lib.keeps zs.toArray m = true
      · rw [if_pos hk]
        have hlt : ∀ x ∈ Lib.compactUpTo zs.toArray m, lt x zs[m]! = true := fun x hx => by
          obtain ⟨j, hj, rfl⟩ := (h2 x).1 hx
          unfold Lib.keeps at hk
          simp only [decide_eq_true_eq] at hk
          rw [hd m (by omega), hd (m - 1) (by omega)] at hk
          have a := hm j (m - 1) (by omega) (by omega)
          have b := hm (m - 1) m (by omega) (by omega)
          rcases hk with hk | hk
          · omega
          · have hc : lt zs[m - 1]! zs[m]! = true := by
              cases e : lt zs[m - 1]! zs[m]! with
              | true => rfl
              | false => exact absurd (h.tri _ _ b e) hk
            cases e : lt zs[j]! zs[m]! with
            | true => rfl
            | false =>
              have := h.ntr _ _ _ a e
              rw [hc] at this; cases this
        rw [hd m (by omega)]
        refine ⟨List.pairwise_append.2 ⟨h1, List.pairwise_singleton _ _, fun x hx y hy => ?_⟩, fun v => ?_⟩
        · rw [List.mem_singleton.1 hy]; exact hlt x hx
        · rw [List.mem_append, h2, List.mem_singleton]
          constructor
          · rintro (⟨j, hj, e⟩ | e)
            · exact ⟨j, by omega, e⟩
            · exact ⟨m, by omega, e.symm⟩
          · rintro ⟨j, hj, e⟩
            by_cases hjm : j = m
            · exact .inr (by rw [← e, hjm])
            · exact .inl ⟨j, by omega, e⟩
      · rw [if_neg hk, List.append_nil]
        refine ⟨h1, fun v => ?_⟩
        rw [h2]
        constructor
        · rintro ⟨j, hj, e⟩; exact ⟨j, by omega, e⟩
        · rintro ⟨j, hj, e⟩
          by_cases hjm : j = m
          · unfold Lib.keeps at hk
            simp only [decide_eq_true_eq, not_or, Classical.not_not] at hk
            rw [hd m (by omega), hd (m - 1) (by omega)] at hk
            exact ⟨m - 1, by omega, by rw [← hk.2, ← hjm, e]⟩
          · exact ⟨j, by omega, e⟩
  obtain ⟨h1, h2⟩ := key zs.length (Nat.le_refl _)
  refine ⟨h1, fun v => (h2 v).trans ⟨fun ⟨j, hj, e⟩ => ?_, fun hv => ?_⟩⟩
  · rw [← e, getElem!_pos zs j hj]; exact List.getElem_mem hj
  · obtain ⟨j, hj, e⟩ := List.mem_iff_getElem.1 hv
    exact ⟨j, hj, by rw [getElem!_pos zs j hj, e]⟩
end
theorem sort_perm_eq (h : STO lt) {a b : List α} (hp : a.Perm b) (ha : a.Pairwise (fun x y => lt y x = false)) (hb : b.Pairwise (fun x y => lt y x = false)) : a = b :=
  List.Perm.eq_of_pairwise (le := fun x y => lt y x = false) (fun x y _ _ hx hy => h.tri x y hy hx) ha hb hp
/-! ### strings -/
def ltS (x y : List UInt8) : Bool := Op.bytesLess x y
theorem bl_irr : ∀ x : List UInt8, Op.bytesLess x x = false
  | [] => rfl
  | a :: x => by simp [Op.bytesLess, bl_irr x]
theorem bl_tr : ∀ x y z : List UInt8, Op.bytesLess x y = true → Op.bytesLess y z = true → Op.bytesLess x z = true
  | _, [], _, h, _ => by unfold Op.bytesLess at h; cases h
  | _, _ :: _, [], _, h => by unfold Op.bytesLess at h; cases h
  | [], _ :: _, _ :: _, _, _ => rfl
  | a :: x, b :: y, c :: z, h1, h2 => by
    simp only [Op.bytesLess, Bool.or_eq_true, decide_eq_true_eq, Bool.and_eq_true, beq_iff_eq] at h1 h2 ⊢
    rcases h1 with h1 | ⟨rfl, h1⟩
    · rcases h2 with h2 | ⟨rfl, h2⟩
      · exact .inl (UInt8.lt_trans h1 h2)
      · exact .inl h1
    · rcases h2 with h2 | ⟨rfl, h2⟩
      · exact .inl h2
      · exact .inr ⟨rfl, bl_tr x y z h1 h2⟩
theorem bl_tri : ∀ x y : List UInt8, Op.bytesLess x y = false → Op.bytesLess y x = false → x = y
  | [], [], _, _ => rfl
  | [], _ :: _, h, _ => by simp [Op.bytesLess] at h
  | _ :: _, [], _, h => by simp [Op.bytesLess] at h
  | a :: x, b :: y, h1, h2 => by
    simp only [Op.bytesLess, Bool.or_eq_false_iff, decide_eq_false_iff_not, Bool.and_eq_false_imp, beq_iff_eq] at h1 h2
    have e : a = b := by
      have h3 := h1.1
      have h4 := h2.1
      apply UInt8.toNat_inj.1
      rw [UInt8.lt_iff_toNat_lt] at h3 h4
      omega
    subst e
    rw [bl_tri x y (h1.2 rfl) (h2.2 rfl)]
theorem sto_S : STO ltS := ⟨bl_irr, bl_tr, bl_tri⟩
def ltI (x y : Int) : Bool := decide (x < y)
theorem sto_I : STO ltI := ⟨fun x => by simp [ltI], fun x y z => by simp [ltI]; omega, fun x y => by simp [ltI]; omega⟩
/-- What slices.Sort makes of strings. -/
def sortS (l : List (List UInt8)) : List (List UInt8) := l.mergeSort fun x y => decide (x ≤ y)
theorem le_S (x y : List UInt8) : (decide (x ≤ y)) = !ltS y x := by
  unfold ltS
  rw [Go.Proofs.bytesLess_eq]
  rw [← decide_not]
  exact decide_eq_decide.2 (by rw [List.not_lt])
theorem sortS_eq (l : List (List UInt8)) : sortS l = l.mergeSort fun x y => !ltS y x := by
  unfold sortS
  congr 1
  funext x y
  exact le_S x y
theorem ms_sorted {β : Type} {lt : β → β → Bool} (hn : ∀ x y z, lt x y = false → lt y z = false → lt x z = false) (ha : ∀ x y, lt x y = true → lt y x = false) (l : List β) : (l.mergeSort fun x y => !lt y x).Pairwise (fun x y => lt y x = false) := by
  have tr : ∀ x y z : β, (!lt y x) = true → (!lt z y) = true → (!lt z x) = true := fun x y z => by
    simp only [Bool.not_eq_true']
    exact fun a b => hn z y x b a
  have to : ∀ x y : β, ((!lt y x) || (!lt x y)) = true := fun x y => by
    cases e : lt y x with
    | false => rfl
    | true => rw [ha y x e]; rfl
  exact (List.pairwise_mergeSort tr to l).imp fun h => by simpa using h
theorem sortS_sorted (l : List (List UInt8)) : (sortS l).Pairwise (fun x y => ltS y x = false) := by
  rw [sortS_eq]
  exact ms_sorted sto_S.ntr (fun x y => sto_S.asym) l
end Go.Or

/- Records and facets, in plain data. No condition. -/
namespace Go.Fc
open Go Go.Ax Go.Or
abbrev Str := List UInt8
structure Sb where
  code : Int
  val : Str
  deriving DecidableEq, Inhabited
structure Fld where
  tag : Str
  ind : Str
  subs : List Sb
  auth : Int
  deriving DecidableEq, Inhabited
structure Rec where
  id : Int
  ver : Int
  kind : Int
  lang : Str
  fields : List Fld
  deriving DecidableEq, Inhabited
structure Bk where
  val : Str
  cnt : Int
  deriving DecidableEq, Inhabited
def Sb.ds (s : Sb) : List D := [.int .u8 s.code, .str s.val]
def Fld.ds (f : Fld) : List D := [.str f.tag, .str f.ind, .lst 2 (f.subs.map Sb.ds), .int .i64 f.auth]
def Rec.ds (r : Rec) : List D := [.int .i64 r.id, .int .i64 r.ver, .int .i64 r.kind, .str r.lang, .lst 4 (r.fields.map Fld.ds)]
def Bk.ds (b : Bk) : List D := [.str b.val, .int .i64 b.cnt]
def sD (s : Str) : List D := [.str s]
def iD (n : Int) : List D := [.int .i64 n]
@[push_cast] theorem Sb.ds_eq (s : Sb) : s.ds = [.int .u8 s.code, .str s.val] := rfl
@[push_cast] theorem Fld.ds_eq (f : Fld) : f.ds = [.str f.tag, .str f.ind, .lst 2 (f.subs.map Sb.ds), .int .i64 f.auth] := rfl
@[push_cast] theorem Rec.ds_eq (r : Rec) : r.ds = [.int .i64 r.id, .int .i64 r.ver, .int .i64 r.kind, .str r.lang, .lst 4 (r.fields.map Fld.ds)] := rfl
@[push_cast] theorem Bk.ds_eq (b : Bk) : b.ds = [.str b.val, .int .i64 b.cnt] := rfl
@[push_cast] theorem sD_eq (s : Str) : sD s = [.str s] := rfl
@[push_cast] theorem iD_eq (n : Int) : iD n = [.int .i64 n] := rfl
attribute [push_cast] Nat.min_self
theorem take_next {α : Type} {l : List α} {k : Nat} (h : k < l.length) : l.take (k + 1) = l.take k ++ [l[k]] := by
  rw [List.take_add_one, List.getElem?_eq_getElem h]; rfl
theorem drop_cons {α : Type} {l : List α} {k : Nat} (h : k < l.length) : l.drop k = l[k] :: l.drop (k + 1) := List.drop_eq_getElem_cons h
/-! ### fields -/
/-- The first value of a code, and whether there is one. -/
def getS (l : List Sb) (c : Int) : Str × Bool :=
  match l.find? (fun s => decide (s.code = c)) with
  | some s => (s.val, true)
  | none => ([], false)
def inCodes (codes : Str) (c : Int) : Bool := codes.isEmpty || codes.any (fun x => decide ((x.toNat : Int) = c))
def allS (l : List Sb) (codes : Str) : List Str := (l.filter fun s => inCodes codes s.code).map Sb.val
/-! ### years -/
def digB (x : UInt8) : Bool := decide (48 ≤ x.toNat ∧ x.toNat ≤ 57)
/-! ### steps of loops -/
theorem eq_step {α : Type} {a b : List α} {k : Nat} (ha : k < a.length) (hb : k < b.length) : (a.drop k = b.drop k) ↔ (a[k] = b[k] ∧ a.drop (k + 1) = b.drop (k + 1)) := by
  rw [drop_cons ha, drop_cons hb]
  exact ⟨fun h => by injection h with h1 h2; exact ⟨h1, h2⟩, fun h => by rw [h.1, h.2]⟩
theorem eq_end {α : Type} {a b : List α} {k : Nat} (ha : ¬ k < a.length) (h : a.length = b.length) : a.drop k = b.drop k := by
  rw [List.drop_eq_nil_of_le (by omega), List.drop_eq_nil_of_le (by omega)]
theorem mem_step {α : Type} {l : List α} {k : Nat} {n : α} (h : k < l.length) : (n ∈ l.drop k) ↔ (l[k] = n ∨ n ∈ l.drop (k + 1)) := by
  rw [drop_cons h, List.mem_cons]
  exact ⟨fun h => h.imp Eq.symm id, fun h => h.imp Eq.symm id⟩
theorem mem_end {α : Type} {l : List α} {k : Nat} {n : α} (h : ¬ k < l.length) : ¬ n ∈ l.drop k := by
  rw [List.drop_eq_nil_of_le (by omega)]; simp
theorem getS_step {l : List Sb} {k : Nat} {c : Int} (h : k < l.length) : getS (l.drop k) c = if l[k].code = c then (l[k].val, true) else getS (l.drop (k + 1)) c := by
  rw [drop_cons h]
  unfold getS
  rw [List.find?_cons]
  by_cases e : l[k].code = c
  · rw [if_pos e, decide_eq_true e]
  · rw [if_neg e, decide_eq_false e]
theorem getS_end {l : List Sb} {k : Nat} {c : Int} (h : ¬ k < l.length) : getS (l.drop k) c = ([], false) := by
  rw [List.drop_eq_nil_of_le (by omega)]; rfl
theorem allS_next {l : List Sb} {k : Nat} {codes : Str} (h : k < l.length) : allS (l.take (k + 1)) codes = if inCodes codes l[k].code = true then allS (l.take k) codes ++ [l[k].val] else allS (l.take k) codes := by
  unfold allS
  rw [take_next h, List.filter_append, List.map_append]
  by_cases e : inCodes codes l[k].code = true
  · rw [if_pos e]; simp [List.filter_cons, e]
  · rw [if_neg e]; simp [List.filter_cons, e]
theorem allS_len (l : List Sb) (codes : Str) : (allS l codes).length ≤ l.length := by
  unfold allS
  rw [List.length_map]; exact List.length_filter_le _ _
theorem allS_mem {l : List Sb} {codes : Str} {v : Str} (h : v ∈ allS l codes) : ∃ s ∈ l, s.val = v := by
  unfold allS at h
  obtain ⟨s, hs, rfl⟩ := List.mem_map.1 h
  exact ⟨s, (List.mem_filter.1 hs).1, rfl⟩
def anyIs (codes : Str) (c : Int) : Bool := codes.any (fun x => decide ((x.toNat : Int) = c))
theorem anyIs_step {l : Str} {k : Nat} {c : Int} (h : k < l.length) : anyIs (l.drop k) c = (decide ((l[k].toNat : Int) = c) || anyIs (l.drop (k + 1)) c) := by
  rw [drop_cons h]; rfl
theorem anyIs_end {l : Str} {k : Nat} {c : Int} (h : ¬ k < l.length) : anyIs (l.drop k) c = false := by
  rw [List.drop_eq_nil_of_le (by omega)]; rfl
/-! ### validity -/
def digI (c : Int) : Bool := decide (48 ≤ c ∧ c ≤ 57)
def codeI (c : Int) : Bool := digI c || decide (97 ≤ c ∧ c ≤ 122)
def tagB (t : Str) : Bool := decide (t.length = 3) && (t.all digB && !Op.bytesLess t [48, 49, 48])
def indB (t : Str) : Bool := decide (t.length = 2) && t.all fun x => decide (x.toNat = 32) || digB x
end Go.Fc
