/- Part of a proof about this program; no condition of its own. -/
import Derived.Test.YtglonmggpbajgaaDoorGyA
import Derived.Test.YtglonmggpbajgaaDoorGxB
import Derived.Test.YtglonmggpbajgaaDoorGxM
import Derived.Lib.SlicesCompact
import Derived.Lib.ItoaNum
import Derived.Lib.Join
set_option linter.all false
/- Counting of events, in plain functions: the reference. No condition. -/
namespace Go.Sd
open Go Go.Ax
@[push_cast] theorem iD_eq (n : Int) : iD n = [.int .i64 n] := rfl
@[push_cast] theorem pD_eq (p : Int × Int) : pD p = [.int .i64 p.1, .int .i64 p.2] := rfl
@[push_cast] theorem Ev.ds_eq (x : Ev) : x.ds = [.int .i64 x.day, .int .i64 x.kind, .int .i64 x.branch, .int .i64 x.item, .int .i64 x.ikind, .int .i64 x.patron, .int .i64 x.pkind] := rfl
def sD (s : List UInt8) : List D := [.str s]
@[push_cast] theorem sD_eq (s : List UInt8) : sD s = [.str s] := rfl
attribute [push_cast] Nat.min_self
def numF : List (Int × Int) → Int → Int
  | [], _ => 0
  | p :: r, v => if p.1 = v then p.2 else numF r v
def isW (from_ to : Int) (x : Ev) : Bool := decide (from_ ≤ x.day ∧ x.day ≤ to)
def winF (l : List Ev) (from_ to : Int) : Int := l.countP (isW from_ to)
/-- Ascending numbers with another one, as the reference's loop does it. -/
def putA : List Int → Int → Bool → List Int
  | [], n, done => if done then [] else [n]
  | x :: r, n, done => if done = false ∧ x ≠ n ∧ n < x then n :: x :: putA r n true else x :: putA r n (done || x == n)
def inB (b : Int) : Bool := inR b 1 7
def valsF (l : List Ev) (from_ to b : Int) : List Int := if inB b then (l.filter (isW from_ to)).foldl (fun o x => putA o (keyF x b) false) [] else []
def cntF (l : List Ev) (from_ to b v : Int) : Int := l.countP (fun x => isW from_ to x && keyF x b == v)
def cnt2F (l : List Ev) (from_ to b w u v : Int) : Int := l.countP (fun x => isW from_ to x && keyF x b == u && keyF x w == v)
def tallyF (l : List Ev) (from_ to b : Int) : List (Int × Int) := (valsF l from_ to b).map fun v => (v, cntF l from_ to b v)
def cellsF (l : List Ev) (from_ to b w : Int) (rows cols : List Int) : List Int := rows.flatMap fun u => cols.map fun v => cnt2F l from_ to b w u v
/-- A table. -/
structure Tb where
  rows : Int
  cols : Int
  cells : List Int
  deriving DecidableEq
def Tb.ds (t : Tb) : List D := [.int .i64 t.rows, .int .i64 t.cols, .lst 1 (t.cells.map iD)]
def crossF (l : List Ev) (from_ to b w : Int) : List Int × List Int × Tb :=
  if (valsF l from_ to b).length = 0 ∨ (valsF l from_ to w).length = 0 ∨ 64 < (valsF l from_ to b).length * (valsF l from_ to w).length then ([], [], ⟨0, 0, []⟩)
  else (valsF l from_ to b, valsF l from_ to w, ⟨(valsF l from_ to b).length, (valsF l from_ to w).length, cellsF l from_ to b w (valsF l from_ to b) (valsF l from_ to w)⟩)
@[push_cast] theorem Tb.ds_eq (t : Tb) : t.ds = [.int .i64 t.rows, .int .i64 t.cols, .lst 1 (t.cells.map iD)] := rfl
/-- Equality of lists, as far as a loop has seen. -/
theorem eq_step {α : Type} {a b : List α} {k : Nat} (ha : k < a.length) (hb : k < b.length) : (a.drop k = b.drop k) ↔ (a[k] = b[k] ∧ a.drop (k + 1) = b.drop (k + 1)) := by
  rw [drop_cons ha, drop_cons hb]
  exact ⟨fun h => by injection h with h1 h2; exact ⟨h1, h2⟩, fun h => by rw [h.1, h.2]⟩
theorem eq_end {α : Type} {a b : List α} {k : Nat} (ha : ¬ k < a.length) (h : a.length = b.length) : a.drop k = b.drop k := by
  rw [List.drop_eq_nil_of_le (by omega), List.drop_eq_nil_of_le (by omega)]
theorem numF_step {l : List (Int × Int)} {k : Nat} {v : Int} (h : k < l.length) : numF (l.drop k) v = if l[k].1 = v then l[k].2 else numF (l.drop (k + 1)) v := by
  rw [drop_cons h]; rfl
theorem numF_end {l : List (Int × Int)} {k : Nat} {v : Int} (h : ¬ k < l.length) : numF (l.drop k) v = 0 := by
  rw [List.drop_eq_nil_of_le (by omega)]; rfl
theorem cnt_next {l : List Ev} {k : Nat} (p : Ev → Bool) (h : k < l.length) : (l.take (k + 1)).countP p = (l.take k).countP p + if p l[k] then 1 else 0 := by
  rw [take_next h, List.countP_append, List.countP_singleton]
theorem cnt_end {l : List Ev} {k : Nat} (p : Ev → Bool) (h : ¬ k < l.length) : (l.take k).countP p = l.countP p := by
  rw [List.take_of_length_le (by omega)]
theorem putA_step {l : List Int} {k : Nat} {n : Int} {d : Bool} (h : k < l.length) : putA (l.drop k) n d = if d = false ∧ l[k] ≠ n ∧ n < l[k] then n :: l[k] :: putA (l.drop (k + 1)) n true else l[k] :: putA (l.drop (k + 1)) n (d || l[k] == n) := by
  rw [drop_cons h]; rfl
theorem putA_end {l : List Int} {k : Nat} {n : Int} {d : Bool} (h : ¬ k < l.length) : putA (l.drop k) n d = if d then [] else [n] := by
  rw [List.drop_eq_nil_of_le (by omega)]; rfl
theorem putA_le (n : Int) : ∀ (l : List Int) (d : Bool), (putA l n d).length ≤ l.length + 1
  | [], d => by unfold putA; cases d <;> simp
  | x :: r, d => by
    unfold putA
    have h1 : ∀ e, (putA r n e).length ≤ r.length + 1 := putA_le n r
    have h0 : (putA r n true).length ≤ r.length := by
      clear h1
      induction r with
      | nil => simp [putA]
      | cons y s ih => unfold putA; simp; exact ih
    split
    · simp; omega
    · simp; exact h1 _
theorem valsF_le (l : List Ev) (f t b : Int) : (valsF l f t b).length ≤ l.length := by
  unfold valsF
  split
  · have h : ∀ (m : List Ev) (o : List Int), (m.foldl (fun o x => putA o (keyF x b) false) o).length ≤ o.length + m.length := by
      intro m
      induction m with
      | nil => intro o; simp
      | cons x r ih =>
        intro o
        have := ih (putA o (keyF x b) false)
        have := putA_le (keyF x b) o false
        simp only [List.foldl_cons, List.length_cons]
        omega
    have := h (l.filter (isW f t)) []
    have := List.length_filter_le (isW f t) l
    simp at *
    omega
  · simp
theorem valsF_next {l : List Ev} {k : Nat} (h : k < l.length) (f t b : Int) : valsF (l.take (k + 1)) f t b = if 1 ≤ b ∧ b ≤ 7 ∧ f ≤ l[k].day ∧ l[k].day ≤ t then putA (valsF (l.take k) f t b) (keyF l[k] b) false else valsF (l.take k) f t b := by
  unfold valsF
  rw [take_next h, List.filter_append, List.foldl_append, List.filter_cons, List.filter_nil]
  by_cases hc : 1 ≤ b ∧ b ≤ 7 ∧ f ≤ l[k].day ∧ l[k].day ≤ t
  · rw [if_pos hc]
    have h1 : inB b = true := by unfold inB inR; simp; omega
    have h2 : isW f t l[k] = true := by unfold isW; simp; omega
    rw [h1, h2]; rfl
  · rw [if_neg hc]
    cases h1 : inB b with
    | false => rfl
    | true =>
      have h2 : isW f t l[k] = false := by unfold inB inR at h1; unfold isW; simp at *; omega
      rw [h2]; rfl
theorem valsF_nil (f t b : Int) : valsF [] f t b = [] := by unfold valsF; split <;> rfl
theorem cnt_if {p : Ev → Bool} {x : Ev} : (p x = true ∧ (if p x = true then 1 else 0 : Nat) = 1) ∨ (p x = false ∧ (if p x = true then 1 else 0 : Nat) = 0) := by
  cases p x <;> simp
theorem tally_next {l : List Ev} {f t b : Int} {k : Nat} (h : k < (valsF l f t b).length) : (tallyF l f t b).take (k + 1) = (tallyF l f t b).take k ++ [((valsF l f t b)[k], cntF l f t b (valsF l f t b)[k])] := by
  rw [take_next (by unfold tallyF; rw [List.length_map]; exact h)]
  simp [tallyF]
theorem tally_end {l : List Ev} {f t b : Int} {k : Nat} (h : ¬ k < (valsF l f t b).length) : (tallyF l f t b).take k = tallyF l f t b := List.take_of_length_le (by unfold tallyF; rw [List.length_map]; omega)
/-- The cells of a table, as far as two loops have come. -/
def cellsK (l : List Ev) (f t b w : Int) (rows cols : List Int) (i j : Nat) : List Int := cellsF l f t b w (rows.take i) cols ++ (match rows[i]? with | some u => (cols.take j).map (cnt2F l f t b w u) | none => [])
theorem cellsK_0 (l : List Ev) (f t b w : Int) (rows cols : List Int) : cellsK l f t b w rows cols 0 0 = [] := by
  unfold cellsK cellsF
  cases rows[0]? <;> simp
theorem cellsK_next {l : List Ev} {f t b w : Int} {rows cols : List Int} {i j : Nat} (hi : i < rows.length) (hj : j < cols.length) : cellsK l f t b w rows cols i (j + 1) = cellsK l f t b w rows cols i j ++ [cnt2F l f t b w rows[i] cols[j]] := by
  unfold cellsK
  rw [List.getElem?_eq_getElem hi, take_next hj, List.append_assoc]
  simp only [List.map_append]; rfl
theorem cellsK_row {l : List Ev} {f t b w : Int} {rows cols : List Int} {i : Nat} (hi : i < rows.length) : cellsK l f t b w rows cols i cols.length = cellsK l f t b w rows cols (i + 1) 0 := by
  unfold cellsK cellsF
  rw [List.getElem?_eq_getElem hi, take_next hi, List.flatMap_append, List.take_length]
  cases rows[i + 1]? <;> simp
theorem cellsK_end {l : List Ev} {f t b w : Int} {rows cols : List Int} {i : Nat} (hi : ¬ i < rows.length) : cellsK l f t b w rows cols i 0 = cellsF l f t b w rows cols := by
  unfold cellsK
  rw [List.getElem?_eq_none (by omega), List.take_of_length_le (by omega)]; simp
theorem cellsK_len {l : List Ev} {f t b w : Int} {rows cols : List Int} {i j : Nat} (hi : i ≤ rows.length) (hj : j ≤ cols.length) : (cellsK l f t b w rows cols i j).length ≤ (i + 1) * cols.length := by
  unfold cellsK cellsF
  have h : ∀ (r : List Int), (r.flatMap fun u => cols.map fun v => cnt2F l f t b w u v).length = r.length * cols.length := by
    intro r
    induction r with
    | nil => simp
    | cons x s ih => rw [List.flatMap_cons, List.length_append, ih, List.length_map, List.length_cons, Nat.succ_mul]; omega
  rw [List.length_append, h, List.length_take, Nat.succ_mul]
  have h2 : min i rows.length * cols.length ≤ i * cols.length := Nat.mul_le_mul_right _ (Nat.min_le_left _ _)
  cases rows[i]? <;> simp <;> omega
end Go.Sd

/- Counting of events, in plain functions: the program's map. No condition. -/
namespace Go.Sd
open Go Go.Ax
def kk (u v : Int) : List KD := [.int .i64 u, .int .i64 v]
def stepM (f t b w : Int) (m : Mp) (x : Ev) : Mp := if isW f t x then mput m (kk (keyF x b) (keyF x w)) (mget m (kk (keyF x b) (keyF x w)) + 1) else m
def cntM (l : List Ev) (f t b w : Int) : Mp := l.foldl (stepM f t b w) []
theorem cntM_next {l : List Ev} {k : Nat} (h : k < l.length) (f t b w : Int) : cntM (l.take (k + 1)) f t b w = stepM f t b w (cntM (l.take k) f t b w) l[k] := by
  unfold cntM
  rw [take_next h, List.foldl_append]; rfl
theorem mget_mset (k : List KD) (v : Int) (k' : List KD) : ∀ m : Mp, mhas m k = true → mget (mset m (midx m k) v) k' = if k = k' then v else mget m k'
  | [], h => by cases h
  | kv :: r, h => by
    unfold midx
    by_cases hk : kv.1 = k
    · rw [if_pos hk]
      show mget ((kv.1, v) :: r) k' = _
      unfold mget
      rw [hk]
      by_cases h2 : k = k'
      · rw [if_pos h2, if_pos h2]
      · rw [if_neg h2, if_neg h2, if_neg h2]
    · rw [if_neg hk]
      have hr : mhas r k = true := by
        unfold mhas at h ⊢
        simpa [hk] using h
      show mget (kv :: mset r (midx r k) v) k' = _
      unfold mget
      rw [mget_mset k v k' r hr]
      by_cases h2 : kv.1 = k'
      · rw [if_pos h2, if_neg (fun e => hk (h2.trans e.symm)), if_pos h2]
      · rw [if_neg h2, if_neg h2]
theorem mget_mput (m : Mp) (k : List KD) (v : Int) (k' : List KD) : mget (mput m k v) k' = if k = k' then v else mget m k' := by
  cases h : mhas m k with
  | true =>
    unfold mput mpre
    rw [h, if_pos rfl, mget_mset _ _ _ _ h]
  | false =>
    rw [mput_none h]
    induction m with
    | nil => rfl
    | cons kv r ih =>
      have hk : ¬ kv.1 = k := fun e => by simp [mhas, e] at h
      have hr : mhas r k = false := by unfold mhas at h ⊢; simp [hk] at h ⊢; exact h
      have ih' := ih hr
      show mget (kv :: (r ++ [(k, v)])) k' = _
      unfold mget
      rw [ih']
      by_cases h2 : kv.1 = k'
      · rw [if_pos h2, if_neg (fun e => hk (h2.trans e.symm)), if_pos h2]
      · rw [if_neg h2, if_neg h2]
theorem mget_mpre (m : Mp) (k : List KD) : mget (mpre m k) k = mget m k := by
  unfold mpre
  cases h : mhas m k with
  | true => rfl
  | false =>
    rw [if_neg (by simp)]
    have := mget_mput m k 0 k
    rw [mput_none h, if_pos rfl] at this
    rw [this, (mget_none h).1]
theorem midx_lt {m : Mp} {k : List KD} : midx m k < (mpre m k).length := by
  unfold mpre
  cases h : mhas m k with
  | false => rw [if_neg (by simp), (mget_none h).2]; simp
  | true =>
    rw [if_pos rfl]
    induction m with
    | nil => cases h
    | cons kv r ih =>
      unfold midx
      by_cases hk : kv.1 = k
      · rw [if_pos hk]; simp
      · rw [if_neg hk]
        have := ih (by unfold mhas at h ⊢; simpa [hk] using h)
        simp only [List.length_cons]; omega
theorem midx_mpre (m : Mp) (k : List KD) : midx (mpre m k) k = midx m k := by
  unfold mpre
  cases h : mhas m k with
  | true => rfl
  | false =>
    rw [if_neg (by simp)]
    induction m with
    | nil => simp [midx]
    | cons kv r ih =>
      have hk : ¬ kv.1 = k := fun e => by simp [mhas, e] at h
      show midx (kv :: (r ++ [(k, 0)])) k = _
      unfold midx
      rw [if_neg hk, if_neg hk, ih (by unfold mhas at h ⊢; simp [hk] at h ⊢; exact h)]
theorem kk_inj {a b c d : Int} : (kk a b = kk c d) ↔ (a = c ∧ b = d) := by unfold kk; simp
theorem cntM_get (f t b w u v : Int) : ∀ (l : List Ev) (m : Mp), mget (l.foldl (stepM f t b w) m) (kk u v) = mget m (kk u v) + cnt2F l f t b w u v
  | [], m => by simp [cnt2F]
  | x :: r, m => by
    rw [List.foldl_cons, cntM_get f t b w u v r]
    unfold stepM cnt2F
    rw [List.countP_cons]
    cases hw : isW f t x with
    | false => rw [if_neg (by simp)]; simp
    | true =>
      rw [if_pos rfl, mget_mput]
      by_cases hk : keyF x b = u ∧ keyF x w = v
      · rw [if_pos (kk_inj.2 hk), hk.1, hk.2]
        simp; omega
      · rw [if_neg (fun e => hk (kk_inj.1 e)), if_neg (by simpa using hk)]
        simp
theorem cntM_mget (l : List Ev) (f t b w u v : Int) : mget (cntM l f t b w) (kk u v) = cnt2F l f t b w u v := by
  unfold cntM
  rw [cntM_get]
  simp [mget]
theorem cnt2F_le (l : List Ev) (f t b w u v : Int) : 0 ≤ cnt2F l f t b w u v ∧ cnt2F l f t b w u v ≤ l.length := by
  unfold cnt2F
  have := List.countP_le_length (p := fun x => isW f t x && keyF x b == u && keyF x w == v) (l := l)
  omega
/-- The value of a key at a place. -/
def kn : List KD → Nat → Int
  | [.int _ a, .int _ b], n => if n = 0 then a else b
  | _, _ => 0
def colM (m : Mp) (wh : Nat) : List Int := m.map fun kv => kn kv.1 wh
def sortI (zs : List Int) : List Int := zs.mergeSort fun x y => decide (x ≤ y)
theorem sortI_perm {a b : List Int} (h : a.Perm b) : sortI a = sortI b := by
  have tr : ∀ x y z : Int, decide (x ≤ y) = true → decide (y ≤ z) = true → decide (x ≤ z) = true := fun x y z => by simp; omega
  have to : ∀ x y : Int, (decide (x ≤ y) || decide (y ≤ x)) = true := fun x y => by simp; omega
  have h1 := List.pairwise_mergeSort tr to a
  have h2 := List.pairwise_mergeSort tr to b
  refine List.Perm.eq_of_pairwise (le := fun x y => decide (x ≤ y) = true) (fun x y _ _ hx hy => by simp at hx hy; omega) h1 h2 ?_
  exact ((List.mergeSort_perm a _).trans h).trans (List.mergeSort_perm b _).symm
/-- What one value of the keys of a map comes to: ascending, each once. -/
def valsM (m : Mp) (wh : Nat) : List Int := Lib.compact (sortI (colM m wh))
theorem erase_perm {α : Type} : ∀ (l : List α) (i : Nat) (hi : i < l.length), l.Perm (l[i] :: l.eraseIdx i)
  | a :: r, 0, _ => .refl _
  | a :: r, i + 1, hi => ((erase_perm r i (Nat.lt_of_succ_lt_succ hi)).cons a).trans (.swap _ _ _)
theorem colM_erase {m : Mp} {wh i : Nat} (hi : i < m.length) : (colM m wh).Perm (kn m[i].1 wh :: colM (m.eraseIdx i) wh) := by
  unfold colM
  have := (erase_perm m i hi).map fun kv : List KD × Int => kn kv.1 wh
  exact this
theorem compact_le (zs : List Int) : (Lib.compact zs).length ≤ zs.length := by
  unfold Lib.compact Lib.compactUpTo
  rw [List.length_map]
  have := List.length_filter_le (Lib.keeps zs.toArray) (List.range zs.length)
  rw [List.length_range] at this
  exact this
theorem valsM_le (m : Mp) (wh : Nat) : (valsM m wh).length ≤ m.length := by
  have h1 := compact_le (sortI (colM m wh))
  have h2 : (sortI (colM m wh)).length = m.length := by
    unfold sortI
    rw [List.length_mergeSort]
    unfold colM
    rw [List.length_map]
  unfold valsM
  omega
theorem cntM_le (l : List Ev) (f t b w : Int) : (cntM l f t b w).length ≤ l.length := by
  have h : ∀ (l : List Ev) (m : Mp), (l.foldl (stepM f t b w) m).length ≤ m.length + l.length := by
    intro l
    induction l with
    | nil => intro m; simp
    | cons x r ih =>
      intro m
      have h1 := ih (stepM f t b w m x)
      have h2 : (stepM f t b w m x).length ≤ m.length + 1 := by
        unfold stepM
        split
        · unfold mput mset mpre
          rw [List.length_modify]
          split <;> simp
        · omega
      simp only [List.foldl_cons, List.length_cons]
      omega
  have := h l []
  unfold cntM
  simpa using this
/-- A key of events: two values of 64 bits. -/
def kOk (k : List KD) : Prop := ∃ u v, k = kk u v ∧ (-9223372036854775808 ≤ u ∧ u ≤ 9223372036854775807) ∧ (-9223372036854775808 ≤ v ∧ v ≤ 9223372036854775807)
theorem cntM_kk (l : List Ev) (f t b w : Int) (hok : ∀ x ∈ l, x.ok) : ∀ kv ∈ cntM l f t b w, kOk kv.1 := by
  have h : ∀ (l : List Ev) (m : Mp), (∀ x ∈ l, x.ok) → (∀ kv ∈ m, kOk kv.1) → ∀ kv ∈ l.foldl (stepM f t b w) m, kOk kv.1 := by
    intro l
    induction l with
    | nil => intro m _ h; exact h
    | cons x r ih =>
      intro m hok h
      refine ih _ (fun y hy => hok y (List.mem_cons_of_mem _ hy)) ?_
      have hx := hok x (List.mem_cons_self ..)
      unfold stepM
      split
      · unfold mput mset
        have h2 : ∀ kv ∈ mpre m (kk (keyF x b) (keyF x w)), kOk kv.1 := by
          unfold mpre
          split
          · exact h
          · intro kv hkv
            rcases List.mem_append.1 hkv with h1 | h1
            · exact h _ h1
            · rw [List.mem_singleton.1 h1]; exact ⟨_, _, rfl, keyF_in x hx b, keyF_in x hx w⟩
        intro kv hkv
        obtain ⟨i, hi, rfl⟩ := List.mem_iff_getElem.1 hkv
        rw [List.getElem_modify]
        rw [List.length_modify] at hi
        have h3 := h2 _ (List.getElem_mem hi)
        split
        · exact h3
        · exact h3
      · exact h
  exact h l [] hok (by simp)
theorem compact_spec (zs : List Int) (hs : zs.Pairwise (· ≤ ·)) : (Lib.compact zs).Pairwise (· < ·) ∧ ∀ v, v ∈ Lib.compact zs ↔ v ∈ zs := by
  have hd : ∀ j, j < zs.length → zs.toArray[j]! = zs[j]! := fun j hj => by simp
  have hm : ∀ i j, i ≤ j → j < zs.length → zs[i]! ≤ zs[j]! := fun i j hij hj => by
    rcases Nat.lt_or_ge i j with h | h
    · rw [getElem!_pos zs i (by omega), getElem!_pos zs j hj]
      exact List.pairwise_iff_getElem.1 hs i j (by omega) hj h
    · rw [show i = j by omega]; exact Int.le_refl _
  have key : ∀ m, m ≤ zs.length → (Lib.compactUpTo zs.toArray m).Pairwise (· < ·) ∧ ∀ v, v ∈ Lib.compactUpTo zs.toArray m ↔ ∃ j, j < m ∧ zs[j]! = v := by
    intro m
    induction m with
    | zero => intro _; exact ⟨by simp [Lib.compactUpTo], fun v => by simp [Lib.compactUpTo]⟩
    | succ m ih =>
      intro hml
      obtain ⟨h1, h2⟩ := ih (by omega)
      rw [Lib.compactUpTo_succ]
      by_cases hk : Lib.keeps zs.toArray m = true
      · rw [if_pos hk]
        have hlt : ∀ x ∈ Lib.compactUpTo zs.toArray m, x < zs[m]! := fun x hx => by
          obtain ⟨j, hj, rfl⟩ := (h2 x).1 hx
          unfold Lib.keeps at hk
          simp only [decide_eq_true_eq] at hk
          rw [hd m (by omega), hd (m - 1) (by omega)] at hk
          have a := hm j (m - 1) (by omega) (by omega)
          have b := hm (m - 1) m (by omega) (by omega)
          rcases hk with hk | hk
          · omega
          · omega
        rw [hd m (by omega)]
        refine ⟨List.pairwise_append.2 ⟨h1, List.pairwise_singleton _ _, fun x hx y hy => ?_⟩, fun v => ?_⟩
        · rw [List.mem_singleton.1 hy]; exact hlt x hx
        · rw [List.mem_append, h2, List.mem_singleton]
          constructor
          · rintro (⟨j, hj, e⟩ | e)
            · exact ⟨j, by omega, e⟩
            · exact ⟨m, by omega, e.symm⟩
          · rintro ⟨j, hj, e⟩
            by_cases hjm : j = m
            · exact .inr (by rw [← e, hjm])
            · exact .inl ⟨j, by omega, e⟩
      · rw [if_neg hk, List.append_nil]
        refine ⟨h1, fun v => ?_⟩
        rw [h2]
        constructor
        · rintro ⟨j, hj, e⟩; exact ⟨j, by omega, e⟩
        · rintro ⟨j, hj, e⟩
          by_cases hjm : j = m
          · unfold Lib.keeps at hk
            simp only [decide_eq_true_eq, not_or, Classical.not_not] at hk
            rw [hd m (by omega), hd (m - 1) (by omega)] at hk
            exact ⟨m - 1, by omega, by rw [← hk.2, ← hjm, e]⟩
          · exact ⟨j, by omega, e⟩
  obtain ⟨h1, h2⟩ := key zs.length (Nat.le_refl _)
  refine ⟨h1, fun v => (h2 v).trans ⟨fun ⟨j, hj, e⟩ => ?_, fun hv => ?_⟩⟩
  · rw [← e, getElem!_pos zs j hj]; exact List.getElem_mem hj
  · obtain ⟨j, hj, e⟩ := List.mem_iff_getElem.1 hv
    exact ⟨j, hj, by rw [getElem!_pos zs j hj, e]⟩
theorem sortI_sorted (zs : List Int) : (sortI zs).Pairwise (· ≤ ·) := by
  have tr : ∀ x y z : Int, decide (x ≤ y) = true → decide (y ≤ z) = true → decide (x ≤ z) = true := fun x y z => by simp; omega
  have to : ∀ x y : Int, (decide (x ≤ y) || decide (y ≤ x)) = true := fun x y => by simp; omega
  exact (List.pairwise_mergeSort tr to zs).imp fun h => by simpa using h
theorem valsM_asc (m : Mp) (wh : Nat) : (valsM m wh).Pairwise (· < ·) := (compact_spec _ (sortI_sorted _)).1
theorem valsM_mem (m : Mp) (wh : Nat) (v : Int) : v ∈ valsM m wh ↔ ∃ kv ∈ m, kn kv.1 wh = v := by
  unfold valsM
  rw [(compact_spec _ (sortI_sorted _)).2]
  unfold sortI
  rw [List.mem_mergeSort]
  unfold colM
  rw [List.mem_map]
theorem valsM_in {m : Mp} (hm : ∀ kv ∈ m, kOk kv.1) {wh : Nat} : ∀ n ∈ valsM m wh, -9223372036854775808 ≤ n ∧ n ≤ 9223372036854775807 := fun n hn => by
  obtain ⟨kv, hkv, rfl⟩ := (valsM_mem m wh n).1 hn
  obtain ⟨u, v, e, h1, h2⟩ := hm kv hkv
  rw [e]
  unfold kn kk
  simp only
  split
  · exact h1
  · exact h2
/-- What the program's tally and table come to. -/
def tallyM (l : List Ev) (f t b : Int) : List (Int × Int) := if inB b then (valsM (cntM l f t b 0) 0).map fun v => (v, mget (cntM l f t b 0) (kk v (-1))) else []
def cellsG (M : Mp) (rows cols : List Int) : List Int := rows.flatMap fun u => cols.map fun v => mget M (kk u v)
def crossM (l : List Ev) (f t b w : Int) : List Int × List Int × Tb :=
  if inB b = false ∨ inB w = false then ([], [], ⟨0, 0, []⟩)
  else if (valsM (cntM l f t b w) 0).length = 0 ∨ 64 < (valsM (cntM l f t b w) 0).length * (valsM (cntM l f t b w) 1).length then ([], [], ⟨0, 0, []⟩)
  else (valsM (cntM l f t b w) 0, valsM (cntM l f t b w) 1, ⟨(valsM (cntM l f t b w) 0).length, (valsM (cntM l f t b w) 1).length, cellsG (cntM l f t b w) (valsM (cntM l f t b w) 0) (valsM (cntM l f t b w) 1)⟩)
def cellsH (g : Int → Int → Int) (rows cols : List Int) (i j : Nat) : List Int := ((rows.take i).flatMap fun u => cols.map (g u)) ++ (match rows[i]? with | some u => (cols.take j).map (g u) | none => [])
theorem cellsH_0 (g : Int → Int → Int) (rows cols : List Int) : cellsH g rows cols 0 0 = [] := by
  unfold cellsH
  cases rows[0]? <;> simp
theorem cellsH_next {g : Int → Int → Int} {rows cols : List Int} {i j : Nat} (hi : i < rows.length) (hj : j < cols.length) : cellsH g rows cols i (j + 1) = cellsH g rows cols i j ++ [g rows[i] cols[j]] := by
  unfold cellsH
  rw [List.getElem?_eq_getElem hi, take_next hj, List.append_assoc]
  simp only [List.map_append]; rfl
theorem cellsH_row {g : Int → Int → Int} {rows cols : List Int} {i : Nat} (hi : i < rows.length) : cellsH g rows cols i cols.length = cellsH g rows cols (i + 1) 0 := by
  unfold cellsH
  rw [List.getElem?_eq_getElem hi, take_next hi, List.flatMap_append, List.take_length]
  cases rows[i + 1]? <;> simp
theorem cellsH_end {g : Int → Int → Int} {rows cols : List Int} {i : Nat} (hi : ¬ i < rows.length) : cellsH g rows cols i 0 = rows.flatMap fun u => cols.map (g u) := by
  unfold cellsH
  rw [List.getElem?_eq_none (by omega), List.take_of_length_le (by omega)]; simp
theorem cellsH_len {g : Int → Int → Int} {rows cols : List Int} {i j : Nat} (hi : i ≤ rows.length) (hj : j ≤ cols.length) : (cellsH g rows cols i j).length ≤ (i + 1) * cols.length := by
  unfold cellsH
  have h : ∀ (r : List Int), (r.flatMap fun u => cols.map (g u)).length = r.length * cols.length := by
    intro r
    induction r with
    | nil => simp
    | cons x s ih => rw [List.flatMap_cons, List.length_append, ih, List.length_map, List.length_cons, Nat.succ_mul]; omega
  rw [List.length_append, h, List.length_take, Nat.succ_mul]
  have h2 : min i rows.length * cols.length ≤ i * cols.length := Nat.mul_le_mul_right _ (Nat.min_le_left _ _)
  cases rows[i]? <;> simp <;> omega
end Go.Sd

/- Decimals and the lines of a table, in plain functions. No condition. -/
namespace Go.Sd
open Go Go.Ax Go.Lib
theorem dec_small {n : Nat} (h : n < 10) : decDigits n = [UInt8.ofNat (48 + n)] := by rw [decDigits, dif_pos h]
theorem dec_big {n : Nat} (h : ¬ n < 10) : decDigits n = decDigits (n / 10) ++ [UInt8.ofNat (48 + n % 10)] := by rw [decDigits, dif_neg h]
/-- What a loop over the digits holds: the rest and what is written. -/
def DigI (n : Nat) (s : Nat × List UInt8) : Prop := (s.2 = [] ∧ s.1 = n) ∨ (s.2 ≠ [] ∧ ((s.1 = 0 ∧ s.2 = decDigits n) ∨ (0 < s.1 ∧ decDigits s.1 ++ s.2 = decDigits n)))
theorem DigI.next {n m : Nat} {o : List UInt8} (h : DigI n (m, o)) (hm : 0 < m ∨ o = []) : DigI n (m / 10, UInt8.ofNat (48 + m % 10) :: o) := by
  refine .inr ⟨by simp, ?_⟩
  simp only
  rcases h with ⟨h1, h2⟩ | ⟨h1, h2⟩
  · simp only at h1 h2
    subst h1; subst h2
    by_cases hs : m < 10
    · exact .inl ⟨by omega, by rw [dec_small hs, Nat.mod_eq_of_lt hs]⟩
    · exact .inr ⟨by omega, by rw [dec_big hs]⟩
  · simp only at h1 h2
    rcases h2 with ⟨h3, _⟩ | ⟨h3, h4⟩
    · rcases hm with hm | hm
      · omega
      · exact absurd hm h1
    · rw [← h4]
      by_cases hs : m < 10
      · exact .inl ⟨by omega, by rw [dec_small hs, Nat.mod_eq_of_lt hs]; rfl⟩
      · exact .inr ⟨by omega, by rw [dec_big hs, List.append_assoc]; rfl⟩
theorem DigI.done {n m : Nat} {o : List UInt8} (h : DigI n (m, o)) (hm : m = 0) (ho : o ≠ []) : o = decDigits n := by
  rcases h with ⟨h1, h2⟩ | ⟨h1, h2⟩
  · exact absurd h1 ho
  · rcases h2 with ⟨_, h3⟩ | ⟨h3, _⟩
    · exact h3
    · simp only at h3; omega
theorem digit_at : ∀ d, d < 10 → (([48, 49, 50, 51, 52, 53, 54, 55, 56, 57] : List UInt8).drop d).take 1 = [UInt8.ofNat (48 + d)] := by decide
theorem dec_len : ∀ (u : Nat), (decDigits u).length ≤ u + 1 := fun u => by
  induction u using Nat.strongRecOn with
  | _ u ih =>
    by_cases h : u < 10
    · rw [dec_small h]; simp
    · rw [dec_big h, List.length_append]
      have := ih (u / 10) (by omega)
      simp
      omega
/-- A signed decimal, as the reference puts it together. -/
theorem itoa_neg {n : Int} (h : n < 0) : itoa n = if -(n.tdiv 10) = 0 then 45 :: decDigits (-(n.tmod 10)).toNat else 45 :: (decDigits (-(n.tdiv 10)).toNat ++ decDigits (-(n.tmod 10)).toNat) := by
  unfold itoa
  rw [if_pos h]
  obtain ⟨k, rfl⟩ : ∃ k : Nat, n = -(k : Int) := ⟨n.natAbs, by omega⟩
  rw [Int.neg_tdiv, Int.neg_tmod, Int.neg_neg, Int.neg_neg, Int.natAbs_neg, Int.natAbs_natCast]
  have e1 : (k : Int).tdiv 10 = (k / 10 : Nat) := rfl
  have e2 : (k : Int).tmod 10 = (k % 10 : Nat) := rfl
  rw [e1, e2]
  by_cases hs : k < 10
  · rw [if_pos (by omega), dec_small hs]
    simp only [Int.toNat_natCast]
    rw [Nat.mod_eq_of_lt hs, dec_small hs]
  · rw [if_neg (by omega), dec_big hs]
    simp only [Int.toNat_natCast]
    rw [dec_small (n := k % 10) (by omega)]
def wordF (n : Int) : List UInt8 := if n = -1 then [45] else itoa n
def lineF (ns : List Int) : List UInt8 := Lib.join (ns.map wordF) [32]
theorem dec_len_k : ∀ (k u : Nat), u < 10 ^ (k + 1) → (decDigits u).length ≤ k + 1
  | 0, u, h => by rw [dec_small (by omega)]; simp
  | k + 1, u, h => by
    by_cases hs : u < 10
    · rw [dec_small hs]; simp
    · rw [dec_big hs, List.length_append]
      have := dec_len_k k (u / 10) (by rw [Nat.pow_succ] at h; omega)
      simp
      omega
theorem wordF_len {n : Int} (h0 : -9223372036854775808 ≤ n) (h1 : n ≤ 9223372036854775807) : (wordF n).length ≤ 20 := by
  unfold wordF
  split
  · simp
  · unfold itoa
    split
    · have := dec_len_k 18 n.natAbs (by omega)
      simp only [List.length_cons]
      omega
    · have := dec_len_k 18 n.toNat (by omega)
      omega
theorem join_snoc (sep x : List UInt8) : ∀ xs : List (List UInt8), xs ≠ [] → Lib.join (xs ++ [x]) sep = Lib.join xs sep ++ (sep ++ x)
  | [], h => absurd rfl h
  | [y], _ => by simp [Lib.join, List.intercalate, List.intersperse]
  | y :: z :: r, _ => by
    have ih := join_snoc sep x (z :: r) (by simp)
    unfold Lib.join at ih ⊢
    rw [List.cons_append, List.cons_append, List.intercalate_cons_cons]
    rw [List.cons_append] at ih
    rw [ih, List.intercalate_cons_cons]
    simp [List.append_assoc]
theorem lineF_snoc (xs : List Int) (n : Int) (h : xs ≠ []) : lineF (xs ++ [n]) = lineF xs ++ ([32] ++ wordF n) := by
  unfold lineF
  rw [List.map_append]
  exact join_snoc _ _ _ (by simpa using h)
theorem lineF_one (n : Int) : lineF [n] = wordF n := by simp [lineF, Lib.join, List.intercalate]
theorem lineF_len (xs : List Int) (h : ∀ n ∈ xs, -9223372036854775808 ≤ n ∧ n ≤ 9223372036854775807) : (lineF xs).length ≤ 21 * xs.length := by
  induction hl : xs.length generalizing xs with
  | zero => rw [List.eq_nil_of_length_eq_zero hl]; simp [lineF, Lib.join, List.intercalate]
  | succ k ih =>
    have hne : xs ≠ [] := by intro e; rw [e] at hl; cases hl
    have e := List.dropLast_concat_getLast hne
    have hw := wordF_len (h _ (List.getLast_mem hne)).1 (h _ (List.getLast_mem hne)).2
    have h2 := ih xs.dropLast (fun n hn => h n (List.dropLast_subset _ hn)) (by rw [List.length_dropLast]; omega)
    by_cases h0 : xs.dropLast = []
    · rw [← e, h0, List.nil_append, lineF_one]; omega
    · rw [← e, lineF_snoc _ _ h0, List.length_append, List.length_append]
      simp only [List.length_cons, List.length_nil]
      omega
theorem lineF_step {row : List Int} {j : Nat} (h : j < row.length) : lineF (row.take (j + 1)) = (if j = 0 then [] else lineF (row.take j) ++ [32]) ++ wordF row[j] := by
  rw [take_next h]
  by_cases hj : j = 0
  · rw [if_pos hj]
    subst hj
    exact lineF_one _
  · rw [if_neg hj, lineF_snoc _ _ (by
      intro e
      have := congrArg List.length e
      rw [List.length_take, List.length_nil] at this
      omega), List.append_assoc]
theorem lineF_nil : lineF [] = [] := rfl
/-- A table that can be written. -/
def tbOk (t : Tb) : Bool := decide (1 ≤ t.rows ∧ 1 ≤ t.cols ∧ t.rows ≤ t.cells.length ∧ t.cols ≤ t.cells.length ∧ t.rows * t.cols = t.cells.length)
def rowT (t : Tb) (i : Nat) : List Int := (t.cells.drop (i * t.cols.toNat)).take t.cols.toNat
def printF (t : Tb) : List (List UInt8) := if tbOk t then (List.range t.rows.toNat).map fun i => lineF (rowT t i) else []
end Go.Sd

/- The program's counting comes to the reference's. No condition. -/
namespace Go.Sd
open Go Go.Ax
/-! ### ascending lists -/
theorem asc_eq : ∀ {a b : List Int}, a.Pairwise (· < ·) → b.Pairwise (· < ·) → (∀ v, v ∈ a ↔ v ∈ b) → a = b
  | [], [], _, _, _ => rfl
  | [], y :: b, _, _, h => by have := (h y).2 (List.mem_cons_self ..); cases this
  | x :: a, [], _, _, h => by have := (h x).1 (List.mem_cons_self ..); cases this
  | x :: a, y :: b, ha, hb, h => by
    rw [List.pairwise_cons] at ha hb
    have hxy : x = y := by
      rcases List.mem_cons.1 ((h x).1 (List.mem_cons_self ..)) with e | e
      · exact e
      · rcases List.mem_cons.1 ((h y).2 (List.mem_cons_self ..)) with e' | e'
        · exact e'.symm
        · have := ha.1 y e'
          have := hb.1 x e
          omega
    subst hxy
    rw [asc_eq ha.2 hb.2 fun v => ?_]
    constructor
    · intro hv
      rcases List.mem_cons.1 ((h v).1 (List.mem_cons_of_mem _ hv)) with e | e
      · have := ha.1 v hv; omega
      · exact e
    · intro hv
      rcases List.mem_cons.1 ((h v).2 (List.mem_cons_of_mem _ hv)) with e | e
      · have := hb.1 v hv; omega
      · exact e
theorem putA_true (n : Int) : ∀ l : List Int, putA l n true = l
  | [] => rfl
  | x :: r => by unfold putA; rw [if_neg (by simp)]; simp [putA_true n r]
theorem putA_spec (n : Int) : ∀ l : List Int, l.Pairwise (· < ·) → (putA l n false).Pairwise (· < ·) ∧ ∀ v, v ∈ putA l n false ↔ (v = n ∨ v ∈ l)
  | [], _ => by simp [putA]
  | x :: r, h => by
    rw [List.pairwise_cons] at h
    obtain ⟨i1, i2⟩ := putA_spec n r h.2
    unfold putA
    by_cases hx : x = n
    · subst hx
      rw [if_neg (by simp)]
      simp only [beq_self_eq_true, Bool.or_true, putA_true]
      exact ⟨List.pairwise_cons.2 h, fun v => by simp⟩
    · by_cases hn : n < x
      · rw [if_pos ⟨rfl, hx, hn⟩, putA_true]
        refine ⟨List.pairwise_cons.2 ⟨fun v hv => ?_, List.pairwise_cons.2 h⟩, fun v => by simp⟩
        rcases List.mem_cons.1 hv with rfl | hv
        · exact hn
        · have := h.1 v hv; omega
      · rw [if_neg (fun c => hn c.2.2)]
        have hb : (x == n) = false := beq_false_of_ne hx
        rw [hb, Bool.or_false]
        refine ⟨List.pairwise_cons.2 ⟨fun v hv => ?_, i1⟩, fun v => ?_⟩
        · rcases (i2 v).1 hv with rfl | hv
          · omega
          · exact h.1 v hv
        · rw [List.mem_cons, i2, List.mem_cons]
          constructor
          · rintro (h | h | h) <;> simp [h]
          · rintro (h | h | h) <;> simp [h]
theorem valsF_spec (l : List Ev) (f t b : Int) (hb : inB b = true) : (valsF l f t b).Pairwise (· < ·) ∧ ∀ v, v ∈ valsF l f t b ↔ ∃ x ∈ l, isW f t x = true ∧ keyF x b = v := by
  unfold valsF
  rw [if_pos hb]
  have h : ∀ (m : List Ev) (o : List Int), o.Pairwise (· < ·) → (m.foldl (fun o x => putA o (keyF x b) false) o).Pairwise (· < ·) ∧ ∀ v, v ∈ m.foldl (fun o x => putA o (keyF x b) false) o ↔ (v ∈ o ∨ ∃ x ∈ m, keyF x b = v) := by
    intro m
    induction m with
    | nil => intro o ho; exact ⟨ho, fun v => by simp⟩
    | cons x r ih =>
      intro o ho
      obtain ⟨h1, h2⟩ := putA_spec (keyF x b) o ho
      obtain ⟨h3, h4⟩ := ih _ h1
      refine ⟨h3, fun v => ?_⟩
      rw [List.foldl_cons, h4, h2]
      constructor
      · rintro ((rfl | h) | ⟨y, hy, e⟩)
        · exact .inr ⟨x, List.mem_cons_self .., rfl⟩
        · exact .inl h
        · exact .inr ⟨y, List.mem_cons_of_mem _ hy, e⟩
      · rintro (h | ⟨y, hy, e⟩)
        · exact .inl (.inr h)
        · rcases List.mem_cons.1 hy with rfl | hy
          · exact .inl (.inl e.symm)
          · exact .inr ⟨y, hy, e⟩
  obtain ⟨h1, h2⟩ := h (l.filter (isW f t)) [] .nil
  refine ⟨h1, fun v => (h2 v).trans ?_⟩
  constructor
  · rintro (h | ⟨x, hx, e⟩)
    · cases h
    · obtain ⟨a, b⟩ := List.mem_filter.1 hx
      exact ⟨x, a, b, e⟩
  · rintro ⟨x, hx, hw, e⟩
    exact .inr ⟨x, List.mem_filter.2 ⟨hx, hw⟩, e⟩
/-! ### the keys of the program's map -/
theorem mput_keys (m : Mp) (k : List KD) (v : Int) (k' : List KD) : (∃ kv ∈ mput m k v, kv.1 = k') ↔ (k' = k ∨ ∃ kv ∈ m, kv.1 = k') := by
  have hmod : ∀ (l : Mp) (i : Nat), (∃ kv ∈ mset l i v, kv.1 = k') ↔ ∃ kv ∈ l, kv.1 = k' := by
    intro l i
    have : (mset l i v).map (·.1) = l.map (·.1) := by
      refine List.ext_getElem (by simp [mset]) fun j h1 h2 => ?_
      simp only [List.getElem_map, mset, List.getElem_modify]
      split <;> rfl
    have h2 : ∀ l : Mp, (∃ kv ∈ l, kv.1 = k') ↔ k' ∈ l.map (·.1) := fun l => by rw [List.mem_map]
    rw [h2, h2, this]
  unfold mput
  rw [hmod]
  unfold mpre
  cases h : mhas m k with
  | true =>
    rw [if_pos rfl]
    constructor
    · exact fun h => .inr h
    · rintro (rfl | h')
      · unfold mhas at h
        obtain ⟨kv, hk, e⟩ := List.any_eq_true.1 h
        exact ⟨kv, hk, by simpa using e⟩
      · exact h'
  | false =>
    rw [if_neg (by simp)]
    constructor
    · rintro ⟨kv, hk, e⟩
      rcases List.mem_append.1 hk with h1 | h1
      · exact .inr ⟨kv, h1, e⟩
      · rw [List.mem_singleton.1 h1] at e
        exact .inl e.symm
    · rintro (rfl | ⟨kv, hk, e⟩)
      · exact ⟨_, List.mem_append_right _ (List.mem_singleton.2 rfl), rfl⟩
      · exact ⟨kv, List.mem_append_left _ hk, e⟩
theorem cntM_keys (l : List Ev) (f t b w : Int) (k' : List KD) : (∃ kv ∈ cntM l f t b w, kv.1 = k') ↔ ∃ x ∈ l, isW f t x = true ∧ kk (keyF x b) (keyF x w) = k' := by
  have h : ∀ (l : List Ev) (m : Mp), (∃ kv ∈ l.foldl (stepM f t b w) m, kv.1 = k') ↔ ((∃ kv ∈ m, kv.1 = k') ∨ ∃ x ∈ l, isW f t x = true ∧ kk (keyF x b) (keyF x w) = k') := by
    intro l
    induction l with
    | nil => intro m; simp
    | cons x r ih =>
      intro m
      rw [List.foldl_cons, ih]
      have hs : (∃ kv ∈ stepM f t b w m x, kv.1 = k') ↔ ((isW f t x = true ∧ kk (keyF x b) (keyF x w) = k') ∨ ∃ kv ∈ m, kv.1 = k') := by
        unfold stepM
        cases hw : isW f t x with
        | true =>
          rw [if_pos rfl, mput_keys]
          constructor
          · rintro (h | h)
            · exact .inl ⟨rfl, h.symm⟩
            · exact .inr h
          · rintro (⟨_, h⟩ | h)
            · exact .inl h.symm
            · exact .inr h
        | false => simp
      rw [hs]
      constructor
      · rintro ((h | h) | ⟨y, hy, e⟩)
        · exact .inr ⟨x, List.mem_cons_self .., h⟩
        · exact .inl h
        · exact .inr ⟨y, List.mem_cons_of_mem _ hy, e⟩
      · rintro (h | ⟨y, hy, e⟩)
        · exact .inl (.inr h)
        · rcases List.mem_cons.1 hy with rfl | hy
          · exact .inl (.inl e)
          · exact .inr ⟨y, hy, e⟩
  have := h l []
  unfold cntM
  rw [this]
  simp
theorem valsM_0 (l : List Ev) (f t b w : Int) (hb : inB b = true) : valsM (cntM l f t b w) 0 = valsF l f t b := by
  obtain ⟨h1, h2⟩ := valsF_spec l f t b hb
  refine asc_eq (valsM_asc _ _) h1 fun v => ?_
  rw [valsM_mem, h2]
  constructor
  · rintro ⟨kv, hk, e⟩
    obtain ⟨x, hx, hw, e2⟩ := (cntM_keys l f t b w kv.1).1 ⟨kv, hk, rfl⟩
    rw [← e2] at e
    exact ⟨x, hx, hw, e⟩
  · rintro ⟨x, hx, hw, e⟩
    obtain ⟨kv, hk, e2⟩ := (cntM_keys l f t b w _).2 ⟨x, hx, hw, rfl⟩
    exact ⟨kv, hk, by rw [e2]; exact e⟩
theorem valsM_1 (l : List Ev) (f t b w : Int) (hw' : inB w = true) : valsM (cntM l f t b w) 1 = valsF l f t w := by
  obtain ⟨h1, h2⟩ := valsF_spec l f t w hw'
  refine asc_eq (valsM_asc _ _) h1 fun v => ?_
  rw [valsM_mem, h2]
  constructor
  · rintro ⟨kv, hk, e⟩
    obtain ⟨x, hx, hw, e2⟩ := (cntM_keys l f t b w kv.1).1 ⟨kv, hk, rfl⟩
    rw [← e2] at e
    exact ⟨x, hx, hw, e⟩
  · rintro ⟨x, hx, hw, e⟩
    obtain ⟨kv, hk, e2⟩ := (cntM_keys l f t b w _).2 ⟨x, hx, hw, rfl⟩
    exact ⟨kv, hk, by rw [e2]; exact e⟩
theorem key_0 (x : Ev) : keyF x 0 = -1 := by unfold keyF; simp
theorem tally_eq (l : List Ev) (f t b : Int) : tallyM l f t b = tallyF l f t b := by
  unfold tallyM tallyF
  cases hb : inB b with
  | false =>
    rw [if_neg (by simp)]
    unfold valsF
    rw [hb]; rfl
  | true =>
    rw [if_pos rfl, valsM_0 l f t b 0 hb]
    refine List.map_congr_left fun v _ => ?_
    rw [cntM_mget]
    unfold cnt2F cntF
    simp [key_0]
theorem cross_eq (l : List Ev) (f t b w : Int) : crossM l f t b w = crossF l f t b w := by
  unfold crossM crossF
  have hn : ∀ c, inB c = false → (valsF l f t c).length = 0 := fun c h => by unfold valsF; rw [h]; rfl
  by_cases h0 : inB b = false ∨ inB w = false
  · rw [if_pos h0, if_pos]
    rcases h0 with h | h
    · exact .inl (hn b h)
    · exact .inr (.inl (hn w h))
  · have hb : inB b = true := by cases h : inB b with | true => rfl | false => exact absurd (.inl h) h0
    have hw : inB w = true := by cases h : inB w with | true => rfl | false => exact absurd (.inr h) h0
    rw [if_neg h0, valsM_0 l f t b w hb, valsM_1 l f t b w hw]
    have hz : (valsF l f t b).length = 0 ↔ (valsF l f t w).length = 0 := by
      have e : ∀ c, inB c = true → ((valsF l f t c).length = 0 ↔ ¬ ∃ x ∈ l, isW f t x = true) := fun c hc => by
        rw [List.length_eq_zero_iff]
        constructor
        · rintro h ⟨x, hx, hw⟩
          have := ((valsF_spec l f t c hc).2 (keyF x c)).2 ⟨x, hx, hw, rfl⟩
          rw [h] at this; cases this
        · intro h
          refine List.eq_nil_iff_forall_not_mem.2 fun v hv => ?_
          obtain ⟨x, hx, hw, _⟩ := ((valsF_spec l f t c hc).2 v).1 hv
          exact h ⟨x, hx, hw⟩
      rw [e b hb, e w hw]
    have hcells : cellsG (cntM l f t b w) (valsF l f t b) (valsF l f t w) = cellsF l f t b w (valsF l f t b) (valsF l f t w) := by
      unfold cellsG cellsF
      simp only [cntM_mget]
    rw [hcells]
    by_cases h1 : (valsF l f t b).length = 0 ∨ 64 < (valsF l f t b).length * (valsF l f t w).length
    · rw [if_pos h1, if_pos]
      rcases h1 with h | h
      · exact .inl h
      · exact .inr (.inr h)
    · rw [if_neg h1, if_neg]
      rintro (h | h | h)
      · exact h1 (.inl h)
      · exact h1 (.inl (hz.2 h))
      · exact h1 (.inr h)
end Go.Sd
