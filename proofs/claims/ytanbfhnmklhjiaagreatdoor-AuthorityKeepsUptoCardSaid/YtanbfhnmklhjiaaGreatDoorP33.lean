/- Part of a proof about this program; no condition of its own. -/
import Derived.Test.YtanbfhnmklhjiaaGreatDoorP31
import Derived.Test.YtanbfhnmklhjiaaGreatDoorP12
import Derived.Shelf.Strings.OnBuilder
import Derived.Shelf.LaysM
import Derived.Shelf.Strconv.Itoa3
import Derived.Shelf.Sort.Plain
import Derived.Shelf.Slices.CompactI
import Derived.Shelf.Slices.In.SortNone
import Derived.Ground.Names2Prog
import Derived.Test.YtanbfhnmklhjiaaGreatDoorProg
import Derived.Test.YtanbfhnmklhjiaaGreatDoorP22
import Derived.Test.YtanbfhnmklhjiaaGreatDoorP27
import Derived.Sort.OwnSortedInts
import Derived.Lib.RowBridge
import Derived.Test.YtanbfhnmklhjiaaGreatDoorP32
import Derived.Test.YtanbfhnmklhjiaaGreatDoorP23
import Derived.Test.YtanbfhnmklhjiaaGreatDoorP24
set_option linter.all false
/- What stands above an authority, by a queue. Plain Lean; no condition. -/
namespace Go.Fc
open Go Go.Ax
def mI (f : List Int) : Mp := f.map fun x => ([KD.int .i64 x], 1)
theorem mI_has : ∀ (f : List Int) (x : Int), mhas (mI f) [KD.int .i64 x] = decide (x ∈ f)
  | [], x => by simp [mI, mhas]
  | y :: r, x => by
    have ih := mI_has r x
    unfold mI mhas at *
    rw [List.map_cons, List.any_cons, ih, Bool.eq_iff_iff]
    simp
    constructor
    · rintro (h | h)
      · exact .inl h.symm
      · exact .inr h
    · rintro (h | h)
      · exact .inl h.symm
      · exact .inr h
theorem mI_get (f : List Int) (x : Int) : mget (mI f) [KD.int .i64 x] = if x ∈ f then 1 else 0 := by
  induction f with
  | nil => rfl
  | cons y r ih =>
    unfold mI at *
    rw [List.map_cons, mget]
    by_cases h : y = x
    · subst h; simp
    · rw [if_neg (by simp; exact h), ih]
      by_cases hx : x ∈ r
      · rw [if_pos hx, if_pos (by simp [hx])]
      · rw [if_neg hx, if_neg (by simp [hx]; exact fun e => h e.symm)]
theorem mod_last {α : Type} (g : α → α) : ∀ (xs : List α) (a : α), (xs ++ [a]).modify xs.length g = xs ++ [g a]
  | [], a => rfl
  | x :: xs, a => by rw [List.cons_append, List.length_cons, List.modify_succ_cons, mod_last g xs a]; rfl
theorem mI_put (f : List Int) (x : Int) (h : x ∉ f) : mput (mI f) [KD.int .i64 x] 1 = mI (f ++ [x]) := by
  have h0 : mhas (mI f) [KD.int .i64 x] = false := by rw [mI_has, decide_eq_false h]
  unfold mput mpre
  rw [h0, (mget_none h0).2]
  unfold mset mI
  have := mod_last (fun kv : List KD × Int => (kv.1, (1 : Int))) (f.map fun x => ([KD.int .i64 x], (1 : Int))) ([KD.int .i64 x], 0)
  rw [List.length_map] at this
  simp only [List.length_map, Bool.false_eq_true, if_false]
  rw [this]
  simp
def upsOf (l : List Au) (id : Int) : List Int := ((getA l id).getD default).above
def addUp (s : List Int × List Int) (up : Int) : List Int × List Int := if up ∈ s.1 then s else (s.1 ++ [up], s.2 ++ [up])
def bfs (l : List Au) : Nat → List Int × List Int → List Int
  | 0, s => s.1
  | n + 1, s => match s.2 with
    | [] => s.1
    | x :: q => bfs l n ((upsOf l x).foldl addUp (s.1, q))
def allUp (l : List Au) : List Int := l.flatMap Au.above
def left (U f : List Int) : Nat := (U.filter fun x => !decide (x ∈ f)).length
theorem left_add : ∀ (U f : List Int) (x : Int), left U (f ++ [x]) ≤ left U f ∧ (x ∈ U → x ∉ f → left U (f ++ [x]) < left U f)
  | [], f, x => by simp [left]
  | y :: U, f, x => by
    obtain ⟨h1, h2⟩ := left_add U f x
    unfold left at *
    rw [List.filter_cons, List.filter_cons]
    by_cases hy : y ∈ f
    · rw [if_neg (by simp [hy]), if_neg (by simp [hy])]
      refine ⟨h1, fun hx hf => h2 ?_ hf⟩
      rcases List.mem_cons.1 hx with rfl | hx
      · exact absurd hy hf
      · exact hx
    · rw [if_pos (by simp [hy] : (!decide (y ∈ f)) = true)]
      by_cases hxy : y = x
      · subst hxy
        rw [if_neg (by simp), List.length_cons]
        exact ⟨by omega, fun _ _ => by omega⟩
      · rw [if_pos (by simp [hy, hxy] : (!decide (y ∈ f ++ [x])) = true), List.length_cons, List.length_cons]
        refine ⟨by omega, fun hx hf => ?_⟩
        rcases List.mem_cons.1 hx with rfl | hx
        · exact absurd rfl hxy
        · have := h2 hx hf; omega
theorem upsOf_sub {l : List Au} {id : Int} : ∀ x ∈ upsOf l id, x ∈ allUp l := fun x hx => by
  unfold upsOf at hx
  cases hg : getA l id with
  | none => rw [hg] at hx; cases hx
  | some a =>
    rw [hg] at hx
    exact List.mem_flatMap.2 ⟨a, (getA_mem hg).1, hx⟩
theorem upsOf_len {l : List Au} {id : Int} : (upsOf l id).length ≤ (allUp l).length := by
  unfold upsOf
  cases hg : getA l id with
  | none => exact Nat.zero_le _
  | some a =>
    have h1 := abN_mem (getA_mem hg).1
    have h2 : (allUp l).length = abN l := by unfold allUp abN; rw [List.length_flatMap]
    rw [h2]; exact h1
structure BfsI (l : List Au) (n : Nat) (f q : List Int) : Prop where
  pot : 2 * left (allUp l) f + q.length ≤ n
  len : f.length + left (allUp l) f ≤ (allUp l).length
  sub : ∀ x ∈ f, x ∈ allUp l
theorem BfsI.add {l : List Au} {n : Nat} {f q : List Int} {up : Int} (h : BfsI l n f q) (hu : up ∈ allUp l) : BfsI l n (addUp (f, q) up).1 (addUp (f, q) up).2 := by
  unfold addUp
  split
  · exact h
  · next hf =>
    have := (left_add (allUp l) f up).2 hu hf
    obtain ⟨h1, h2, h3⟩ := h
    refine ⟨by simp only [List.length_append, List.length_cons, List.length_nil]; omega, by simp only [List.length_append, List.length_cons, List.length_nil]; omega, fun x hx => ?_⟩
    rcases List.mem_append.1 hx with hx | hx
    · exact h3 x hx
    · rw [List.mem_singleton.1 hx]; exact hu
def bfsA (l : List Au) (id : Int) : List Int := bfs l (2 * (allUp l).length + 1) ([], [id])
def aboveP (l : List Au) (id : Int) : List Int := (bfsA l id).mergeSort fun x y => decide (x ≤ y)
theorem BfsI.start (l : List Au) (id : Int) : BfsI l (2 * (allUp l).length + 1) [] [id] := by
  have : left (allUp l) [] = (allUp l).length := by simp [left]
  exact ⟨by rw [this]; simp, by rw [this]; simp, by simp⟩
end Go.Fc

/- The shelf laid at this program: Sort and Compact of numbers. No condition. -/
namespace Go.Proofs
open Go.Shelf
def Tryz.lays189_ren : Go.Shelf.Ren := ⟨fun | 189 => 84 | 125 => 125 | 257 => 146 | 128 => 181 | 129 => 182 | 294 => 205 | 295 => 206 | 296 => 207 | 297 => 208 | 298 => 209 | 299 => 210 | 216 => 211 | 300 => 212 | 301 => 213 | 328 => 257 | 329 => 245 | 330 => 246 | 331 => 258 | 332 => 259 | 215 => 164 | 343 => 284 | n => n, fun | 28 => 43 | 3 => 3 | 46 => 149 | 0 => 0 | 51 => 189 | 53 => 146 | 4 => 4 | 183 => 183 | 182 => 182 | 131 => 113 | 5 => 5 | 9 => 9 | 218 => 237 | 222 => 241 | 228 => 261 | 229 => 104 | n => n, fun | n => n⟩
theorem Tryz.lays189 : Go.Proofs.Lays.n189 Tryz.prog Tryz.lays189_ren := {
  mixed := by kernel_rfl
  f125 := Tryz.func125.trans (congrArg some (by kernel_rfl))
  f128 := Tryz.func181.trans (congrArg some (by kernel_rfl))
  f129 := Tryz.func182.trans (congrArg some (by kernel_rfl))
  f189 := Tryz.func84.trans (congrArg some (by kernel_rfl))
  f215 := Tryz.func164.trans (congrArg some (by kernel_rfl))
  f216 := Tryz.func211.trans (congrArg some (by kernel_rfl))
  f257 := Tryz.func146.trans (congrArg some (by kernel_rfl))
  f294 := Tryz.func205.trans (congrArg some (by kernel_rfl))
  f295 := Tryz.func206.trans (congrArg some (by kernel_rfl))
  f296 := Tryz.func207.trans (congrArg some (by kernel_rfl))
  f297 := Tryz.func208.trans (congrArg some (by kernel_rfl))
  f298 := Tryz.func209.trans (congrArg some (by kernel_rfl))
  f299 := Tryz.func210.trans (congrArg some (by kernel_rfl))
  f300 := Tryz.func212.trans (congrArg some (by kernel_rfl))
  f301 := Tryz.func213.trans (congrArg some (by kernel_rfl))
  f328 := Tryz.func257.trans (congrArg some (by kernel_rfl))
  f329 := Tryz.func245.trans (congrArg some (by kernel_rfl))
  f330 := Tryz.func246.trans (congrArg some (by kernel_rfl))
  f331 := Tryz.func258.trans (congrArg some (by kernel_rfl))
  f332 := Tryz.func259.trans (congrArg some (by kernel_rfl))
  f343 := Tryz.func284.trans (congrArg some (by kernel_rfl))
  t0 := Tryz.underlying0
  a0 := Tryz.isAgg0
  z0 := Tryz.sizeOf0
  v0 := Tryz.zeroValue0
  t3 := Tryz.underlying3
  a3 := Tryz.isAgg3
  z3 := Tryz.sizeOf3
  v3 := Tryz.zeroValue3
  t4 := Tryz.underlying4
  a4 := Tryz.isAgg4
  z4 := Tryz.sizeOf4
  v4 := Tryz.zeroValue4
  t5 := Tryz.underlying5
  a5 := Tryz.isAgg5
  z5 := Tryz.sizeOf5
  v5 := Tryz.zeroValue5
  t9 := Tryz.underlying9
  a9 := Tryz.isAgg9
  z9 := Tryz.sizeOf9
  v9 := Tryz.zeroValue9
  t28 := Tryz.underlying43
  a28 := Tryz.isAgg43
  z28 := Tryz.sizeOf43
  v28 := Tryz.zeroValue43
  t46 := Tryz.underlying149
  a46 := Tryz.isAgg149
  z46 := Tryz.sizeOf149
  v46 := Tryz.zeroValue149
  t51 := Tryz.underlying189
  a51 := Tryz.isAgg189
  z51 := Tryz.sizeOf189
  v51 := Tryz.zeroValue189
  t53 := Tryz.underlying146
  a53 := Tryz.isAgg146
  z53 := Tryz.sizeOf146
  v53 := Tryz.zeroValue146
  t131 := Tryz.underlying113
  a131 := Tryz.isAgg113
  z131 := Tryz.sizeOf113
  v131 := Tryz.zeroValue113
  t182 := Tryz.underlying182
  a182 := Tryz.isAgg182
  z182 := Tryz.sizeOf182
  v182 := Tryz.zeroValue182
  t183 := Tryz.underlying183
  a183 := Tryz.isAgg183
  z183 := Tryz.sizeOf183
  v183 := Tryz.zeroValue183
  t218 := Tryz.underlying237
  a218 := Tryz.isAgg237
  z218 := Tryz.sizeOf237
  v218 := Tryz.zeroValue237
  t222 := Tryz.underlying241
  a222 := Tryz.isAgg241
  z222 := Tryz.sizeOf241
  v222 := Tryz.zeroValue241
  t228 := Tryz.underlying261
  a228 := Tryz.isAgg261
  z228 := Tryz.sizeOf261
  v228 := Tryz.zeroValue261
  t229 := Tryz.underlying104
  a229 := Tryz.isAgg104
  z229 := Tryz.sizeOf104
  v229 := Tryz.zeroValue104 }
open Go.Sort Go.RowKit in
theorem Tryz.slices_Sort_int (blk off cap : Nat) (zs : List Int) (w : World) (hH : Holds (Value.int .i64) w blk off zs.toArray) (hblk : blk < w.heap.size) (hsz : zs.length < 4611686018427387904) :
    Calls Tryz.prog 84 #[.slice (some ⟨blk, off, none⟩) zs.length cap] w fun e w' =>
      e = .returned (.tuple #[]) ∧ ∃ n os, w' = grow (putRow (Value.int .i64) (Sort.ahead w n) blk off (zs.mergeSort fun x y => decide (x ≤ y)).toArray) os := Any.slices_Sort_int Tryz.lays189 blk off cap zs w hH hblk hsz
def Tryz.laysNm220_ren : Go.Shelf.Ren := ⟨fun | 20 => 153 | n => n, fun | 22 => 43 | 3 => 3 | 4 => 4 | 0 => 0 | n => n, fun | n => n⟩
theorem Tryz.laysNm220 : Go.Proofs.Lays2.n20 Tryz.prog Tryz.laysNm220_ren := {
  mixed := by kernel_rfl
  f20 := Tryz.func153.trans (congrArg some (by kernel_rfl))
  t0 := Tryz.underlying0
  a0 := Tryz.isAgg0
  z0 := Tryz.sizeOf0
  v0 := Tryz.zeroValue0
  t3 := Tryz.underlying3
  a3 := Tryz.isAgg3
  z3 := Tryz.sizeOf3
  v3 := Tryz.zeroValue3
  t4 := Tryz.underlying4
  a4 := Tryz.isAgg4
  z4 := Tryz.sizeOf4
  v4 := Tryz.zeroValue4
  t22 := Tryz.underlying43
  a22 := Tryz.isAgg43
  z22 := Tryz.sizeOf43
  v22 := Tryz.zeroValue43
  i3 := by kernel_rfl }
open Go.RowKit Go.Lib Go.Sort in
/-- slices.Compact at []int: "Compact replaces consecutive runs of equal elements with a single copy. This is like the uniq command found on Unix. Compact modifies the contents of the slice s and returns the modified slice, which may have a smaller length. Compact zeroes the elements between the new length and the original length. The result preserves the nilness of s.": IT RETURNS THE SLICE CUT TO 'Lib.compact zs'; ITS CELLS HOLD 'Lib.compact zs', THEN ZERO VALUES up to the old length; all else is as it was, but for the count of draws. IN THE WORDS OF slices.Sort's CONTRACT ('Holds', 'putRow'): so the everyday 'slices.Sort(xs); xs = slices.Compact(xs)' goes from the one contract to the other. It asks 'zs.length ≤ cap' (every slice's: the reslicing 's[:k]' looks at it). Length 0, nil: '.._empty'. (LAID: no walk: one application.) -/
theorem Tryz.slices_Compact_int (blk off cap : Nat) (zs : List Int) (w : World) (hH : Holds (Value.int .i64) w blk off zs.toArray) (hsz : zs.length ≤ 9223372036854775807) (hcap : zs.length ≤ cap) :
    Calls Tryz.prog 153 #[.slice (some ⟨blk, off, none⟩) zs.length cap] w fun e w' => e = .returned (.slice (some ⟨blk, off, none⟩) (Lib.compact zs).length cap) ∧ ∃ q, w' = putRow (Value.int .i64) (Sort.ahead w q) blk off (Lib.compact zs ++ List.replicate (zs.length - (Lib.compact zs).length) 0).toArray := Any.slices_Compact_int Tryz.laysNm220 blk off cap zs w hH hsz hcap
open Go.RowKit Go.Lib Go.Sort in
/-- The same at a slice of length 0, a nil one too: it comes back as it is. (LAID: no walk: one application.) -/
theorem Tryz.slices_Compact_int_empty (a : Option Addr) (cap : Nat) (w : World) :
    Calls Tryz.prog 153 #[.slice a 0 cap] w fun e w' => e = .returned (.slice a 0 cap) ∧ w' = w := Any.slices_Compact_int_empty Tryz.laysNm220 a cap w
open Go.RowKit Go.Sort in
/-- .. and plain. (LAID: no walk: one application.) -/
theorem Tryz.slices_Sort_int_none (p : Option Addr) (cap : Nat) (w : World) :
    Calls Tryz.prog 84 #[.slice p 0 cap] w fun e w' => e = .returned (.tuple #[]) ∧ w' = w := Any.slices_Sort_int_none Tryz.lays189 p cap w
end Go.Proofs

/- slices.Sort and slices.Compact on a row of integers of the call's own. -/
namespace Go.Proofs
open Go Go.Ax Go.Fc Go.Sort
theorem ints_xs {V : Vw} : ∀ {zs : List Int} {xs : List Value}, All2 (Dr V) (zs.map iD).flatten xs → xs = zs.map (Value.int .i64)
  | [], xs, h => by cases h; rfl
  | z :: zs, xs, h => by
    rw [List.map_cons, List.flatten_cons, iD, List.singleton_append] at h
    cases h with
    | cons h1 h2 => rw [dr_int h1, ints_xs h2]; rfl
theorem ints_dr (V : Vw) : ∀ zs : List Int, All2 (Dr V) (zs.map iD).flatten (zs.map (Value.int .i64))
  | [] => .nil
  | z :: zs => .cons (.int _ _) (ints_dr V zs)
theorem Tryz.rowSort (zs : List Int) (hz : zs.length < 4611686018427387904) : RowOp Tryz.prog 84 3 1 (zs.map iD) ((zs.mergeSort fun x y => decide (x ≤ y)).map iD) false := by
  intro V base v xs w how hdr
  have hx := ints_xs hdr
  subst hx
  obtain ⟨hl, ⟨rfl, h0⟩ | ⟨g, cap, cur, rfl, hg, hh, h1, h2, h3, h4⟩⟩ := how
  · have : zs = [] := by cases zs with
      | nil => rfl
      | cons a b => simp at h0
    subst this
    refine (Tryz.slices_Sort_int_none none 0 w).mono fun e w' h => ?_
    obtain ⟨rfl, rfl⟩ := h
    rw [List.mergeSort_nil]
    exact ⟨_, [], rfl, fun _ => rfl, World.ownsRow_nil _ _ _ _, .nil, ⟨rfl, rfl, rfl, Nat.le_refl _, fun _ _ _ => rfl⟩, rfl⟩
  · rw [List.length_map] at h1 h4 ⊢
    rw [Nat.mul_one] at h4
    refine (Tryz.slices_Sort_int g 0 cap zs w (holds_of_blockI hh h4) (heap_lt hh) hz).mono fun e w' h => ?_
    obtain ⟨rfl, n, os, rfl⟩ := h
    have hp := List.mergeSort_perm zs (fun x y => decide (x ≤ y))
    have how' := ownsRow_sortedI (w := w) (n := n) (os := os) (base := base) (ss := zs) (ts := zs.mergeSort fun x y => decide (x ≤ y)) hp.length_eq hg hh h1 h2 h3
    refine ⟨_, _, rfl, fun _ => rfl, ?_, ints_dr V _, grownBy_sortedI _, rfl⟩
    rw [List.length_map, hp.length_eq]
    exact how'
theorem Tryz.rowCompact (zs : List Int) (hz : zs.length ≤ 9223372036854775807) : RowOp Tryz.prog 153 3 1 (zs.map iD) ((Lib.compact zs).map iD) true := by
  intro V base v xs w how hdr
  have hx := ints_xs hdr
  subst hx
  obtain ⟨hl, ⟨rfl, h0⟩ | ⟨g, cap, cur, rfl, hg, hh, h1, h2, h3, h4⟩⟩ := how
  · have : zs = [] := by cases zs with
      | nil => rfl
      | cons a b => simp at h0
    subst this
    refine (Tryz.slices_Compact_int_empty none 0 w).mono fun e w' h => ?_
    obtain ⟨rfl, rfl⟩ := h
    exact ⟨_, [], rfl, fun h => (by cases h), World.ownsRow_nil _ _ _ _, .nil, ⟨rfl, rfl, rfl, Nat.le_refl _, fun _ _ _ => rfl⟩, rfl⟩
  · rw [List.length_map] at h1 h4 ⊢
    rw [Nat.mul_one] at h4
    refine (Tryz.slices_Compact_int g 0 cap zs w (holds_of_blockI hh h4) hz h1).mono fun e w' h => ?_
    obtain ⟨rfl, q, rfl⟩ := h
    have hle := Lib.compact_length_le zs
    obtain ⟨ts, hts⟩ : ∃ ts, ts = Lib.compact zs ++ List.replicate (zs.length - (Lib.compact zs).length) 0 := ⟨_, rfl⟩
    have htl : ts.length = zs.length := by rw [hts, List.length_append, List.length_replicate]; omega
    rw [← hts]
    have e1 : putRow (Value.int .i64) (Sort.ahead w q) g 0 ts.toArray = grow (putRow (Value.int .i64) (Sort.ahead w q) g 0 ts.toArray) #[] := by
      unfold grow
      rw [Array.append_empty]
    rw [e1]
    have hk := take_putCellsI cur ts (by omega)
    refine ⟨_, (Lib.compact zs).map (Value.int .i64), rfl, fun h => (by cases h), ⟨by simp, .inr ⟨g, cap, _, by rw [List.length_map], hg, heap_sortedI _ hh, by rw [List.length_map]; omega, h2, by simp [putCells, h3], ?_⟩⟩, ints_dr V _, grownBy_sortedI _, rfl⟩
    rw [List.length_map, Nat.mul_one]
    have : (putCells (Value.int .i64) 0 ts.toArray cur).toList.take (Lib.compact zs).length = ((putCells (Value.int .i64) 0 ts.toArray cur).toList.take ts.length).take (Lib.compact zs).length := by
      rw [List.take_take, Nat.min_eq_left (by omega)]
    rw [this, hk, hts, List.map_append]
    exact (List.take_append_of_le_length (by simp)).trans (List.take_of_length_le (by simp))
end Go.Proofs

/- Who stands above: the program's queue. No condition. -/
namespace Go.Proofs
open Go Go.Ax Go.Tx Go.Lib Go.RowKit Go.Fc
set_option maxRecDepth 100000
set_option maxHeartbeats 0
variable {Γ : List (Nat × List D)} {M : Int}
theorem Tryz.mapT116 : MapT Tryz.prog 116 [.int .i64] := MapT.int (K := 3) (E := 3) (by kernel_rfl) (by kernel_rfl) (by kernel_rfl) Tryz.zeroValue3
theorem Tryz.callOk84 : CallOk Tryz.prog 84 := ⟨_, Tryz.func84, by kernel_rfl, by kernel_rfl⟩
theorem iD_len {zs : List Int} : ∀ e ∈ zs.map Fc.iD, e.length = 1 := fun e he => by
  obtain ⟨n, _, rfl⟩ := List.mem_map.1 he
  rfl
@[push_cast] theorem keyAV_1 (n : Int) : keyAV [KD.int .i64 n] = .c (.d (.int .i64 n)) := rfl
theorem mI_erase : ∀ (l : List Int) (i : Nat), (mI l).eraseIdx i = mI (l.eraseIdx i)
  | [], i => by simp [mI]
  | x :: r, 0 => rfl
  | x :: r, i + 1 => by
    have := mI_erase r i
    unfold mI at *
    rw [List.map_cons, List.eraseIdx_cons_succ, List.eraseIdx_cons_succ, List.map_cons, this]
theorem erase_perm {α : Type} : ∀ (l : List α) (i : Nat) (hi : i < l.length), l.Perm (l[i] :: l.eraseIdx i)
  | a :: r, 0, _ => .refl _
  | a :: r, i + 1, hi => ((erase_perm r i (Nat.lt_of_succ_lt_succ hi)).cons a).trans (.swap _ _ _)
theorem sortI_perm {a b : List Int} (h : a.Perm b) : (a.mergeSort fun x y => decide (x ≤ y)) = b.mergeSort fun x y => decide (x ≤ y) := by
  have tr : ∀ x y z : Int, decide (x ≤ y) = true → decide (y ≤ z) = true → decide (x ≤ z) = true := fun x y z => by simp; omega
  have tot : ∀ x y : Int, (decide (x ≤ y) || decide (y ≤ x)) = true := fun x y => by simp; omega
  have h1 := List.pairwise_mergeSort tr tot a
  have h2 := List.pairwise_mergeSort tr tot b
  refine List.Perm.eq_of_pairwise (le := fun x y => decide (x ≤ y) = true) (fun x y _ _ hx hy => by simp at hx hy; omega) h1 h2 ?_
  exact ((List.mergeSort_perm a _).trans h).trans (List.mergeSort_perm b _).symm
structure QS where
  n : Nat
  f : List Int
  p : List (List D)
  q : List Int
  ver : Nat
def QS.row (s : QS) : LB := .row 3 1 (s.p ++ s.q.map Fc.iD) s.ver
structure QS.ok (l : List Au) (s : QS) : Prop where
  I : BfsI l s.n s.f s.q
  sz : s.p.length + s.q.length ≤ s.f.length + 1
  pos : 0 < s.p.length + s.q.length
theorem head_at {p : List (List D)} {x : Int} {q : List Int} (h : p.length < (p ++ (x :: q).map Fc.iD).length) : (p ++ (x :: q).map Fc.iD)[p.length] = [.int .i64 x] := by
  rw [List.getElem_append_right (Nat.le_refl _)]
  simp [Fc.iD]
theorem take_q {p : List (List D)} {q : List Int} : List.take q.length (List.drop p.length (p ++ q.map Fc.iD)) = q.map Fc.iD := by
  rw [List.drop_left]
  exact List.take_of_length_le (by simp)
theorem c34 (l : List Au) (id : Int) (hl : l.length ≤ 2000000) (hU : (allUp l).length ≤ 1000000000) (hB : ∀ x ∈ allUp l, -9223372036854775808 ≤ x ∧ x ≤ 9223372036854775807) : AFn Tryz.prog Γ 34 [.c (.d (.lst 5 (l.map Au.ds))), .c (.d (.int .i64 id))] [.d (.lst 1 ((aboveP l id).map Fc.iD))] := by
  refine AFn.vcX [15] [5, 11] Tryz.func34 rfl Tryz.mixed (by kernel_rfl) Tryz.ntmps34 Tryz.results34 (by simp) ?_
  push_cast
  refine LoopV.ownSub 6 ?_
  push_cast
  refine LoopV.ofX [5, 11] Tryz.mixed [0, 5] (S := QS) (fun s => [(6, .c (.sub 1 s.ver 1 s.p.length s.q.length))]) (fun s => [.mp [.int .i64] (mI s.f), .row 3 1 (s.p ++ s.q.map Fc.iD) s.ver]) (fun s => s.ok l ∧ bfs l s.n (s.f, s.q) = bfsA l id) (fun s => s.n) ⟨2 * (allUp l).length + 1, [], [], [id], 0⟩ ⟨⟨BfsI.start l id, by simp, by simp⟩, rfl⟩ (by push_cast; rfl) ?_
  rintro ⟨n, f, p, q, ver⟩ ⟨⟨hI, hsz, hpos⟩, hb⟩
  simp only at hsz hb hI hpos
  have hIl := hI.len
  have hrl : (p ++ q.map Fc.iD).length = p.length + q.length := by simp
  push_cast
  rw [if_pos (Nat.le_refl _), take_q]
  push_cast
  refine ⟨fun h => ?_, fun h => ?_⟩
  · cases q with
    | nil => simp at h
    | cons x q =>
    have hup : upsOf l x = ((getA l x).getD default).above := rfl
    have hsub := upsOf_sub (l := l) (id := x)
    have hul := upsOf_len (l := l) (id := x)
    have hn : 1 ≤ n := by have := hI.pot; simp at this; omega
    obtain ⟨n', rfl⟩ : ∃ n', n = n' + 1 := ⟨n - 1, by omega⟩
    have hb2 : bfs l n' ((upsOf l x).foldl addUp (f, q)) = bfsA l id := hb
    have hI2 : BfsI l n' f q := ⟨by have := hI.pot; simp at this ⊢; omega, hI.len, hI.sub⟩
    clear hb hI
    refine ⟨⟨Nat.le_refl _, h⟩, by simp, by rw [head_at]; simp, ?_⟩
    simp only [head_at, List.getElem_cons_zero]
    refine CallL.q (c28 l x hl) ?_
    push_cast
    generalize (getA l x).getD default = A at *
    rw [← hup]
    generalize upsOf l x = ups at *
    intro hok
    refine AXc.region ?_
    refine AXl.pre [15] 0 1 hok ?_
    push_cast
    refine AXl.qt rfl (Nat.le_of_ble_eq_true rfl) (Still.qt (s_slice_sub (e := 3) (sz := 1) (l := 1) (r := (x :: q).length) _ _ _ _ (by kernel_rfl) rfl ⟨_, _, rfl⟩ ⟨_, _, rfl, by decide, rfl⟩ rfl (by simp) (Nat.le_refl _))) ?_
    refine AXl.pre [15] 2 1 hok ?_
    push_cast
    refine AXl.nil ?_
    push_cast
    clear hok
    have hp1 : (p ++ [([.int .i64 x] : List D)]).length + q.length ≤ f.length + 1 := by simp at hsz ⊢; omega
    have hp0 : 0 < (p ++ [([.int .i64 x] : List D)]).length + q.length := by simp; omega
    refine LoopV.ofX [11] Tryz.mixed [0, 5, 30, 31] (S := QS × Nat) (fun s => [(6, .c (.sub 1 s.1.ver 1 s.1.p.length s.1.q.length)), (32, .c (.d (.int .i64 s.2)))]) (fun s => [.mp [.int .i64] (mI s.1.f), .row 3 1 (s.1.p ++ s.1.q.map Fc.iD) s.1.ver, .box 45 [.d (.int .i64 A.id), .d (.int .i64 A.kind), .d (.str A.hd), .d (.lst 1 (A.see.map Fc.sD)), .d (.lst 1 (ups.map Fc.iD))]]) (fun s => (s.1.ok l ∧ s.1.n = n') ∧ s.2 ≤ ups.length ∧ bfs l n' ((ups.drop s.2).foldl addUp (s.1.f, s.1.q)) = bfsA l id) (fun s => ups.length - s.2) (⟨n', f, p ++ [([.int .i64 x] : List D)], q, ver⟩, 0) ⟨⟨⟨hI2, hp1, hp0⟩, rfl⟩, Nat.zero_le _, hb2⟩ (by push_cast; try simp) ?_
    rintro ⟨⟨m, f, p, q, ver⟩, j⟩ ⟨⟨⟨hI, hsz, hpos⟩, hm⟩, hj, hb⟩
    simp only at hI hsz hpos hm hj hb
    subst hm
    have hIl := hI.len
    push_cast
    refine ⟨fun h => ?_, fun h => ?_⟩
    · have hjl : j < ups.length := by omega
      have hmu := hsub _ (List.getElem_mem hjl)
      have hbu := hB _ hmu
      rw [Fc.drop_cons hjl, List.foldl_cons] at hb
      have hIa := hI.add hmu
      refine ⟨hjl, ?_⟩
      generalize ups[j] = u at *
      rw [show addUp (f, q) u = if u ∈ f then (f, q) else (f ++ [u], q ++ [u]) from rfl] at hIa hb
      rw [mI_get]
      refine ⟨⟨Tryz.mapT116, hbu⟩, fun e => ?_, fun e => ?_⟩
      · have hu : u ∉ f := fun hc => by rw [if_pos hc] at e; omega
        simp only [if_neg hu] at hb hIa
        refine ⟨⟨Tryz.mapT116, hbu⟩, by rw [if_neg hu]; omega, ⟨Tryz.mapT116, hbu⟩, ?_⟩
        rw [if_neg hu, show (0 : Int) + 1 = 1 from rfl, mI_put f u hu]
        intro hok
        refine AXc.region ?_
        refine AXl.pre [15] 0 3 hok ?_
        push_cast
        refine AXl.appendTail (te := 3) (sz := 1) (by_ := 8) (i := 1) (els := p ++ q.map Fc.iD) (news := [[.int .i64 u]]) (by kernel_rfl) rfl rfl (by simp) (by simp; omega) (by simp) rfl ?_ ?_ (Nat.le_of_ble_eq_true rfl) ?_
        · simp; omega
        · simp; omega
        intro els' lo' h1 h2 h3
        refine AXl.pre [15] 4 1 hok ?_
        push_cast
        refine AXl.nil ?_
        push_cast
        clear hok
        rw [List.drop_left] at h1
        have e1 : els'.take lo' ++ (q ++ [u]).map Fc.iD = els' := by
          have := List.take_append_drop lo' els'
          rw [h1] at this
          rw [List.map_append]
          exact this
        have e2 : (els'.take lo').length = lo' := by rw [List.length_take]; omega
        simp only [List.length_append, List.length_map, List.length_cons, List.length_nil] at h2 h3
        exact ⟨by omega, (⟨m, f ++ [u], els'.take lo', q ++ [u], ver + 1⟩, j + 1), ⟨⟨⟨⟨hIa, by simp [e2]; omega, by simp; omega⟩, rfl⟩, by show j + 1 ≤ _; omega, hb⟩, by show ups.length - (j + 1) < _; omega⟩, ⟨⟨rfl, e2, by simp⟩, by push_cast⟩, rfl, e1.symm, rfl⟩
      · have hu : u ∈ f := by
          rcases Classical.em (u ∈ f) with hc | hc
          · exact hc
          · exact absurd (if_neg hc) e
        simp only [if_pos hu] at hb hIa
        exact ⟨by omega, (⟨m, f, p, q, ver⟩, j + 1), ⟨⟨⟨⟨hI, hsz, hpos⟩, rfl⟩, by show j + 1 ≤ _; omega, hb⟩, by show ups.length - (j + 1) < _; omega⟩, ⟨⟨rfl, rfl, rfl⟩, by push_cast⟩, rfl, rfl, rfl⟩
    · rw [List.drop_eq_nil_of_le (by omega)] at hb
      exact ⟨⟨m, f, p, q, ver⟩, ⟨⟨⟨hI, hsz, hpos⟩, hb⟩, by show m < m + 1; omega⟩, ⟨rfl, rfl, rfl⟩, rfl, rfl, rfl⟩
  · obtain rfl : q = [] := List.length_eq_zero_iff.1 (by omega)
    have hf : f = bfsA l id := by
      rw [← hb]
      cases n <;> rfl
    refine ⟨Tryz.mapT116, ?_⟩
    refine LoopV.nilrow 11 3 1 ?_
    push_cast
    refine LoopV.of Tryz.mixed [50] (S := List Int × Option (List KD × Int) × List Int) (fun s => [(11, .c (.own 3 s.2.2.length))]) (fun s => [.dead, .row 3 1 (p ++ []) ver, .it (mI s.1) s.2.1, .row 3 1 (s.2.2.map Fc.iD) s.2.2.length]) (fun s => (s.2.2 ++ s.1).Perm f) (fun s => s.1.length) (f, none, []) (by simp) (by push_cast) ?_
    rintro ⟨todo, last, o⟩ hp
    simp only at hp
    have hlen := hp.length_eq
    rw [List.length_append] at hlen
    push_cast
    refine ⟨fun h0 => ?_, fun i hi => ?_⟩
    · have ht0 : todo = [] := by
        cases todo with
        | nil => rfl
        | cons a r => simp [mI] at h0
      subst ht0
      rw [List.append_nil] at hp
      refine CallL.rowIn (Tryz.rowSort o (by simp at hlen; omega)) iD_len rfl Tryz.callOk84 ?_
      push_cast
      unfold aboveP
      rw [← hf, sortI_perm hp]
    · have hi' : i < todo.length := by simpa [mI] using hi
      have hk : (mI todo)[i] = ([KD.int .i64 todo[i]], 1) := by simp [mI]
      rw [hk]
      push_cast
      have hle : (todo.eraseIdx i).length < todo.length := by rw [List.length_eraseIdx_of_lt hi']; omega
      have hme : (mI todo).eraseIdx i = mI (todo.eraseIdx i) := mI_erase todo i
      have hpp : (o ++ [todo[i]] ++ todo.eraseIdx i).Perm f := by
        rw [List.append_assoc]
        exact ((erase_perm todo i hi').symm.append_left o).trans hp
      exact ⟨by omega, (todo.eraseIdx i, some ([KD.int .i64 todo[i]], 1), o ++ [todo[i]]), ⟨hpp, hle⟩, by simp, ⟨hme, rfl⟩, by simp [Fc.iD], by simp⟩
end Go.Proofs
