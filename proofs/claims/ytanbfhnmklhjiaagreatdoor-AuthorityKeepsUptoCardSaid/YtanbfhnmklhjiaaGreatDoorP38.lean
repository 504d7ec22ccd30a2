/- Part of a proof about this program; no condition of its own. -/
import Derived.Test.YtanbfhnmklhjiaaGreatDoorP37
import Derived.Test.YtanbfhnmklhjiaaGreatDoorP35
set_option linter.all false
/- The example file; leads. No condition. -/
namespace Go.Proofs
open Go Go.Ax Go.Tx Go.Lib Go.RowKit Go.Fc
set_option maxRecDepth 100000
set_option maxHeartbeats 0
variable {Γ : List (Nat × List D)} {M : Int}
def animalsL : List Au := [⟨1, 3, [65, 110, 105, 109, 97, 108, 115], [], []⟩, ⟨2, 3, [68, 111, 103, 115], [[72, 111, 117, 110, 100, 115]], [1]⟩]
def animalsR : List (List D) := [[.int .i64 1, .int .i64 3, .str [65, 110, 105, 109, 97, 108, 115], .raw (.slice none 0 0), .raw (.slice none 0 0)], [.int .i64 2, .int .i64 3, .str [68, 111, 103, 115], .lst 1 [[.str [72, 111, 117, 110, 100, 115]]], .lst 1 [[.int .i64 1]]]]
theorem c71 : AFn Tryz.prog Γ 71 [] [.d (.lst 5 animalsR)] := by
  refine AFn.vc [] Tryz.func71 rfl Tryz.mixed (by kernel_rfl) Tryz.ntmps71 Tryz.results71 (by simp) ?_
  push_cast
  first | rfl | exact ⟨rfl, rfl⟩
def leadsP (l : List Au) (a : Au) (id : Int) : Bool := (headsA a).all fun s => (findP l a.kind s).2.2 && decide ((findP l a.kind s).1 = id)
theorem c40 (hM : (0, [D.int .i64 M]) ∈ Γ) (l : List Au) (hl : l.length ≤ 2000000) (ht : twiceA l = false) (hs : ∀ a ∈ l, a.see.length ≤ 2000000 ∧ (-9223372036854775808 ≤ a.kind ∧ a.kind ≤ 9223372036854775807) ∧ ∀ s ∈ headsA a, s.length ≤ 100000 ∧ validF s = true)
    (a : Au) (hk : -9223372036854775808 ≤ a.kind ∧ a.kind ≤ 9223372036854775807) (h1 : a.see.length ≤ 2000000) (h2 : ∀ s ∈ headsA a, s.length ≤ 100000 ∧ validF s = true) (id : Int) : AFn Tryz.prog Γ 40 [.c (.d (.lst 5 (l.map Au.ds))), .agg (a.ds.map C.d), .c (.d (.int .i64 id))] [.d (.bool (leadsP l a id))] := by
  generalize hR : leadsP l a id = R
  unfold leadsP at hR
  refine AFn.vc [] Tryz.func40 rfl Tryz.mixed (by kernel_rfl) Tryz.ntmps40 Tryz.results40 (by simp) ?_
  push_cast
  refine CallL.q (c73 a h1) ?_
  push_cast
  refine LoopV.cnt Tryz.mixed [0, 2, 4, 7] (headsA a).length (fun k => [(8, .c (.d (.int .i64 k)))]) (fun k => ((headsA a).drop k).all (fun s => (findP l a.kind s).2.2 && decide ((findP l a.kind s).1 = id)) = R) hR ?_
  intro k hk2 hinv
  push_cast
  have hhl : (headsA a).length = a.see.length + 1 := by simp [headsA]
  refine ⟨fun h => ?_, fun h => ?_⟩
  · have hlt : k < (headsA a).length := by omega
    rw [all_step hlt] at hinv
    obtain ⟨b1, b2⟩ := h2 _ (List.getElem_mem hlt)
    refine ⟨hlt, ?_⟩
    refine CallX.q (c30 hM l hl ht hs a.kind hk (headsA a)[k] b1 b2) ?_
    push_cast
    generalize findP l a.kind (headsA a)[k] = F at *
    refine ⟨fun e1 => ⟨fun e2 => ?_, fun e2 => ⟨by omega, hlt, ?_⟩⟩, fun e1 => ?_⟩
    · rw [e1, decide_eq_false e2] at hinv
      simpa using hinv
    · rw [e1, decide_eq_true e2] at hinv
      simpa using hinv
    · rw [e1] at hinv
      simpa using hinv
  · rw [all_end (by omega)] at hinv
    exact hinv
end Go.Proofs

/- What the queue finds is closed, and the least such. Plain Lean; no condition. -/
namespace Go.Fc
open Go Go.Ax Go.Proofs
theorem addUp_m1 (s : List Int × List Int) (up z : Int) : z ∈ (addUp s up).1 ↔ z ∈ s.1 ∨ z = up := by
  unfold addUp
  split
  · next h =>
    constructor
    · exact .inl
    · rintro (h1 | rfl)
      · exact h1
      · exact h
  · simp
theorem addUps_m1 : ∀ (us : List Int) (s : List Int × List Int) (z : Int), z ∈ (us.foldl addUp s).1 ↔ z ∈ s.1 ∨ z ∈ us
  | [], s, z => by simp
  | u :: us, s, z => by rw [List.foldl_cons, addUps_m1 us, addUp_m1, List.mem_cons, or_assoc]
theorem addUp_m2 (s : List Int × List Int) (up z : Int) : (z ∈ s.2 → z ∈ (addUp s up).2) ∧ (z ∈ (addUp s up).1 → z ∈ s.1 ∨ z ∈ (addUp s up).2) ∧ (z ∈ (addUp s up).2 → z ∈ s.2 ∨ z = up) := by
  unfold addUp
  split
  · exact ⟨id, .inl, .inl⟩
  · simp only [List.mem_append, List.mem_singleton]
    exact ⟨.inl, fun h => h.elim .inl fun h => .inr (.inr h), id⟩
theorem addUps_m2 : ∀ (us : List Int) (s : List Int × List Int) (z : Int), (z ∈ s.2 → z ∈ (us.foldl addUp s).2) ∧ (z ∈ (us.foldl addUp s).1 → z ∈ s.1 ∨ z ∈ (us.foldl addUp s).2) ∧ (z ∈ (us.foldl addUp s).2 → z ∈ s.2 ∨ z ∈ us)
  | [], s, z => ⟨id, .inl, .inl⟩
  | u :: us, s, z => by
    obtain ⟨a1, a2, a3⟩ := addUps_m2 us (addUp s u) z
    obtain ⟨b1, b2, b3⟩ := addUp_m2 s u z
    rw [List.foldl_cons]
    refine ⟨fun h => a1 (b1 h), fun h => ?_, fun h => ?_⟩
    · rcases a2 h with h | h
      · rcases b2 h with h | h
        · exact .inl h
        · exact .inr (a1 h)
      · exact .inr h
    · rcases a3 h with h | h
      · rcases b3 h with h | h
        · exact .inl h
        · exact .inr (by simp [h])
      · exact .inr (by simp [h])
theorem BfsI.adds' {l : List Au} : ∀ {us : List Int} {n : Nat} {s : List Int × List Int}, BfsI l n s.1 s.2 → (∀ u ∈ us, u ∈ allUp l) → BfsI l n (us.foldl addUp s).1 (us.foldl addUp s).2
  | [], _, _, h, _ => h
  | u :: us, n, s, h, hu => BfsI.adds' (us := us) (s := addUp s u) (h.add (hu u (by simp))) fun x hx => hu x (by simp [hx])
def Cl (l : List Au) (id : Int) (f q : List Int) : Prop := ∀ x, x = id ∨ x ∈ f → x ∈ q ∨ ∀ z ∈ upsOf l x, z ∈ f
theorem bfs_closed (l : List Au) (id : Int) : ∀ (n : Nat) (f q : List Int), BfsI l n f q → Cl l id f q → ∀ x, x = id ∨ x ∈ bfs l n (f, q) → ∀ z ∈ upsOf l x, z ∈ bfs l n (f, q)
  | 0, f, q, h, hc, x, hx, z, hz => by
    have : q = [] := List.length_eq_zero_iff.1 (by have := h.pot; omega)
    subst this
    exact (hc x hx).resolve_left (by simp) z hz
  | n + 1, f, [], h, hc, x, hx, z, hz => (hc x hx).resolve_left (by simp) z hz
  | n + 1, f, y :: q, h, hc, x, hx, z, hz => by
    have e : bfs l (n + 1) (f, y :: q) = bfs l n (((upsOf l y).foldl addUp (f, q)).1, ((upsOf l y).foldl addUp (f, q)).2) := rfl
    rw [e] at hx ⊢
    refine bfs_closed l id n _ _ (BfsI.adds' (s := (f, q)) ⟨by have := h.pot; rw [List.length_cons] at this; simp only; omega, h.len, h.sub⟩ fun u hu => upsOf_sub u hu) ?_ x hx z hz
    intro x hx
    have old : x = id ∨ x ∈ f → x ∈ ((upsOf l y).foldl addUp (f, q)).2 ∨ ∀ z ∈ upsOf l x, z ∈ ((upsOf l y).foldl addUp (f, q)).1 := fun hx => by
      rcases hc x hx with h1 | h1
      · rcases List.mem_cons.1 h1 with rfl | h1
        · exact .inr fun z hz => (addUps_m1 _ _ _).2 (.inr hz)
        · exact .inl ((addUps_m2 _ (f, q) x).1 h1)
      · exact .inr fun z hz => (addUps_m1 _ _ _).2 (.inl (h1 z hz))
    rcases hx with hx | hx
    · exact old (.inl hx)
    · rcases (addUps_m2 _ (f, q) x).2.1 hx with h1 | h1
      · exact old (.inr h1)
      · exact .inl h1
theorem bfs_least (l : List Au) (S : Int → Prop) (hS : ∀ x, S x → ∀ z ∈ upsOf l x, S z) : ∀ (n : Nat) (f q : List Int), (∀ x ∈ f, S x) → (∀ x ∈ q, ∀ z ∈ upsOf l x, S z) → ∀ x ∈ bfs l n (f, q), S x
  | 0, f, q, hf, _, x, hx => hf x hx
  | n + 1, f, [], hf, _, x, hx => hf x hx
  | n + 1, f, y :: q, hf, hq, x, hx => by
    have e : bfs l (n + 1) (f, y :: q) = bfs l n (((upsOf l y).foldl addUp (f, q)).1, ((upsOf l y).foldl addUp (f, q)).2) := rfl
    rw [e] at hx
    refine bfs_least l S hS n _ _ (fun x hx => ?_) (fun x hx => ?_) x hx
    · rcases (addUps_m1 _ _ _).1 hx with h | h
      · exact hf x h
      · exact hq y (by simp) x h
    · rcases (addUps_m2 _ (f, q) x).2.2 hx with h | h
      · exact hq x (by simp [h])
      · exact hS x (hq y (by simp) x h)
theorem mem_aboveP (l : List Au) (id x : Int) : x ∈ aboveP l id ↔ x ∈ bfsA l id := (List.mergeSort_perm _ _).mem_iff
theorem bfsA_closed (l : List Au) (id x : Int) (hx : x = id ∨ x ∈ bfsA l id) : ∀ z ∈ upsOf l x, z ∈ bfsA l id :=
  bfs_closed l id _ [] [id] (BfsI.start l id) (fun y hy => by
    rcases hy with rfl | hy
    · exact .inl (by simp)
    · cases hy) x hx
theorem above_up {l : List Au} {id z : Int} (h : z ∈ upsOf l id) : z ∈ aboveP l id := (mem_aboveP _ _ _).2 (bfsA_closed l id id (.inl rfl) z h)
theorem above_trans {l : List Au} {x y z : Int} (h1 : y ∈ aboveP l x) (h2 : z ∈ aboveP l y) : z ∈ aboveP l x := by
  rw [mem_aboveP] at *
  refine bfs_least l (fun z => z ∈ bfsA l x) (fun u hu => bfsA_closed l x u (.inr hu)) _ [] [y] (by simp) (fun u hu => ?_) z h2
  rw [List.mem_singleton.1 hu]
  exact bfsA_closed l x y (.inr h1)
theorem mem_below {l : List Au} {id x : Int} : x ∈ belowP l id ↔ ∃ a ∈ l, id ∈ aboveP l a.id ∧ a.id = x := by
  unfold belowP
  simp only [List.mem_map, List.mem_filter, decide_eq_true_eq]
  exact ⟨fun ⟨a, ⟨h1, h2⟩, h3⟩ => ⟨a, h1, h2, h3⟩, fun ⟨a, h1, h2, h3⟩ => ⟨a, ⟨h1, h2⟩, h3⟩⟩
theorem mem_below_at {l : List Au} {id : Int} {a : Au} (ha : a ∈ l) : a.id ∈ belowP l id ↔ id ∈ aboveP l a.id := by
  rw [mem_below]
  exact ⟨fun ⟨b, _, h2, h3⟩ => h3 ▸ h2, fun h => ⟨a, ha, h, rfl⟩⟩
theorem loop_no {l : List Au} (h : loopP l = false) {a : Au} (ha : a ∈ l) : a.id ∉ aboveP l a.id := fun hc => by
  have : loopP l = true := List.any_eq_true.2 ⟨a, ha, by simpa using hc⟩
  rw [this] at h; cases h
end Go.Fc

/- What finding leads to. Plain Lean; no condition. -/
namespace Go.Fc
open Go Go.Ax Go.Tx Go.Proofs
theorem rightP_ok {l : List Au} (h : rightP l = 0) : l.length ≤ 64 ∧ formsE none l = 0 ∧ twiceA l = false ∧ firstE (above1 l) l = 0 ∧ loopP l = false := by
  unfold rightP at h
  split at h
  · omega
  · next h0 =>
    split at h
    · next h1 =>
      split at h
      · omega
      · next h2 =>
        unfold checkP at h
        split at h
        · next h3 =>
          split at h
          · omega
          · next h4 => exact ⟨by omega, h1, by simpa using h2, h3, by simpa using h4⟩
        · next h3 => exact absurd h h3
    · next h1 => exact absurd h h1
theorem twice_nodup {l : List Au} (h : twiceA l = false) : (keysA l).Nodup := by
  unfold twiceA at h
  simpa using h
theorem keys_one {l : List Au} (h : (keysA l).Nodup) {i j : Nat} (hi : i < l.length) (hj : j < l.length) {s t : Str} (hs : s ∈ headsA l[i]) (ht : t ∈ headsA l[j]) (hn : normF s = normF t) (hk : l[i].kind = l[j].kind) : i = j := by
  unfold keysA List.Nodup at h
  rw [List.pairwise_flatMap] at h
  have h2 := List.pairwise_iff_getElem.1 h.2
  rcases Nat.lt_trichotomy i j with e | e | e
  · exact absurd (by rw [hn, hk]) (h2 i j hi hj e (normF s, l[i].kind) (List.mem_map.2 ⟨s, hs, rfl⟩) (normF t, l[j].kind) (List.mem_map.2 ⟨t, ht, rfl⟩))
  · exact e
  · exact absurd (by rw [hn, hk]) (h2 j i hj hi e (normF t, l[j].kind) (List.mem_map.2 ⟨t, ht, rfl⟩) (normF s, l[i].kind) (List.mem_map.2 ⟨s, hs, rfl⟩))
theorem has_iff {l : List Au} {p : Str × Int} : mhas (mpOf l) (kd p) = decide (p ∈ keysA l) := by
  have := mpOf_keys l l.length (Nat.le_refl _)
  rw [List.take_length] at this
  exact has_kd _ _ p this
theorem mem_keys {l : List Au} {p : Str × Int} : p ∈ keysA l ↔ ∃ a ∈ l, ∃ s ∈ headsA a, normF s = p.1 ∧ a.kind = p.2 := by
  unfold keysA
  simp only [List.mem_flatMap, List.mem_map]
  exact ⟨fun ⟨a, h1, s, h2, h3⟩ => ⟨a, h1, s, h2, congrArg Prod.fst h3, congrArg Prod.snd h3⟩, fun ⟨a, h1, s, h2, h3, h4⟩ => ⟨a, h1, s, h2, Prod.ext h3 h4⟩⟩
theorem findP_at {l : List Au} (h : (keysA l).Nodup) {a : Au} (ha : a ∈ l) {s t : Str} (ht : t ∈ headsA a) (hn : normF t = normF s) (h0 : normF s ≠ []) : findP l a.kind s = (a.id, decide (normF a.hd = normF s), true) := by
  obtain ⟨i, hi, rfl⟩ := List.mem_iff_getElem.1 ha
  have hk : mhas (mpOf l) (kd (normF s, l[i].kind)) = true := by
    rw [has_iff, decide_eq_true (mem_keys.2 ⟨l[i], ha, t, ht, hn, rfl⟩)]
  obtain ⟨j, hj, hv, hkd, u, hu, hun⟩ := mpOf_mem (mget_mem _ _ hk)
  have hij : j = i := keys_one h hj hi hu ht (by rw [hun, hn]) hkd
  subst hij
  unfold findP
  rw [if_neg (by simp [h0, hk]), hv, Int.toNat_natCast, List.getElem?_eq_getElem hi]
theorem findP_no {l : List Au} {kind : Int} {s : Str} (h : ∀ a ∈ l, a.kind = kind → ∀ t ∈ headsA a, normF t ≠ normF s) : findP l kind s = (0, false, false) := by
  have hm : mhas (mpOf l) (kd (normF s, kind)) = false := by
    rw [has_iff]
    exact decide_eq_false fun hc => by
      obtain ⟨a, h1, t, h2, h3, h4⟩ := mem_keys.1 hc
      exact h a h1 h4 t h2 h3
  unfold findP
  rw [if_pos (.inr hm)]
theorem findK_pos {kind : Int} {n : Str} {a : Au} : ∀ (hs : List Str) (k : Nat), 0 < k → findK kind n a k hs = if a.kind = kind ∧ (hs.any fun t => decide (normF t = n)) = true then some (a.id, false, true) else none
  | [], k, _ => by simp [findK]
  | s :: r, k, h => by
    unfold findK
    by_cases e : a.kind = kind
    · by_cases e2 : normF s = n
      · rw [if_pos ⟨e, e2⟩, if_pos ⟨e, by simp [e2]⟩, decide_eq_false (by omega)]
      · rw [if_neg fun z => e2 z.2, findK_pos r (k + 1) (by omega), List.any_cons, decide_eq_false e2, Bool.false_or]
    · rw [if_neg fun z => e z.1, findK_pos r (k + 1) (by omega), if_neg fun z => e z.1, if_neg fun z => e z.1]
theorem findK_heads {kind : Int} {n : Str} {a : Au} : findK kind n a 0 (headsA a) = if a.kind = kind ∧ ((headsA a).any fun t => decide (normF t = n)) = true then some (a.id, decide (normF a.hd = n), true) else none := by
  unfold headsA findK
  by_cases e : a.kind = kind
  · by_cases e2 : normF a.hd = n
    · rw [if_pos ⟨e, e2⟩, if_pos ⟨e, by simp [e2]⟩, decide_eq_true e2]; rfl
    · rw [if_neg fun z => e2 z.2, findK_pos a.see 1 (by omega), List.any_cons, decide_eq_false e2, Bool.false_or]
  · rw [if_neg fun z => e z.1, findK_pos a.see 1 (by omega), if_neg fun z => e z.1, if_neg fun z => e z.1]
theorem findS_at {kind : Int} {n : Str} : ∀ (l : List Au), (findS kind n l = (0, false, false) ∧ ∀ a ∈ l, a.kind = kind → ∀ t ∈ headsA a, normF t ≠ n) ∨ ∃ a ∈ l, a.kind = kind ∧ (∃ t ∈ headsA a, normF t = n) ∧ findS kind n l = (a.id, decide (normF a.hd = n), true)
  | [] => .inl ⟨rfl, by simp⟩
  | a :: r => by
    unfold findS
    rw [findK_heads]
    by_cases e : a.kind = kind ∧ ((headsA a).any fun t => decide (normF t = n)) = true
    · rw [if_pos e]
      refine .inr ⟨a, by simp, e.1, ?_, rfl⟩
      obtain ⟨t, h1, h2⟩ := List.any_eq_true.1 e.2
      exact ⟨t, h1, by simpa using h2⟩
    · rw [if_neg e]
      rcases findS_at r with ⟨h1, h2⟩ | ⟨b, h1, h2⟩
      · refine .inl ⟨h1, fun b hb hk t ht hn => ?_⟩
        rcases List.mem_cons.1 hb with rfl | hb
        · exact e ⟨hk, List.any_eq_true.2 ⟨t, ht, by simpa using hn⟩⟩
        · exact h2 b hb hk t ht hn
      · exact .inr ⟨b, by simp [h1], h2⟩
theorem find_eq {l : List Au} (h : (keysA l).Nodup) (kind : Int) (s : Str) : findP l kind s = findR l kind s := by
  unfold findR
  split
  · next e => unfold findP; rw [if_pos (.inl e)]
  · next e =>
    rcases findS_at (kind := kind) (n := normF s) l with ⟨h1, h2⟩ | ⟨a, h1, h2, ⟨t, h3, h4⟩, h5⟩
    · rw [h1, findP_no h2]
    · rw [h5, ← h2, findP_at h h1 h3 h4 e]
theorem lead {l : List Au} (h : rightP l = 0) {a : Au} (ha : a ∈ l) {kind : Int} (hk : a.kind = kind) {s t : Str} (ht : t ∈ headsA a) (hn : normF t = normF s) : (findP l kind s).1 = a.id ∧ (findP l kind s).2.2 = true := by
  obtain ⟨_, h1, h2, _, _⟩ := rightP_ok h
  have h3 := (shapeA_ok (formsE_ok h1 a ha).1).2.2 t ht
  rw [← hk, findP_at (twice_nodup h2) ha ht hn (by rw [← hn]; exact h3.2.2)]
  exact ⟨rfl, rfl⟩
theorem leads_true {l : List Au} (h : rightP l = 0) {a b : Au} (ha : a ∈ l) {id : Int} (hid : a.id = id) (hk : a.kind = b.kind) (hh : ∀ s ∈ headsA b, ∃ t ∈ headsA a, normF t = normF s) : leadsP l b id = true := by
  unfold leadsP
  rw [List.all_eq_true]
  intro s hs
  obtain ⟨t, ht, hn⟩ := hh s hs
  obtain ⟨h1, h2⟩ := lead h ha hk ht hn
  rw [h1, h2, decide_eq_true hid]; rfl
end Go.Fc

/- What changes of a file keep. Plain Lean; no condition. -/
namespace Go.Fc
open Go Go.Ax Go.Tx Go.Proofs
theorem formsE_asc : ∀ {l : List Au} {p : Option Int}, formsE p l = 0 → (∀ q, p = some q → ∀ a ∈ l, q < a.id) ∧ l.Pairwise fun a b => a.id < b.id
  | [], _, _ => ⟨by simp, .nil⟩
  | b :: r, p, h => by
    have h : (if b.id < 1 ∨ 9999 < b.id then 2 else if leP p b.id = true then 7 else if shapeA b = 0 then formsE (some b.id) r else shapeA b) = 0 := h
    by_cases h1 : b.id < 1 ∨ 9999 < b.id
    · rw [if_pos h1] at h; omega
    rw [if_neg h1] at h
    by_cases h2 : leP p b.id = true
    · rw [if_pos h2] at h; omega
    rw [if_neg h2] at h
    by_cases h3 : shapeA b = 0
    · rw [if_pos h3] at h
      obtain ⟨k1, k2⟩ := formsE_asc h
      refine ⟨fun q hq a ha => ?_, List.pairwise_cons.2 ⟨k1 b.id rfl, k2⟩⟩
      subst hq
      have h4 : q < b.id := by
        unfold leP at h2
        simpa using h2
      rcases List.mem_cons.1 ha with rfl | ha
      · exact h4
      · have := k1 b.id rfl a ha; omega
    · rw [if_neg h3] at h; exact absurd h h3
theorem asc_inj {l : List Au} (h : l.Pairwise fun a b => a.id < b.id) {a b : Au} (ha : a ∈ l) (hb : b ∈ l) (e : a.id = b.id) : a = b := by
  obtain ⟨i, hi, rfl⟩ := List.mem_iff_getElem.1 ha
  obtain ⟨j, hj, rfl⟩ := List.mem_iff_getElem.1 hb
  have h2 := List.pairwise_iff_getElem.1 h
  rcases Nat.lt_trichotomy i j with k | k | k
  · have := h2 i j hi hj k; omega
  · subst k; rfl
  · have := h2 j i hj hi k; omega
theorem right_asc {l : List Au} (h : rightP l = 0) : l.Pairwise fun a b => a.id < b.id := (formsE_asc (rightP_ok h).2.1).2
theorem getA_of {l : List Au} (h : rightP l = 0) {a : Au} (ha : a ∈ l) : getA l a.id = some a := by
  cases hg : getA l a.id with
  | none =>
    unfold getA at hg
    exact absurd (List.find?_eq_none.1 hg a ha) (by simp)
  | some b =>
    obtain ⟨h1, h2⟩ := getA_mem hg
    rw [asc_inj (right_asc h) h1 ha h2]
theorem above1_all {l : List Au} {b : Au} (h : above1 l b = 0) : ∀ z ∈ b.above, ∃ c, getA l z = some c ∧ c.kind = b.kind := fun z hz => by
  unfold above1 at h
  split at h
  · omega
  split at h
  · omega
  split at h
  · next h3 =>
    have h4 := List.all_eq_true.1 h3 z hz
    unfold sameK at h4
    cases hg : getA l z with
    | none => rw [hg] at h4; cases h4
    | some c => rw [hg] at h4; exact ⟨c, rfl, by simpa using h4⟩
  · omega
theorem fI_mid {α : Type} (p : α → Bool) : ∀ (u : List α) (k : Nat) (a : α) (v : List α), (∀ b ∈ u, p b = false) → p a = true → fI p k (u ++ a :: v) = ((k + u.length : Nat) : Int)
  | [], k, a, v, _, h => by rw [List.nil_append, fI, if_pos h]; rfl
  | b :: u, k, a, v, h, ha => by
    rw [List.cons_append, fI, if_neg (by rw [h b (by simp)]; simp), fI_mid p u (k + 1) a v (fun x hx => h x (by simp [hx])) ha, List.length_cons]
    congr 1; omega
theorem place_none {l : List Au} {id : Int} : placeP l id < 0 ↔ getA l id = none := by
  obtain ⟨h1, h2⟩ := fI_get l id
  unfold placeP
  cases hg : getA l id with
  | none => rw [h1 hg]; simp
  | some a =>
    obtain ⟨i, hi, e, _⟩ := h2 a hg
    rw [e]
    simp
theorem place_at {l : List Au} {id : Int} {a : Au} (h : getA l id = some a) : ∃ i : Nat, ∃ hi : i < l.length, placeP l id = i ∧ l[i] = a := (fI_get l id).2 a h
theorem chk_ok {l : List Au} (h : (chkP l).2 = 0) : chkP l = (l, 0) ∧ rightP l = 0 := by
  have h : rightP l = 0 := h
  unfold chkP
  rw [if_pos h, h]
  exact ⟨rfl, rfl⟩
theorem add_remove {l : List Au} {a : Au} (hr : rightP l = 0) (h : (addF l a).2 = 0) : ∃ x, addF l a = (x, 0) ∧ rightP x = 0 ∧ removeP x a.id = (l, 0) := by
  unfold addF at *
  by_cases hp : 0 ≤ placeP l a.id
  · rw [if_pos hp] at h; exact absurd h (by decide)
  rw [if_neg hp] at *
  have hno : getA l a.id = none := place_none.1 (by omega)
  obtain ⟨e1, e2⟩ := chk_ok h
  refine ⟨_, e1, e2, ?_⟩
  have hlow : lowA l a.id ≤ l.length := List.findIdx_le_length
  have ex : insL l a = l.take (lowA l a.id) ++ a :: l.drop (lowA l a.id) := by unfold insL; simp
  have hperm : (insL l a).Perm (a :: l) := by
    rw [ex]
    refine List.perm_middle.trans ?_
    rw [List.take_append_drop]
  have hne : ∀ b ∈ l, b.id ≠ a.id := fun b hb e => by
    unfold getA at hno
    exact absurd (List.find?_eq_none.1 hno b hb) (by simp [e])
  have hpl : placeP (insL l a) a.id = (lowA l a.id : Nat) := by
    unfold placeP
    rw [ex, fI_mid _ _ 0 a _ (fun b hb => decide_eq_false (hne b (List.mem_of_mem_take hb))) (decide_eq_true rfl), List.length_take, Nat.min_eq_left hlow, Nat.zero_add]
  have hany : ((insL l a).any fun b => decide (a.id ∈ b.above)) = false := by
    rw [List.any_eq_false]
    intro b hb hc
    have hc : a.id ∈ b.above := by simpa using hc
    have hx := rightP_ok e2
    have ha : a ∈ insL l a := hperm.mem_iff.2 (by simp)
    rcases List.mem_cons.1 (hperm.mem_iff.1 hb) with rfl | hbl
    · refine loop_no hx.2.2.2.2 ha (above_up ?_)
      unfold upsOf
      rw [getA_of e2 ha]
      exact hc
    · obtain ⟨c, hg, _⟩ := above1_all (firstE_ok (rightP_ok hr).2.2.2.1 b hbl) _ hc
      rw [hno] at hg; cases hg
  unfold removeP
  rw [hpl, if_neg (by omega), hany, if_neg (by simp), Int.toNat_natCast]
  refine Prod.ext ?_ rfl
  show cutL (insL l a) (lowA l a.id) = l
  unfold cutL
  have hlen : (l.take (lowA l a.id)).length = lowA l a.id := by rw [List.length_take, Nat.min_eq_left hlow]
  rw [ex, List.take_append_of_le_length (by omega), List.take_of_length_le (by omega), List.drop_append, List.drop_eq_nil_of_le (by omega), hlen, Nat.add_sub_cancel_left, List.drop_one, List.tail_cons, List.nil_append, List.take_append_drop]
def renA (s : Str) (a : Au) : Au := { a with hd := s, see := (a.see.filter fun v => !decide (normF v = normF s)) ++ if normF a.hd = normF s then [] else [a.hd] }
def renL (l : List Au) (id : Int) (s : Str) : List Au := l.modify (placeP l id).toNat (renA s)
def renameP (l : List Au) (id : Int) (s : Str) : List Au × Int := if placeP l id < 0 then ([], 9) else chkP (renL l id s)
theorem rename_keeps {l : List Au} {id : Int} {s : Str} (h : (renameP l id s).2 = 0) : ∃ x, renameP l id s = (x, 0) ∧ rightP x = 0 ∧ leadsP x { (getA l id).getD default with see := [] } id = true ∧ ((getA x id).getD default).hd = s := by
  unfold renameP at *
  by_cases hp : placeP l id < 0
  · rw [if_pos hp] at h; exact absurd h (by decide)
  rw [if_neg hp] at *
  obtain ⟨e1, e2⟩ := chk_ok h
  refine ⟨_, e1, e2, ?_⟩
  cases hg : getA l id with
  | none => exact absurd (place_none.2 hg) hp
  | some a =>
    obtain ⟨i, hi, hpi, hia⟩ := place_at hg
    have hid := (getA_mem hg).2
    have hx : renA s a ∈ renL l id s := by
      unfold renL
      rw [hpi, Int.toNat_natCast]
      have hi2 : i < (l.modify i (renA s)).length := by rw [List.length_modify]; exact hi
      have : (l.modify i (renA s))[i] = renA s a := by rw [List.getElem_modify]; simp [hia]
      rw [← this]
      exact List.getElem_mem hi2
    have hgx : getA (renL l id s) id = some (renA s a) := by
      have := getA_of e2 hx
      rw [show (renA s a).id = id from hid] at this
      exact this
    refine ⟨leads_true e2 hx hid rfl fun t ht => ?_, by rw [hgx]; rfl⟩
    have ht : t = a.hd := by simpa [headsA] using ht
    subst ht
    by_cases e : normF a.hd = normF s
    · exact ⟨s, by simp [headsA, renA], e.symm⟩
    · exact ⟨a.hd, by simp [headsA, renA, e], rfl⟩
def turnL (ids : List Int) (self into fr : Int) : List Int :=
  if fr ∈ ids then Lib.compact (((ids.filter fun x => !decide (x = fr)) ++ if self = into then [] else [into]).mergeSort fun x y => decide (x ≤ y)) else ids
def merA (b : Au) (into fr : Int) (x : Au) : Au := { x with see := if x.id = into then x.see ++ headsA b else x.see, above := turnL x.above x.id into fr }
def merL (l : List Au) (b : Au) (into fr : Int) : List Au := (l.filter fun x => !decide (x.id = fr)).map (merA b into fr)
def mergeP (l : List Au) (into fr : Int) : List Au × Int :=
  if (getA l into).isSome = true ∧ (getA l fr).isSome = true then
    if into = fr ∨ ¬ ((getA l into).getD default).kind = ((getA l fr).getD default).kind then ([], 1) else chkP (merL l ((getA l fr).getD default) into fr)
  else ([], 9)
theorem filter_one : ∀ {l : List Au}, (l.Pairwise fun a b => a.id < b.id) → ∀ {b : Au}, b ∈ l → (l.filter fun x => !decide (x.id = b.id)).length + 1 = l.length
  | [], _, b, h => by cases h
  | a :: l, hp, b, h => by
    obtain ⟨h1, h2⟩ := List.pairwise_cons.1 hp
    rcases List.mem_cons.1 h with rfl | h
    · rw [List.filter_cons_of_neg (by simp), List.filter_eq_self.2 fun x hx => by have := h1 x hx; simp; omega]; rfl
    · have := h1 b h
      rw [List.filter_cons_of_pos (by simp; omega), List.length_cons, filter_one h2 h]; rfl
theorem merge_keeps {l : List Au} {into fr : Int} (hr : rightP l = 0) (h : (mergeP l into fr).2 = 0) : ∃ x, mergeP l into fr = (x, 0) ∧ rightP x = 0 ∧ x.length + 1 = l.length ∧ leadsP x ((getA l into).getD default) into = true ∧ leadsP x ((getA l fr).getD default) into = true := by
  unfold mergeP at *
  by_cases hs : (getA l into).isSome = true ∧ (getA l fr).isSome = true
  · rw [if_pos hs] at *
    obtain ⟨a, ha⟩ := Option.isSome_iff_exists.1 hs.1
    obtain ⟨b, hb⟩ := Option.isSome_iff_exists.1 hs.2
    rw [ha, hb] at h ⊢
    simp only [Option.getD_some] at h ⊢
    by_cases hk : into = fr ∨ ¬ a.kind = b.kind
    · rw [if_pos hk] at h; exact absurd h (by decide)
    rw [if_neg hk] at *
    have hne : into ≠ fr := fun e => hk (.inl e)
    have hkk : a.kind = b.kind := Classical.not_not.1 fun e => hk (.inr e)
    obtain ⟨e1, e2⟩ := chk_ok h
    obtain ⟨ha1, ha2⟩ := getA_mem ha
    obtain ⟨hb1, hb2⟩ := getA_mem hb
    have hx : merA b into fr a ∈ merL l b into fr := List.mem_map.2 ⟨a, List.mem_filter.2 ⟨ha1, by simp [ha2, hne]⟩, rfl⟩
    have hsee : (merA b into fr a).see = a.see ++ headsA b := by unfold merA; simp only; rw [if_pos ha2]
    have hh : ∀ s, s ∈ headsA a ∨ s ∈ headsA b → ∃ t ∈ headsA (merA b into fr a), normF t = normF s := fun s hs => ⟨s, by
      unfold headsA
      rw [hsee]
      show s ∈ a.hd :: (a.see ++ headsA b)
      rcases hs with hs | hs
      · unfold headsA at hs
        rcases List.mem_cons.1 hs with rfl | hs
        · simp
        · simp [hs]
      · simp [hs], rfl⟩
    refine ⟨_, e1, e2, ?_, leads_true e2 hx ha2 rfl fun s hs => hh s (.inl hs), leads_true e2 hx ha2 hkk fun s hs => hh s (.inr hs)⟩
    unfold merL
    rw [List.length_map, ← hb2]
    exact filter_one (right_asc hr) hb1
  · rw [if_neg hs] at h; exact absurd h (by decide)
theorem set_keeps {l : List Au} {id : Int} {ab : List Int} (h : (setAboveP l id ab).2 = 0) : ∃ x, setAboveP l id ab = (x, 0) ∧ rightP x = 0 := by
  unfold setAboveP at *
  by_cases hp : placeP l id < 0
  · rw [if_pos hp] at h; exact absurd h (by decide)
  rw [if_neg hp] at *
  obtain ⟨e1, e2⟩ := chk_ok h
  exact ⟨_, e1, e2⟩
end Go.Fc
