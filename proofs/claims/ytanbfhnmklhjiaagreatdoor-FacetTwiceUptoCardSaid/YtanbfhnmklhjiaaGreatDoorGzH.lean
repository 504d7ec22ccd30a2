/- Part of a proof about this program; no condition of its own. -/
import Derived.Test.YtanbfhnmklhjiaaGreatDoorGzE
import Derived.Test.YtanbfhnmklhjiaaGreatDoorGxM
import Derived.Test.YtanbfhnmklhjiaaGreatDoorFcC
set_option linter.all false
/- Counting of texts by a map, in plain lists. No condition. -/
namespace Go.Or
open Go Go.Ax
def kS (v : List UInt8) : List KD := [.str v]
theorem kS_inj {a b : List UInt8} : (kS a = kS b) ↔ a = b := by unfold kS; simp
def addM (m : Mp) (v : List UInt8) : Mp := mput m (kS v) (mget m (kS v) + 1)
def cmS (vs : List (List UInt8)) : Mp := vs.foldl addM []
def addD (o : List (List UInt8)) (v : List UInt8) : List (List UInt8) := if v ∈ o then o else o ++ [v]
def ddS (vs : List (List UInt8)) : List (List UInt8) := vs.foldl addD []
def mpOf (ds : List (List UInt8)) (c : List UInt8 → Int) : Mp := ds.map fun v => (kS v, c v)
theorem mhas_of (ds : List (List UInt8)) (c : List UInt8 → Int) (x : List UInt8) : mhas (mpOf ds c) (kS x) = decide (x ∈ ds) := by
  unfold mhas mpOf
  rw [List.any_map]
  induction ds with
  | nil => rfl
  | cons y r ih =>
    rw [List.any_cons, ih]
    by_cases h : y = x
    · subst h; simp
    · have h2 : ¬ x = y := fun e => h e.symm
      simp [kS_inj, h, h2]
theorem mget_of {ds : List (List UInt8)} {c : List UInt8 → Int} {x : List UInt8} (h : x ∈ ds) : mget (mpOf ds c) (kS x) = c x := by
  induction ds with
  | nil => cases h
  | cons y r ih =>
    show mget ((kS y, c y) :: mpOf r c) (kS x) = _
    unfold mget
    by_cases e : y = x
    · subst e; rw [if_pos rfl]
    · rw [if_neg (fun h => e (kS_inj.1 h))]
      exact ih (by rcases List.mem_cons.1 h with h | h
                   · exact absurd h.symm e
                   · exact h)
theorem mset_of {c : List UInt8 → Int} {x : List UInt8} (n : Int) : ∀ {ds : List (List UInt8)}, ds.Nodup → x ∈ ds → mset (mpOf ds c) (midx (mpOf ds c) (kS x)) n = mpOf ds (fun v => if v = x then n else c v)
  | [], _, h => by cases h
  | y :: r, hn, h => by
    obtain ⟨h1, h2⟩ := List.nodup_cons.1 hn
    show mset ((kS y, c y) :: mpOf r c) (midx ((kS y, c y) :: mpOf r c) (kS x)) n = (kS y, if y = x then n else c y) :: mpOf r (fun v => if v = x then n else c v)
    unfold midx
    by_cases e : y = x
    · subst e
      rw [if_pos rfl, if_pos rfl]
      show (kS y, n) :: mpOf r c = _
      congr 1
      unfold mpOf
      refine List.map_congr_left fun v hv => ?_
      have : v ≠ y := fun e => h1 (by rw [← e]; exact hv)
      simp only [if_neg this]
    · rw [if_neg (fun h => e (kS_inj.1 h)), if_neg e]
      have hx : x ∈ r := by rcases List.mem_cons.1 h with h | h
                            · exact absurd h.symm e
                            · exact h
      show (kS y, c y) :: mset (mpOf r c) (midx (mpOf r c) (kS x)) n = _
      rw [mset_of n h2 hx]
theorem addM_of {ds : List (List UInt8)} {c : List UInt8 → Int} {x : List UInt8} (hn : ds.Nodup) (h0 : ∀ v, v ∉ ds → c v = 0) : addM (mpOf ds c) x = mpOf (addD ds x) (fun v => if v = x then c x + 1 else c v) := by
  unfold addM addD
  by_cases h : x ∈ ds
  · rw [if_pos h, mget_of h]
    unfold mput mpre
    rw [mhas_of, decide_eq_true h, if_pos rfl, mset_of _ hn h]
  · have hh : mhas (mpOf ds c) (kS x) = false := by rw [mhas_of, decide_eq_false h]
    rw [if_neg h, (mget_none hh).1]
    unfold mput mpre
    rw [hh, if_neg (by simp), (mget_none hh).2]
    unfold mset
    have e1 : mpOf (ds ++ [x]) (fun v => if v = x then c x + 1 else c v) = mpOf ds c ++ [(kS x, 0 + 1)] := by
      unfold mpOf
      rw [List.map_append]
      congr 1
      · refine List.map_congr_left fun v hv => ?_
        have : v ≠ x := fun e => h (by rw [← e]; exact hv)
        simp only [if_neg this]
      · simp [h0 x h]
    rw [e1]
    apply List.ext_getElem?
    intro j
    rw [List.getElem?_modify]
    rcases Nat.lt_trichotomy j (mpOf ds c).length with hj | hj | hj
    · rw [List.getElem?_append_left hj, List.getElem?_append_left hj]
      have : (mpOf ds c).length ≠ j := by omega
      simp [this]
    · rw [List.getElem?_append_right (by omega), List.getElem?_append_right (by omega), hj]
      simp
    · rw [List.getElem?_eq_none (by simp; omega), List.getElem?_eq_none (by simp; omega)]; rfl
theorem addD_nodup {o : List (List UInt8)} (h : o.Nodup) (v : List UInt8) : (addD o v).Nodup ∧ ∀ x, x ∈ addD o v ↔ (x ∈ o ∨ x = v) := by
  unfold addD
  by_cases hv : v ∈ o
  · rw [if_pos hv]
    exact ⟨h, fun x => ⟨.inl, fun | .inl h => h | .inr h => h ▸ hv⟩⟩
  · rw [if_neg hv]
    refine ⟨List.nodup_append.2 ⟨h, by simp, fun a ha b hb => ?_⟩, fun x => by simp⟩
    rw [List.mem_singleton.1 hb]
    exact fun e => hv (e ▸ ha)
theorem cmS_spec (vs : List (List UInt8)) : (ddS vs).Nodup ∧ (∀ x, x ∈ ddS vs ↔ x ∈ vs) ∧ cmS vs = mpOf (ddS vs) (fun v => (vs.count v : Int)) := by
  have key : ∀ (xs vs o : List (List UInt8)), o.Nodup → (∀ x, x ∈ o ↔ x ∈ vs) → (xs.foldl addD o).Nodup ∧ (∀ x, x ∈ xs.foldl addD o ↔ x ∈ vs ++ xs) ∧ xs.foldl addM (mpOf o fun v => (vs.count v : Int)) = mpOf (xs.foldl addD o) (fun v => ((vs ++ xs).count v : Int)) := by
    intro xs
    induction xs with
    | nil => intro vs o h1 h2; simpa using ⟨h1, h2⟩
    | cons x r ih =>
      intro vs o h1 h2
      obtain ⟨a1, a2⟩ := addD_nodup h1 x
      have h3 := addM_of (c := fun v => (vs.count v : Int)) (x := x) h1 (fun v hv => by
        have : v ∉ vs := fun h => hv ((h2 v).2 h)
        simp [List.count_eq_zero_of_not_mem this])
      have h4 : (fun v => if v = x then (vs.count x : Int) + 1 else (vs.count v : Int)) = fun v => ((vs ++ [x]).count v : Int) := by
        funext v
        rw [List.count_append]
        by_cases e : v = x
        · subst e; simp
        · rw [if_neg e, List.count_singleton, if_neg (by simpa using fun h => e h.symm)]; simp
      have := ih (vs ++ [x]) (addD o x) a1 (fun y => by rw [a2, h2]; simp)
      rw [List.append_assoc] at this
      rw [List.foldl_cons, List.foldl_cons, h3, h4]
      exact this
  have := key vs [] [] (by simp) (by simp)
  simpa [ddS, cmS, mpOf] using this
theorem cmS_next {vs : List (List UInt8)} {k : Nat} (h : k < vs.length) : cmS (vs.take (k + 1)) = addM (cmS (vs.take k)) vs[k] := by
  unfold cmS
  rw [List.take_add_one, List.getElem?_eq_getElem h, List.foldl_append]
  rfl
theorem midx_lt {m : Mp} {k : List KD} : midx m k < (mpre m k).length := by
  unfold mpre
  cases h : mhas m k with
  | false => rw [if_neg (by simp), (mget_none h).2]; simp
  | true =>
    rw [if_pos rfl]
    induction m with
    | nil => cases h
    | cons kv r ih =>
      unfold midx
      by_cases hk : kv.1 = k
      · rw [if_pos hk]; simp
      · rw [if_neg hk]
        have := ih (by unfold mhas at h ⊢; simpa [hk] using h)
        simp only [List.length_cons]; omega
theorem mget_pre (ds : List (List UInt8)) (c : List UInt8 → Int) (x : List UInt8) : mget (mpre (mpOf ds c) (kS x)) (kS x) = mget (mpOf ds c) (kS x) := by
  unfold mpre
  cases h : mhas (mpOf ds c) (kS x) with
  | true => rfl
  | false =>
    rw [if_neg (by simp), (mget_none h).1]
    have hx : x ∉ ds := by rw [mhas_of] at h; exact of_decide_eq_false h
    have e : mpOf ds c ++ [(kS x, (0 : Int))] = mpOf (ds ++ [x]) (fun v => if v = x then 0 else c v) := by
      unfold mpOf
      rw [List.map_append]
      congr 1
      · refine List.map_congr_left fun v hv => ?_
        have : v ≠ x := fun e => hx (by rw [← e]; exact hv)
        simp only [if_neg this]
      · simp
    rw [e, mget_of (by simp), if_pos rfl]
end Go.Or

/- Counts of a facet, and the narrowing, in plain data. No condition. -/
namespace Go.Fc
open Go Go.Ax Go.Or Go.Tx
/-- A record that a facet may be asked of. -/
structure Rec.ok (r : Rec) : Prop where
  fit : r.fit
  cd : ∀ f ∈ r.fields, ∀ s ∈ f.subs, 0 ≤ s.code ∧ s.code ≤ 255
  vl : ∀ kind, ∀ v ∈ valuesF kind r, v.length ≤ 2000000000
def selR (l : List Rec) (ids : List Int) : List Rec := l.filter fun r => decide (r.id ∈ ids)
def vsF (kind : Int) (l : List Rec) : List Str := l.flatMap (valuesF kind)
def cntR (kind : Int) (l : List Rec) (v : Str) : Int := (l.countP fun r => decide (v ∈ valuesF kind r) : Nat)
def countF (l : List Rec) (ids : List Int) (kind : Int) : List Bk := (putsS (vsF kind (selR l ids))).map fun v => ⟨v, cntR kind (selR l ids) v⟩
def stepN (l : List Rec) (kind : Int) (value : Str) (out : List Int) (id : Int) : List Int :=
  if id ∈ out then out else match l.find? (fun r => decide (r.id = id)) with
    | some r => if value ∈ valuesF kind r then out ++ [id] else out
    | none => out
def narrowF (l : List Rec) (ids : List Int) (kind : Int) (value : Str) : List Int := ids.foldl (stepN l kind value) []
theorem stepN_len (l : List Rec) (kind : Int) (value : Str) (out : List Int) (id : Int) : (stepN l kind value out id).length ≤ out.length + 1 := by
  unfold stepN
  split
  · omega
  · split
    · split <;> simp
    · omega
theorem narrow_len (l : List Rec) (kind : Int) (value : Str) : ∀ (ids out : List Int), (ids.foldl (stepN l kind value) out).length ≤ out.length + ids.length
  | [], out => by simp
  | i :: r, out => by
    have h1 := stepN_len l kind value out i
    have h2 := narrow_len l kind value r (stepN l kind value out i)
    simp only [List.foldl_cons, List.length_cons]; omega
theorem narrow_next (l : List Rec) (kind : Int) (value : Str) {ids : List Int} {k : Nat} (h : k < ids.length) : narrowF l (ids.take (k + 1)) kind value = stepN l kind value (narrowF l (ids.take k) kind value) ids[k] := by
  unfold narrowF
  rw [take_next h, List.foldl_append]; rfl
theorem values_len (kind : Int) (r : Rec) (hr : r.fit) : (valuesF kind r).length ≤ 2001 := by
  refine Nat.le_trans (putsS_len _) ?_
  unfold rawV
  split
  · simp
  · split
    · split <;> simp
    · split
      · simp
      · have := raws_len kind r.fields
        have := hr.nf
        omega
theorem vs_len (kind : Int) : ∀ (l : List Rec), (∀ r ∈ l, r.fit) → (vsF kind l).length ≤ 2001 * l.length
  | [], _ => by simp [vsF]
  | r :: t, h => by
    have h1 := values_len kind r (h r (List.mem_cons_self ..))
    have h2 := vs_len kind t (fun x hx => h x (List.mem_cons_of_mem _ hx))
    unfold vsF at *
    rw [List.flatMap_cons, List.length_append, List.length_cons]
    omega
theorem asc_nodup {l : List Str} (h : Asc ltS l) : l.Nodup := by
  refine List.Pairwise.imp ?_ h
  intro a b h e
  subst e
  rw [sto_S.irr] at h; cases h
theorem cnt_vs (kind : Int) (v : Str) : ∀ l : List Rec, ((vsF kind l).count v : Int) = cntR kind l v
  | [] => rfl
  | r :: t => by
    have ih := cnt_vs kind v t
    unfold vsF cntR at *
    rw [List.flatMap_cons, List.count_append, List.countP_cons]
    have hn := asc_nodup (putsS_spec (rawV kind r)).1
    have e : (valuesF kind r).count v = if v ∈ valuesF kind r then 1 else 0 := by
      unfold valuesF
      rw [hn.count]
    rw [e]
    by_cases h : v ∈ valuesF kind r
    · rw [if_pos h]; simp [h]; omega
    · rw [if_neg h]; simp [h]; omega
theorem cnt_bd (kind : Int) (l : List Rec) (v : Str) : 0 ≤ cntR kind l v ∧ cntR kind l v ≤ l.length := by
  unfold cntR
  have := List.countP_le_length (p := fun r => decide (v ∈ valuesF kind r)) (l := l)
  omega
/-- Whatever order the entries of the map come in, sorted they are the counts. -/
theorem count_sorted (kind : Int) (l : List Rec) (o s : List Bk) (ho : o.Perm ((ddS (vsF kind l)).map fun v => ⟨v, ((vsF kind l).count v : Int)⟩)) (hp : s.Perm o) (hs : s.Pairwise fun x y => ltS y.val x.val = false) : s = (putsS (vsF kind l)).map fun v => ⟨v, cntR kind l v⟩ := by
  obtain ⟨h1, h2, _⟩ := cmS_spec (vsF kind l)
  have hsp := hp.trans ho
  have hne : ∀ v ∈ vsF kind l, v ≠ [] := fun v hv => by
    unfold vsF at hv
    obtain ⟨r, _, hv⟩ := List.mem_flatMap.1 hv
    exact (((putsS_spec (rawV kind r)).2 v).1 hv).1
  have hc : ∀ b ∈ s, b = ⟨b.val, cntR kind l b.val⟩ := fun b hb => by
    obtain ⟨v, _, rfl⟩ := List.mem_map.1 (hsp.mem_iff.1 hb)
    simp only [cnt_vs]
  have hv : s.map Bk.val = putsS (vsF kind l) := by
    have hpm : (s.map Bk.val).Perm (ddS (vsF kind l)) := by
      have := hsp.map Bk.val
      rw [List.map_map] at this
      have e : ((Bk.val ∘ fun v => (⟨v, ((vsF kind l).count v : Int)⟩ : Bk))) = id := rfl
      rw [e, List.map_id] at this
      exact this
    obtain ⟨p1, p2⟩ := putsS_spec (vsF kind l)
    refine asc_eq sto_S ?_ p1 fun v => ?_
    · have hnd : (s.map Bk.val).Nodup := hpm.nodup_iff.2 h1
      have hle : (s.map Bk.val).Pairwise fun x y => ltS y x = false := by
        rw [List.pairwise_map]; exact hs
      unfold Asc
      have hb := List.pairwise_and_iff.2 ⟨hnd, hle⟩
      refine hb.imp fun {a b} h => ?_
      rcases h with ⟨h3, h4⟩
      cases h5 : ltS a b with
      | true => rfl
      | false => exact absurd (sto_S.tri a b h5 h4) h3
    · rw [hpm.mem_iff, h2, p2]
      exact ⟨fun h => ⟨hne v h, h⟩, fun h => h.2⟩
  rw [← hv, List.map_map]
  exact (List.map_id s).symm.trans (List.map_congr_left fun b hb => hc b hb)
end Go.Fc
