/- Part of a proof about this program; no condition of its own. -/
import Derived.Test.YtanbfhnmklhjiaaGreatDoorFcC
import Derived.Test.YtanbfhnmklhjiaaGreatDoorOrB
set_option linter.all false
/- Counts of a facet, and the narrowing, in plain data. No condition. -/
namespace Go.Fc
open Go Go.Ax Go.Or Go.Tx
/-- A record that a facet may be asked of. -/
structure Rec.ok (r : Rec) : Prop where
  fit : r.fit
  cd : ∀ f ∈ r.fields, ∀ s ∈ f.subs, 0 ≤ s.code ∧ s.code ≤ 255
  vl : ∀ kind, ∀ v ∈ valuesF kind r, v.length ≤ 2000000000
def selR (l : List Rec) (ids : List Int) : List Rec := l.filter fun r => decide (r.id ∈ ids)
def vsF (kind : Int) (l : List Rec) : List Str := l.flatMap (valuesF kind)
def cntR (kind : Int) (l : List Rec) (v : Str) : Int := (l.countP fun r => decide (v ∈ valuesF kind r) : Nat)
def countF (l : List Rec) (ids : List Int) (kind : Int) : List Bk := (putsS (vsF kind (selR l ids))).map fun v => ⟨v, cntR kind (selR l ids) v⟩
def stepN (l : List Rec) (kind : Int) (value : Str) (out : List Int) (id : Int) : List Int :=
  if id ∈ out then out else match l.find? (fun r => decide (r.id = id)) with
    | some r => if value ∈ valuesF kind r then out ++ [id] else out
    | none => out
def narrowF (l : List Rec) (ids : List Int) (kind : Int) (value : Str) : List Int := ids.foldl (stepN l kind value) []
theorem stepN_len (l : List Rec) (kind : Int) (value : Str) (out : List Int) (id : Int) : (stepN l kind value out id).length ≤ out.length + 1 := by
  unfold stepN
  split
  · omega
  · split
    · split <;> simp
    · omega
theorem narrow_len (l : List Rec) (kind : Int) (value : Str) : ∀ (ids out : List Int), (ids.foldl (stepN l kind value) out).length ≤ out.length + ids.length
  | [], out => by simp
  | i :: r, out => by
    have h1 := stepN_len l kind value out i
    have h2 := narrow_len l kind value r (stepN l kind value out i)
    simp only [List.foldl_cons, List.length_cons]; omega
theorem narrow_next (l : List Rec) (kind : Int) (value : Str) {ids : List Int} {k : Nat} (h : k < ids.length) : narrowF l (ids.take (k + 1)) kind value = stepN l kind value (narrowF l (ids.take k) kind value) ids[k] := by
  unfold narrowF
  rw [take_next h, List.foldl_append]; rfl
theorem values_len (kind : Int) (r : Rec) (hr : r.fit) : (valuesF kind r).length ≤ 2001 := by
  refine Nat.le_trans (putsS_len _) ?_
  unfold rawV
  split
  · simp
  · split
    · split <;> simp
    · split
      · simp
      · have := raws_len kind r.fields
        have := hr.nf
        omega
theorem vs_len (kind : Int) : ∀ (l : List Rec), (∀ r ∈ l, r.fit) → (vsF kind l).length ≤ 2001 * l.length
  | [], _ => by simp [vsF]
  | r :: t, h => by
    have h1 := values_len kind r (h r (List.mem_cons_self ..))
    have h2 := vs_len kind t (fun x hx => h x (List.mem_cons_of_mem _ hx))
    unfold vsF at *
    rw [List.flatMap_cons, List.length_append, List.length_cons]
    omega
theorem asc_nodup {l : List Str} (h : Asc ltS l) : l.Nodup := by
  refine List.Pairwise.imp ?_ h
  intro a b h e
  subst e
  rw [sto_S.irr] at h; cases h
theorem cnt_vs (kind : Int) (v : Str) : ∀ l : List Rec, ((vsF kind l).count v : Int) = cntR kind l v
  | [] => rfl
  | r :: t => by
    have ih := cnt_vs kind v t
    unfold vsF cntR at *
    rw [List.flatMap_cons, List.count_append, List.countP_cons]
    have hn := asc_nodup (putsS_spec (rawV kind r)).1
    have e : (valuesF kind r).count v = if v ∈ valuesF kind r then 1 else 0 := by
      unfold valuesF
      rw [hn.count]
    rw [e]
    by_cases h : v ∈ valuesF kind r
    · rw [if_pos h]; simp [h]; omega
    · rw [if_neg h]; simp [h]; omega
theorem cnt_bd (kind : Int) (l : List Rec) (v : Str) : 0 ≤ cntR kind l v ∧ cntR kind l v ≤ l.length := by
  unfold cntR
  have := List.countP_le_length (p := fun r => decide (v ∈ valuesF kind r)) (l := l)
  omega
/-- Whatever order the entries of the map come in, sorted they are the counts. -/
theorem count_sorted (kind : Int) (l : List Rec) (o s : List Bk) (ho : o.Perm ((ddS (vsF kind l)).map fun v => ⟨v, ((vsF kind l).count v : Int)⟩)) (hp : s.Perm o) (hs : s.Pairwise fun x y => ltS y.val x.val = false) : s = (putsS (vsF kind l)).map fun v => ⟨v, cntR kind l v⟩ := by
  obtain ⟨h1, h2, _⟩ := cmS_spec (vsF kind l)
  have hsp := hp.trans ho
  have hne : ∀ v ∈ vsF kind l, v ≠ [] := fun v hv => by
    unfold vsF at hv
    obtain ⟨r, _, hv⟩ := List.mem_flatMap.1 hv
    exact (((putsS_spec (rawV kind r)).2 v).1 hv).1
  have hc : ∀ b ∈ s, b = ⟨b.val, cntR kind l b.val⟩ := fun b hb => by
    obtain ⟨v, _, rfl⟩ := List.mem_map.1 (hsp.mem_iff.1 hb)
    simp only [cnt_vs]
  have hv : s.map Bk.val = putsS (vsF kind l) := by
    have hpm : (s.map Bk.val).Perm (ddS (vsF kind l)) := by
      have := hsp.map Bk.val
      rw [List.map_map] at this
      have e : ((Bk.val ∘ fun v => (⟨v, ((vsF kind l).count v : Int)⟩ : Bk))) = id := rfl
      rw [e, List.map_id] at this
      exact this
    obtain ⟨p1, p2⟩ := putsS_spec (vsF kind l)
    refine asc_eq sto_S ?_ p1 fun v => ?_
    · have hnd : (s.map Bk.val).Nodup := hpm.nodup_iff.2 h1
      have hle : (s.map Bk.val).Pairwise fun x y => ltS y x = false := by
        rw [List.pairwise_map]; exact hs
      unfold Asc
      have hb := List.pairwise_and_iff.2 ⟨hnd, hle⟩
      refine hb.imp fun {a b} h => ?_
      rcases h with ⟨h3, h4⟩
      cases h5 : ltS a b with
      | true => rfl
      | false => exact absurd (sto_S.tri a b h5 h4) h3
    · rw [hpm.mem_iff, h2, p2]
      exact ⟨fun h => ⟨hne v h, h⟩, fun h => h.2⟩
  rw [← hv, List.map_map]
  exact (List.map_id s).symm.trans (List.map_congr_left fun b hb => hc b hb)
end Go.Fc
