/- Part of a proof about this program; no condition of its own. -/
import Derived.Test.YtanbfhnmklhjiaaGreatDoorGzI
import Derived.Test.YtanbfhnmklhjiaaGreatDoorZRm
import Derived.Test.YtanbfhnmklhjiaaGreatDoorAxMe
import Derived.Test.YtanbfhnmklhjiaaGreatDoorGxL
set_option linter.all false
/- The counts of a facet: the program. No condition. -/
namespace Go.Proofs
open Go Go.Ax Go.Tx Go.Lib Go.Shelf Go.RowKit Go.Fc
set_option maxRecDepth 100000
set_option maxHeartbeats 0
variable {Γ : List (Nat × List D)}
theorem Tryz.mapT91 : MapT Tryz.prog 91 [.str] := MapT.str (K := 9) (E := 3) (by kernel_rfl) (by kernel_rfl) (by kernel_rfl) Tryz.zeroValue3
@[push_cast] theorem keyAV_kS (v : Str) : keyAV (Or.kS v) = .c (.d (.str v)) := rfl
theorem map_erase {α β : Type} (f : α → β) : ∀ (l : List α) (i : Nat), (l.map f).eraseIdx i = (l.eraseIdx i).map f
  | [], _ => rfl
  | _ :: _, 0 => rfl
  | x :: r, i + 1 => by simp [map_erase f r i]
theorem ddS_len (vs : List Str) : (Or.ddS vs).length ≤ vs.length := by
  have : ∀ (xs o : List Str), (xs.foldl Or.addD o).length ≤ o.length + xs.length := by
    intro xs
    induction xs with
    | nil => intro o; simp
    | cons x r ih =>
      intro o
      have h1 := ih (Or.addD o x)
      have h2 : (Or.addD o x).length ≤ o.length + 1 := by
        unfold Or.addD
        split
        · omega
        · simp
      simp only [List.foldl_cons, List.length_cons]; omega
  have := this vs []
  simpa [Or.ddS] using this
theorem perm_erase {α : Type} : ∀ {l : List α} {i : Nat} (h : i < l.length), l.Perm (l[i] :: l.eraseIdx i)
  | [], _, h => by simp at h
  | _ :: _, 0, _ => List.Perm.refl _
  | x :: r, i + 1, h => by
    have := perm_erase (l := r) (i := i) (by simpa using h)
    exact (this.cons x).trans (List.Perm.swap _ _ _)
theorem mpOf_get (ds : List Str) (c : Str → Int) {i : Nat} (h : i < (Or.mpOf ds c).length) (h' : i < ds.length) : (Or.mpOf ds c)[i] = (Or.kS ds[i], c ds[i]) := List.getElem_map (fun v => (Or.kS v, c v)) (l := ds) (i := i) (h := h)
theorem bk_len {l : List Bk} : ∀ e ∈ l.map Bk.ds, e.length = 2 := fun e he => by
  obtain ⟨x, _, rfl⟩ := List.mem_map.1 he
  rfl
theorem c49 (hΓ : (4, powD) ∈ Γ) (l : List Rec) (ids : List Int) (kind : Int) (hl : l.length ≤ 100) (hi : ids.length ≤ 1000000) (hok : ∀ r ∈ l, r.ok) : AFn Tryz.prog Γ 49 [.c (.d (.lst 5 (l.map Rec.ds))), .c (.d (.lst 1 (ids.map Fc.iD))), .c (.d (.int .i64 kind))] [.fresh 79 2 ((countF l ids kind).map Bk.ds)] := by
  refine AFn.vc [] Tryz.func49 rfl Tryz.mixed (by kernel_rfl) Tryz.ntmps49 Tryz.results49 (by simp) ?_
  push_cast
  have hfit : ∀ k, ∀ r ∈ selR (l.take k) ids, r.fit := fun k r hr => (hok r (List.mem_of_mem_take (List.mem_filter.1 hr).1)).fit
  have hvl : ∀ k, (vsF kind (selR (l.take k) ids)).length ≤ 200100 := fun k => by
    have h1 := vs_len kind _ (hfit k)
    have h2 := sel_len (l.take k) ids
    rw [List.length_take] at h2
    omega
  refine LoopV.cntH Tryz.mixed [1, 2, 7, 16, 17] l.length (fun k => [(18, .c (.d (.int .i64 k)))]) (fun k => [.mp [.str] (Or.cmS (vsF kind (selR (l.take k) ids)))]) (fun _ => True) trivial ?_ (by push_cast; rfl)
  intro k hk _
  push_cast
  refine ⟨fun h => ?_, fun h => ?_⟩
  · have hlt : k < l.length := by omega
    have hn := sel_next ids hlt
    refine ⟨hlt, ?_⟩
    refine CallL.q (c85 ids l[k].id (by omega)) ?_
    push_cast
    refine ⟨fun e => ?_, fun e => ?_⟩
    · rw [if_pos e] at hn
      have h3 := hok _ (List.getElem_mem hlt)
      refine CallL.q (c46 hΓ kind l[k] h3.fit h3.cd) ?_
      push_cast
      have hv := values_len kind l[k] h3.fit
      have hv0 := hvl k
      have hnv : vsF kind (selR (l.take (k + 1)) ids) = vsF kind (selR (l.take k) ids) ++ valuesF kind l[k] := by rw [hn, vs_app]
      rw [hnv]
      have hnl := hvl (k + 1)
      rw [hnv, List.length_append] at hnl
      generalize vsF kind (selR (l.take k) ids) = V0 at *
      generalize hvs : valuesF kind l[k] = vs at *
      refine LoopV.cntH Tryz.mixed [1, 2, 7, 16, 17, 18, 28, 29] vs.length (fun j => [(30, .c (.d (.int .i64 j)))]) (fun j => [.mp [.str] (Or.cmS (V0 ++ vs.take j)), .box 64 (l[k].ds.map C.d)]) (fun _ => True) trivial ?_ (by push_cast)
      intro j hj _
      push_cast
      refine ⟨fun h => ?_, fun h => ?_⟩
      · have hjl : j < vs.length := by omega
        have hs : Or.cmS (V0 ++ vs.take (j + 1)) = Or.addM (Or.cmS (V0 ++ vs.take j)) vs[j] := by
          unfold Or.cmS
          rw [Fc.take_next hjl, ← List.append_assoc, List.foldl_append]; rfl
        obtain ⟨h4, h5, h6⟩ := Or.cmS_spec (V0 ++ vs.take j)
        have hg : 0 ≤ mget (Or.cmS (V0 ++ vs.take j)) (Or.kS vs[j]) ∧ mget (Or.cmS (V0 ++ vs.take j)) (Or.kS vs[j]) ≤ 200100 := by
          rw [h6]
          by_cases hm : vs[j] ∈ Or.ddS (V0 ++ vs.take j)
          · rw [Or.mget_of hm]
            have := List.count_le_length (a := vs[j]) (l := V0 ++ vs.take j)
            rw [List.length_append, List.length_take] at this
            omega
          · have hh : mhas (Or.mpOf (Or.ddS (V0 ++ vs.take j)) fun v => ((V0 ++ vs.take j).count v : Int)) (Or.kS vs[j]) = false := by rw [Or.mhas_of, decide_eq_false hm]
            rw [(mget_none hh).1]; omega
        rw [hs]
        unfold Or.addM Or.kS
        unfold Or.kS at hg
        generalize Or.cmS (V0 ++ vs.take j) = M at *
        have hvl := h3.vl kind vs[j] (by rw [hvs]; exact List.getElem_mem hjl)
        exact ⟨hjl, ⟨Tryz.mapT91, by omega⟩, by omega, ⟨Tryz.mapT91, by omega⟩, by omega, hjl, rfl⟩
      · rw [List.take_of_length_le (by omega)]
        exact ⟨by omega, hlt, rfl⟩
    · rw [if_neg e] at hn
      exact ⟨by omega, hlt, by rw [hn]⟩
  · refine ⟨Tryz.mapT91, ?_⟩
    have hle : l.take k = l := List.take_of_length_le (by omega)
    rw [hle]
    refine LoopV.nilrow 12 79 2 ?_
    push_cast
    have hvl := hvl l.length
    rw [List.take_of_length_le (Nat.le_refl _)] at hvl
    have hcf : ∀ o s : List Bk, o.Perm ((Or.ddS (vsF kind (selR l ids))).map fun v => ⟨v, ((vsF kind (selR l ids)).count v : Int)⟩) → s.Perm o → (s.Pairwise fun x y => Or.ltS y.val x.val = false) → s = countF l ids kind := fun o s h1 h2 h3 => count_sorted kind (selR l ids) o s h1 h2 h3
    obtain ⟨h4, h5, h6⟩ := Or.cmS_spec (vsF kind (selR l ids))
    rw [h6]
    have hdl := ddS_len (vsF kind (selR l ids))
    generalize countF l ids kind = R at *
    generalize vsF kind (selR l ids) = V at *
    generalize Or.ddS V = dd at *
    have hc : ∀ v, ((V.count v : Nat) : Int) ≤ 200100 := fun v => by have := List.count_le_length (a := v) (l := V); omega
    refine LoopV.of Tryz.mixed [41] (S := List Str × Option (List KD × Int) × List Bk) (fun s => [(12, .c (.own 2 s.2.2.length))]) (fun s => [.dead, .it (Or.mpOf s.1 fun v => (V.count v : Int)) s.2.1, .row 79 2 (s.2.2.map Bk.ds) s.2.2.length]) (fun s => (s.2.2 ++ s.1.map fun v => (⟨v, (V.count v : Int)⟩ : Bk)).Perm (dd.map fun v => (⟨v, (V.count v : Int)⟩ : Bk))) (fun s => s.1.length) (dd, none, []) (by simp) (by push_cast) ?_
    rintro ⟨todo, last, o⟩ hp
    simp only at hp
    have hlen := hp.length_eq
    rw [List.length_append, List.length_map, List.length_map] at hlen
    push_cast
    refine ⟨fun h => ?_, fun i hi => ?_⟩
    · have ht : todo = [] := by
        cases todo with
        | nil => rfl
        | cons a b => cases h
      subst ht
      rw [List.map_nil, List.append_nil] at hp
      refine CallL.row2In (Tryz.rowSortBk o R (by simp only [List.length_nil] at hlen; omega) fun l' h1 h2 => hcf o l' hp h1 h2) bk_len rfl ⟨_, Tryz.func106, by kernel_rfl, by kernel_rfl⟩ ?_
      push_cast
    · have hi' : i < todo.length := by unfold Or.mpOf at hi; simpa using hi
      have e1 : (Or.mpOf todo fun v => ((V.count v : Nat) : Int))[i] = (Or.kS todo[i], ((V.count todo[i] : Nat) : Int)) := mpOf_get _ _ hi hi'
      have e2 : List.eraseIdx (Or.mpOf todo fun v => ((V.count v : Nat) : Int)) i = Or.mpOf (todo.eraseIdx i) fun v => ((V.count v : Nat) : Int) := map_erase _ todo i
      rw [e1, e2]
      push_cast
      have hle : (todo.eraseIdx i).length < todo.length := by rw [List.length_eraseIdx_of_lt hi']; omega
      have hpe : (o ++ [(⟨todo[i], ((V.count todo[i] : Nat) : Int)⟩ : Bk)] ++ (todo.eraseIdx i).map fun v => (⟨v, ((V.count v : Nat) : Int)⟩ : Bk)).Perm (dd.map fun v => ⟨v, ((V.count v : Nat) : Int)⟩) := by
        have h1 := (perm_erase hi').map fun v => (⟨v, ((V.count v : Nat) : Int)⟩ : Bk)
        rw [List.append_assoc]
        exact ((h1.symm.append_left o)).trans hp
      exact ⟨by omega, (todo.eraseIdx i, some (Or.kS todo[i], ((V.count todo[i] : Nat) : Int)), o ++ [⟨todo[i], ((V.count todo[i] : Nat) : Int)⟩]), ⟨hpe, hle⟩, by simp, ⟨rfl, rfl⟩, by simp [Bk.ds], by simp⟩
end Go.Proofs
