/- Walks of the chapter on formats, sixth part (under way). -/
import Derived.Test.YtimehiamdikinaaFWe
set_option linter.all false
namespace Go.Proofs
open Go Go.Ax Go.Fm
set_option maxRecDepth 100000
variable {Γ : List (Nat × List D)}
def Uniq (l : List Fmt) : Prop := ∀ (i j : Nat) (hi : i < l.length) (hj : j < l.length), l[i].id = l[j].id → i = j
theorem find_at (l : List Fmt) (hu : Uniq l) (k : Nat) (hk : k < l.length) : findF l l[k].id = k := by
  unfold findF
  rcases fI_spec (fun f => decide (f.id = l[k].id)) l 0 with ⟨_, h2⟩ | ⟨j, h1, h2, h3⟩
  · have := List.find?_eq_none.1 h2 l[k] (List.getElem_mem hk)
    simp at this
  · have := List.find?_some h3
    have := hu j k h2 hk (by simpa using this)
    subst this
    rw [h1]; simp
def hitR (l : List Fmt) (r : Int) (n : List Int) (t : List Int) (k : Nat) : Bool := decide (n.getD k 0 = r) && inF t (l.getD k noFmt).id
theorem hit_iff (l : List Fmt) (hu : Uniq l) (r : Int) (n : List Int) (t : List Int) : t.any (hitP l r n) = (List.range l.length).any (hitR l r n t) := by
  rw [Bool.eq_iff_iff]
  simp only [List.any_eq_true, List.mem_range, hitP, hitR, inF, Bool.and_eq_true, decide_eq_true_eq]
  constructor
  · rintro ⟨id, hid, h0, h1⟩
    have hlt : findF l id < l.length := fI_lt _ _
    refine ⟨(findF l id).toNat, by omega, h1, id, hid, ?_⟩
    rcases fI_spec (fun f => decide (f.id = id)) l 0 with ⟨h2, _⟩ | ⟨j, h2, h3, h4⟩
    · unfold findF at h0; omega
    · have e : (findF l id).toNat = j := by unfold findF; rw [h2]; simp
      rw [e]
      have := List.find?_some h4
      simp [List.getElem?_eq_getElem h3]
      exact (by simpa using this : l[j].id = id).symm
  · rintro ⟨k, hk, h1, id, hid, h2⟩
    have e : (l.getD k noFmt) = l[k] := by simp [List.getElem?_eq_getElem hk]
    rw [e] at h2
    refine ⟨id, hid, ?_⟩
    rw [h2, find_at l hu k hk, Int.toNat_natCast]
    exact ⟨by omega, h1⟩
theorem c36 (l : List Fmt) (hu : Uniq l) (to : Nat) (ht : to < l.length) (hl : l.length ≤ 1000) (hn : ∀ f ∈ l, f.to.length ≤ 1000000) : AFn Try.prog Γ 36 [.c (.d (.lst 7 (l.map Fmt.ds))), .c (.d (.int .i64 l[to].id))] [.d (.lst 1 ((distF l to).map iD))] := by
  refine AFn.vc [] Try.func36 rfl Try.mixed (by kernel_rfl) Try.ntmps36 Try.results36 (by simp) ?_
  push_cast
  refine LoopV.nilrow 5 3 1 ?_
  push_cast
  refine LoopV.cntH Try.mixed [0, 1] l.length (fun k => [(5, .c (.own 0 k)), (6, .c (.d (.int .i64 k)))]) (fun k => [.row 3 1 (((dist0 l to).take k).map iD) k]) (fun _ => True) trivial ?_ (by push_cast)
  intro k hk _
  have hd0 : (dist0 l to).length = l.length := by simp [dist0]
  push_cast
  refine ⟨fun h => ?_, fun h => ?_⟩
  · have hk' : k < l.length := by omega
    rw [hd0]
    rw [map_take_next _ (show k < (dist0 l to).length by omega)]
    have hg : (dist0 l to)[k]'(by omega) = if to = k then 0 else -1 := by
      simp only [dist0, List.getElem_set, List.getElem_replicate]
    rw [hg]
    refine ⟨hk', fun a => ⟨⟨by omega, by omega⟩, ⟨by omega, by omega⟩, hk', ?_⟩, fun a => ⟨⟨by omega, by omega⟩, ⟨by omega, by omega⟩, hk', ?_⟩⟩
    · rw [if_pos (hu k to hk' ht a).symm]; rfl
    · rw [if_neg (fun e => a (by subst e; rfl))]; rfl
  obtain rfl : k = l.length := by omega
  rw [take_all (by omega)]
  refine LoopV.cntH Try.mixed [0, 5] l.length (fun r => [(7, .c (.d (.int .i64 r)))]) (fun r => [.row 3 1 ((distN l to r).map iD) l.length]) (fun _ => True) trivial ?_ (by push_cast; rfl)
  intro r hr _
  have hdl := distN_len l to r
  push_cast
  refine ⟨fun h2 => ?_, fun h2 => ?_⟩
  · refine LoopV.cntH Try.mixed [0, 5, 7] l.length (fun i => [(8, .c (.d (.int .i64 i)))]) (fun i => [.row 3 1 (((List.range i).foldl (distStep l r) (distN l to r)).map iD) l.length]) (fun _ => True) trivial ?_ (by push_cast; rfl)
    intro i hi _
    have hsi : (List.range (i + 1)).foldl (distStep l r) (distN l to r) = distStep l r ((List.range i).foldl (distStep l r) (distN l to r)) i := by rw [List.range_succ, List.foldl_append]; rfl
    have hfl := distFold_len l r (List.range i) (distN l to r)
    have hfin : i = l.length → (List.range i).foldl (distStep l r) (distN l to r) = distN l to (r + 1) := fun e => by rw [e]; rfl
    generalize (List.range i).foldl (distStep l r) (distN l to r) = n at *
    generalize (List.range (i + 1)).foldl (distStep l r) (distN l to r) = n' at *
    push_cast
    refine ⟨fun h3 => ?_, fun h3 => ⟨⟨by omega, by omega⟩, by omega, by rw [hfin (by omega)]⟩⟩
    have hi' : i < l.length := by omega
    have gi : n.getD i 0 = n[i]'(by omega) := by simp [List.getElem?_eq_getElem (show i < n.length by omega)]
    have gl : l.getD i noFmt = l[i] := by simp [List.getElem?_eq_getElem hi']
    have hn' : n' = if 0 ≤ n[i]'(by omega) then n else if (List.range l.length).any (hitR l r n l[i].to) = true then n.set i ((r : Int) + 1) else n := by rw [hsi, distStep, gi, gl, hit_iff l hu]
    have htl := hn _ (List.getElem_mem hi')
    refine ⟨by omega, by omega, fun a => ⟨⟨by omega, by omega⟩, hi', by rw [hn', if_pos a]⟩, fun a => ?_⟩
    rw [if_neg (by omega)] at hn'
    refine LoopV.cnt Try.mixed [0, 5, 7, 8] l.length (fun j => [(9, .c (.d (.int .i64 j)))]) (fun j => (List.range l.length).any (hitR l r n l[i].to) = ((List.range l.length).drop j).any (hitR l r n l[i].to)) rfl ?_ (by push_cast)
    intro j hj hin
    push_cast
    refine ⟨fun h4 => ?_, fun h4 => ?_⟩
    · have hj' : j < l.length := by omega
      rw [any_drop _ (by simpa using hj'), List.getElem_range] at hin
      have gj : n.getD j 0 = n[j]'(by omega) := by simp [List.getElem?_eq_getElem (show j < n.length by omega)]
      have glj : l.getD j noFmt = l[j] := by simp [List.getElem?_eq_getElem hj']
      have hh : hitR l r n l[i].to j = (decide (n[j]'(by omega) = (r : Int)) && inF l[i].to l[j].id) := by unfold hitR; rw [gj, glj]
      rw [hh] at hin
      refine ⟨by omega, by omega, fun b => ⟨hi', hj', ?_⟩, fun b => ⟨⟨by omega, by omega⟩, hj', ?_⟩⟩
      · refine CallX.q (c37 l[i].to l[j].id htl) ?_
        push_cast
        refine ⟨fun d => ⟨⟨by omega, by omega⟩, by omega, by omega, ⟨by omega, by omega⟩, hi', ?_⟩, fun d => ⟨⟨by omega, by omega⟩, hj', ?_⟩⟩
        · rw [hin, decide_eq_true b, d] at hn'
          rw [hn', Bool.and_self, Bool.true_or, if_pos rfl, ← map_set']; rfl
        · rw [hin, d, Bool.and_false, Bool.false_or]
      · rw [hin, decide_eq_false b]; rfl
    · have e : (List.range l.length).any (hitR l r n l[i].to) = false := by rw [hin, drop_end (by simp; omega)]; rfl
      rw [e] at hn'
      refine ⟨⟨by omega, by omega⟩, hi', ?_⟩
      rw [hn']; rfl
  · obtain rfl : r = l.length := by omega
    rfl
end Go.Proofs
