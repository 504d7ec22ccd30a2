/- Walks of the chapter on formats, fifth part. -/
import Derived.Test.YtimehiamdikinaaFWc
import Derived.Test.YtimehiamdikinaaFDb
set_option linter.all false
namespace Go.Proofs
open Go Go.Ax Go.Fm
set_option maxRecDepth 100000
variable {Γ : List (Nat × List D)}
theorem hit_same (l : List Fmt) (r i : Nat) (n : List Int) (hi : n.getD i 0 < 0) (id : Int) : hitP l r (n.set i ((r : Int) + 1)) id = hitP l r n id := by
  unfold hitP
  congr 1
  by_cases e : i = (findF l id).toNat
  · subst e
    have h1 : ¬ n.getD (findF l id).toNat 0 = (r : Int) := by omega
    have hl : (n.set (findF l id).toNat ((r : Int) + 1)).getD (findF l id).toNat 0 ≠ (r : Int) := by
      simp only [List.getD_eq_getElem?_getD, List.getElem?_set, if_pos]
      split
      · simp only [Option.getD_some]; omega
      · next q => rw [List.getD_eq_getElem?_getD, List.getElem?_eq_none (by omega)] at hi; simp at hi
    rw [decide_eq_false h1, decide_eq_false hl]
  · simp only [List.getD_eq_getElem?_getD, List.getElem?_set_ne e]
theorem c33 (l : List Fmt) (to : Nat) (ht : to < l.length) (hl : l.length ≤ 1000) (hn : ∀ f ∈ l, f.to.length ≤ 1000000) : AFn Try.prog Γ 33 [.c (.d (.lst 7 (l.map Fmt.ds))), .c (.d (.int .i64 to))] [.d (.lst 1 ((distF l to).map iD))] := by
  refine AFn.vc [] Try.func33 rfl Try.mixed (by kernel_rfl) Try.ntmps33 Try.results33 (by simp) ?_
  have hz : ∀ n : Nat, List.replicate n [D.int .i64 0] = (List.replicate n (0 : Int)).map iD := fun n => by simp [iD]
  push_cast
  refine ⟨⟨by omega, by omega⟩, ?_⟩
  rw [hz]
  refine LoopV.cntH Try.mixed [0, 1, 5, 17] l.length (fun k => [(18, .c (.d (.int .i64 k)))]) (fun k => [.row 3 1 ((upto (fun _ => (-1 : Int)) k (List.replicate l.length 0)).map iD) 0]) (fun _ => True) trivial ?_ (by push_cast; rw [upto_zero])
  intro k hk _
  have hul := upto_len (fun _ => (-1 : Int)) k (List.replicate l.length 0)
  rw [List.length_replicate] at hul
  push_cast
  refine ⟨fun h => ?_, fun h => ?_⟩
  · have hk' : k < (List.replicate l.length (0 : Int)).length := by rw [List.length_replicate]; omega
    have hsx := upto_set (fun _ => (-1 : Int)) hk'
    refine ⟨by omega, by omega, ⟨by omega, by omega⟩, by omega, ?_⟩
    rw [← hsx, ← map_set']; rfl
  have e0 : upto (fun _ => (-1 : Int)) k (List.replicate l.length 0) = List.replicate l.length (-1) := by rw [upto_end _ (by simp; omega)]; simp
  rw [e0]
  have hst : ((List.replicate l.length (-1)).map iD).set to [D.int .i64 0] = (dist0 l to).map iD := by
    rw [dist0, ← map_set']; rfl
  rw [hst, List.length_replicate]
  refine ⟨by omega, ht, ?_⟩
  refine LoopV.cntH Try.mixed [0, 5, 29] l.length (fun r => [(30, .c (.d (.int .i64 r)))]) (fun r => [.row 3 1 ((distN l to r).map iD) 0]) (fun _ => True) trivial ?_ (by push_cast; rfl)
  intro r hr _
  push_cast
  refine ⟨fun h2 => ?_, fun h2 => ?_⟩
  · have hdl := distN_len l to r
    refine LoopV.cntH Try.mixed [0, 5, 7, 29, 30, 33, 34] l.length (fun i => [(35, .c (.d (.int .i64 i)))]) (fun i => [.row 3 1 (((List.range i).foldl (distStep l r) (distN l to r)).map iD) 0]) (fun _ => True) trivial ?_ (by push_cast; rfl)
    intro i hi _
    have hsi : (List.range (i + 1)).foldl (distStep l r) (distN l to r) = distStep l r ((List.range i).foldl (distStep l r) (distN l to r)) i := by rw [List.range_succ, List.foldl_append]; rfl
    have hfl := distFold_len l r (List.range i) (distN l to r)
    have hfin : i = l.length → (List.range i).foldl (distStep l r) (distN l to r) = distN l to (r + 1) := fun e => by rw [e]; rfl
    generalize (List.range i).foldl (distStep l r) (distN l to r) = n at *
    generalize (List.range (i + 1)).foldl (distStep l r) (distN l to r) = n' at *
    push_cast
    refine ⟨fun h3 => ?_, fun h3 => ⟨⟨by omega, by omega⟩, by omega, by rw [hfin (by omega)]⟩⟩
    have hi' : i < l.length := by omega
    have gi : n.getD i 0 = n[i]'(by omega) := by simp [List.getElem?_eq_getElem (show i < n.length by omega)]
    have gl : l.getD i noFmt = l[i] := by simp [List.getElem?_eq_getElem hi']
    have hn' : n' = if 0 ≤ n[i]'(by omega) then n else if l[i].to.any (hitP l r n) = true then n.set i ((r : Int) + 1) else n := by rw [hsi, distStep, gi, gl]
    have htl := hn _ (List.getElem_mem hi')
    refine ⟨hi', by omega, by omega, fun a => ⟨⟨by omega, by omega⟩, hi', by rw [hn', if_pos a]⟩, fun a => ?_⟩
    rw [if_neg (by omega)] at hn'
    refine LoopV.cntH Try.mixed [0, 5, 7, 8, 29, 30, 33, 34, 35, 46, 47] l[i].to.length (fun j => [(48, .c (.d (.int .i64 j)))]) (fun j => [.row 3 1 ((if (l[i].to.take j).any (hitP l r n) = true then n.set i ((r : Int) + 1) else n).map iD) 0]) (fun _ => True) trivial ?_ (by push_cast; rfl)
    intro j hj _
    have hml : (if (l[i].to.take j).any (hitP l r n) = true then n.set i ((r : Int) + 1) else n).length = n.length := by split <;> simp
    have hmh : ∀ id, hitP l r (if (l[i].to.take j).any (hitP l r n) = true then n.set i ((r : Int) + 1) else n) id = hitP l r n id := fun id => by
      split
      · exact hit_same l r i n (by omega) id
      · rfl
    have hend : j = l[i].to.length → (if (l[i].to.take j).any (hitP l r n) = true then n.set i ((r : Int) + 1) else n) = n' := fun e => by rw [hn', take_all (by omega)]
    have hnx : ∀ (hj' : j < l[i].to.length), (if (l[i].to.take (j + 1)).any (hitP l r n) = true then n.set i ((r : Int) + 1) else n) = if hitP l r n l[i].to[j] = true then (if (l[i].to.take j).any (hitP l r n) = true then n.set i ((r : Int) + 1) else n).set i ((r : Int) + 1) else (if (l[i].to.take j).any (hitP l r n) = true then n.set i ((r : Int) + 1) else n) := fun hj' => by
      rw [take_next hj', List.any_append]
      cases (l[i].to.take j).any (hitP l r n) <;> cases h9 : hitP l r n l[i].to[j] <;> simp [h9, List.set_set]
    generalize (if (l[i].to.take j).any (hitP l r n) = true then n.set i ((r : Int) + 1) else n) = m at *
    generalize (if (l[i].to.take (j + 1)).any (hitP l r n) = true then n.set i ((r : Int) + 1) else n) = m' at *
    push_cast
    refine ⟨fun h4 => ?_, fun h4 => ⟨⟨by omega, by omega⟩, hi', by rw [hend (by omega)]⟩⟩
    have hj' : j < l[i].to.length := by omega
    have hnx := hnx hj'
    rw [← hmh] at hnx
    refine ⟨hj', ?_⟩
    refine CallL.q (c32 l l[i].to[j] (by omega)) ?_
    push_cast
    have hfl2 : findF l l[i].to[j] < l.length := fI_lt _ _
    have hP : ∀ (g : 0 ≤ findF l l[i].to[j]) (g2 : (findF l l[i].to[j]).toNat < m.length), hitP l r m l[i].to[j] = decide (m[(findF l l[i].to[j]).toNat] = (r : Int)) := fun g g2 => by
      unfold hitP; rw [decide_eq_true g, Bool.true_and]
      simp [List.getElem?_eq_getElem g2]
    refine ⟨fun g => ⟨⟨g, by omega⟩, by omega, fun q => ⟨⟨by omega, by omega⟩, by omega, by omega, ⟨by omega, by omega⟩, hj', ?_⟩, fun q => ⟨⟨by omega, by omega⟩, hj', ?_⟩⟩, fun g => ⟨⟨by omega, by omega⟩, hj', ?_⟩⟩
    · rw [hP g (by omega), decide_eq_true q, if_pos rfl] at hnx
      rw [hnx, ← map_set']; rfl
    · rw [hP g (by omega), decide_eq_false q] at hnx
      rw [hnx]; rfl
    · have : hitP l r m l[i].to[j] = false := by unfold hitP; rw [decide_eq_false (by omega)]; rfl
      rw [this] at hnx
      rw [hnx]; rfl
  · obtain rfl : r = l.length := by omega
    rfl
end Go.Proofs
